/-
  Tables of the call's own whose rows lie in different blocks; what the exact laws keep in view of them. No conditions: nothing is claimed of the program here.
-/
import Derived.Test.YtcalfblghblhcaaOwn
import Derived.Test.YtcalfblghblhcaaThing
namespace Go.Proofs.Ytcalfblghblhcaa
open Go.RowKit

def Sl.blk (s : Sl) : Option Nat := s.A.map (·.block)
theorem ownBlock_slice (A : Option Addr) (n c : Nat) : (Value.slice A n c).ownBlock = A.map (·.block) := by cases A <;> rfl

/-- a table of the call's own; its rows lie in different blocks, all below top -/
structure TabD (w : World) (base top : Nat) (A : Option Addr) (n c : Nat) (R : List Sl) : Prop where
  tab : Tab w base A n c R
  apart : ∀ (i j : Nat) (r s : Sl), R[i]? = some r → R[j]? = some s → i ≠ j → r.blk = none ∨ r.blk ≠ s.blk
  under : ∀ r ∈ R, ∀ k, r.blk = some k → k < top

section
variable {w w' : World} {base top n c : Nat} {A : Option Addr} {R : List Sl}
theorem TabD.nil (w : World) (base top : Nat) : TabD w base top none 0 0 [] := ⟨Tab.nil w base, by simp, by simp⟩
theorem TabD.empty0 {cs : Array Value} (k : Nat) (hcs : cs.size = k) (hb : base ≤ w.heap.size) (hm : k ≤ 1000000 := by omega) : TabD (w.alloc (.cells cs 23)) base top (some ⟨w.heap.size, 0, none⟩) 0 k [] := ⟨Tab.empty0 k hcs hb hm, by simp, by simp⟩
theorem TabD.emptyAt {g : Nat} (hg : g = w.heap.size) (k : Nat) (z : Value) (hb : base ≤ g) (hm : k ≤ 1000000) : TabD (w.alloc (.cells (madeCells #[z] k) 23)) base top (some ⟨g, 0, none⟩) 0 k [] := by
  subst hg
  exact TabD.empty0 k (by simp [madeCells]) hb hm
theorem Row.emptyAt {g : Nat} (hg : g = w.heap.size) (k : Nat) (z : Value) (hb : base ≤ g) (hm : k ≤ 1000000) : Row (w.alloc (.cells (madeCells #[z] k) 3)) base (some ⟨g, 0, none⟩) 0 k [] := by
  subst hg
  exact Row.empty k z hb hm
theorem TabD.mono {base' top' : Nat} (h : TabD w base top A n c R) (hb : base' ≤ base) (ht : top ≤ top') : TabD w base' top' A n c R := ⟨h.tab.mono hb, h.apart, fun r hr k hk => Nat.lt_of_lt_of_le (h.under r hr k hk) ht⟩
theorem TabD.keep (h : TabD w base top A n c R) (hb : Below w.heap.size w w') : TabD w' base top A n c R := ⟨h.tab.keep hb, h.apart, h.under⟩
theorem TabD.drew (h : TabD w base top A n c R) : TabD w.drew base top A n c R := ⟨h.tab.drew, h.apart, h.under⟩
theorem TabD.alloc (h : TabD w base top A n c R) (o : Obj) : TabD (w.alloc o) base top A n c R := ⟨h.tab.alloc o, h.apart, h.under⟩
theorem TabD.row (h : TabD w base top A n c R) {i : Nat} {r : Sl} (hr : R[i]? = some r) : Row w base r.A r.xs.length r.c r.xs := h.tab.2.2 r (List.mem_of_getElem? hr)
/-- a row behind the others -/
theorem TabD.push {A' A1 : Option Addr} {c' n1 c1 top' : Nat} {ys : List Int} {w0 : World} (h : TabD w0 base top A n c R) (hrow : Row w0 top A1 n1 c1 ys) (ht : Tab w' base A' (n + 1) c' (R ++ [⟨A1, c1, ys⟩])) (htop : top ≤ top') (hlt : ∀ k, A1.map (·.block) = some k → k < top') :
    TabD w' base top' A' (n + 1) c' (R ++ [⟨A1, c1, ys⟩]) := by
  have hnew : ∀ r ∈ R, r.blk = none ∨ r.blk ≠ (A1.map (·.block)) := fun r hr => by
    cases hb : r.blk with
    | none => exact .inl rfl
    | some k =>
      refine .inr fun e => ?_
      have h1 := h.under r hr k hb
      have h2 := (hrow.blk k (by rw [ownBlock_slice]; exact e.symm)).1
      omega
  refine ⟨ht, fun i j r s hi hj hne => ?_, fun r hr k hk => ?_⟩
  · rw [List.getElem?_append] at hi hj
    split at hi
    · split at hj
      · exact h.apart i j r s hi hj hne
      · have : s = ⟨A1, c1, ys⟩ := by
          rename_i h1 h2
          have : j - R.length = 0 := by
            have hl : j - R.length < 1 := by
              rcases Nat.lt_or_ge (j - R.length) 1 with h | h
              · exact h
              · rw [List.getElem?_eq_none (by simpa using h)] at hj; cases hj
            omega
          rw [this] at hj
          simpa using hj.symm
        subst this
        exact hnew r (List.mem_of_getElem? hi)
    · have hi' : r = ⟨A1, c1, ys⟩ := by
        have : i - R.length = 0 := by
          rcases Nat.lt_or_ge (i - R.length) 1 with h | h
          · omega
          · rw [List.getElem?_eq_none (by simpa using h)] at hi; cases hi
        rw [this] at hi
        simpa using hi.symm
      subst hi'
      split at hj
      · rcases hnew s (List.mem_of_getElem? hj) with h1 | h1
        · cases hb : (Sl.mk A1 c1 ys).blk with
          | none => exact .inl rfl
          | some k => exact .inr (by rw [h1]; simp)
        · exact .inr fun e => h1 e.symm
      · rename_i g1 g2
        have : j - R.length = 0 := by
          rcases Nat.lt_or_ge (j - R.length) 1 with h | h
          · omega
          · rw [List.getElem?_eq_none (by simpa using h)] at hj; cases hj
        have : i - R.length = 0 := by
          rcases Nat.lt_or_ge (i - R.length) 1 with h | h
          · omega
          · rw [List.getElem?_eq_none (by simpa using h)] at hi; cases hi
        omega
  · rw [List.mem_append, List.mem_singleton] at hr
    rcases hr with hr | rfl
    · exact Nat.lt_of_lt_of_le (h.under r hr k hk) htop
    · exact hlt k hk
end

theorem IT.of_row {w : World} {base n c : Nat} {A : Option Addr} {xs : List Int} (h : Row w base A n c xs) : IT w base w.heap.size A n (fun i => xs.getD i 0) := by
  rcases h.2.2 with ⟨h1, h2⟩ | ⟨g, cap, cur, h1, h2, h3, h4, h5, h6, h7⟩
  · injection h1 with h1
    exact .inl ⟨h1, h2⟩
  · injection h1 with h1 h8 h9
    subst h1 h9
    have hlt : g < w.heap.size := Blk.lt (t := 3) (cs := cur) h3
    refine .inr ⟨g, cur.size, fun i => cur.getD i (.int .i64 0), rfl, ⟨h2, hlt⟩, ⟨cur, h3, rfl, fun i hi => by simp [Array.getD, hi]⟩, by omega, fun i hi => ?_⟩
    have e : cur.toList.take n = xs.map (Value.int .i64) := by simpa using h7
    have e2 : (cur.toList.take n)[i]? = (xs.map (Value.int .i64))[i]? := by rw [e]
    rw [List.getElem?_take_of_lt hi, Array.getElem?_toList] at e2
    have hx : i < xs.length := by rw [h.1]; exact hi
    have hc : i < cur.size := by omega
    simp only [Array.getD, hc, dite_true]
    rw [Array.getElem?_eq_getElem hc, List.getElem?_map, List.getElem?_eq_getElem hx] at e2
    simp only [Option.map_some, Option.some.injEq] at e2
    rw [show cur.getInternal i hc = cur[i] from rfl, e2]
    simp [List.getD, hx]
theorem MTR.of_tab {w : World} {base top n c : Nat} {A : Option Addr} {R : List Sl} (h : TabD w base top A n c R) : MTR w base w.heap.size A n (fun i => (R.getD i ⟨none, 0, []⟩).xs.length) (fun i j => (R.getD i ⟨none, 0, []⟩).xs.getD j 0) (fun i => (R.getD i ⟨none, 0, []⟩).A) := by
  rcases h.tab.2.1.2 with ⟨h1, h2⟩ | ⟨g, cap, cur, h1, h2, h3, h4, h5, h6, h7⟩
  · injection h1 with h1
    exact .inl ⟨h1, h2⟩
  · injection h1 with h1 h8 h9
    subst h1 h9
    have hlt : g < w.heap.size := Blk.lt (t := 23) (cs := cur) h3
    refine .inr ⟨g, cur.size, fun i => cur.getD i (.slice none 0 0), fun i => (R.getD i ⟨none, 0, []⟩).c, rfl, ⟨h2, hlt⟩, ⟨cur, h3, rfl, fun i hi => by simp [Array.getD, hi]⟩, by omega, fun i hi => ?_, fun i j hi hj hne => ?_⟩
    · have e : cur.toList.take n = R.map Sl.val := by simpa using h7
      have e2 : (cur.toList.take n)[i]? = (R.map Sl.val)[i]? := by rw [e]
      rw [List.getElem?_take_of_lt hi, Array.getElem?_toList] at e2
      have hx : i < R.length := by rw [h.tab.1]; exact hi
      have hc : i < cur.size := by omega
      have hr := IT.of_row (h.tab.2.2 _ (List.getElem_mem hx))
      simp only [Array.getD, hc, dite_true, List.getD, List.getElem?_eq_getElem hx, Option.getD_some]
      rw [Array.getElem?_eq_getElem hc, List.getElem?_map, List.getElem?_eq_getElem hx] at e2
      simp only [Option.map_some, Option.some.injEq] at e2
      refine ⟨?_, hr⟩
      rw [show cur.getInternal i hc = cur[i] from rfl, e2]
      rfl
    · have hi' : i < R.length := by rw [h.tab.1]; exact hi
      have hj' : j < R.length := by rw [h.tab.1]; exact hj
      simp only [List.getD, List.getElem?_eq_getElem hi', List.getElem?_eq_getElem hj', Option.getD_some]
      rcases h.apart i j _ _ (List.getElem?_eq_getElem hi') (List.getElem?_eq_getElem hj') hne with h1 | h1
      · refine .inl ?_
        cases hA : R[i].A with
        | none => rfl
        | some a => rw [Sl.blk, hA] at h1; cases h1
      · exact .inr fun e => h1 (by rw [Sl.blk, Sl.blk, e])
theorem MT.of_tab {w : World} {base top n c : Nat} {A : Option Addr} {R : List Sl} (h : TabD w base top A n c R) : MT w base w.heap.size A n (fun i => (R.getD i ⟨none, 0, []⟩).xs.length) (fun i j => (R.getD i ⟨none, 0, []⟩).xs.getD j 0) := ⟨_, MTR.of_tab h⟩
end Go.Proofs.Ytcalfblghblhcaa
