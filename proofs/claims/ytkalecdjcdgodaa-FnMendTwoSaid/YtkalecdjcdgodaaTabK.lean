/-
  Tables of the call's own whose rows are cut to their length (slices.Clip). No conditions: nothing is claimed of the program here.
-/
import Derived.Test.YtkalecdjcdgodaaTabC
namespace Go.Proofs.Ytkalecdjcdgodaa
open Go.RowKit

def Sl.clp (s : Sl) : Value := .slice s.A s.xs.length s.xs.length
/-- a table whose rows' capacities are their lengths -/
structure TK (w : World) (base top : Nat) (A : Option Addr) (n c : Nat) (R : List Sl) : Prop where
  len : R.length = n
  out : w.ownsRow base 22 1 (.slice A n c) n (R.map Sl.clp)
  rows : ∀ r ∈ R, Row w base r.A r.xs.length r.c r.xs
  apart : ∀ (i j : Nat) (r s : Sl), R[i]? = some r → R[j]? = some s → i ≠ j → r.blk = none ∨ r.blk ≠ s.blk
  under : ∀ r ∈ R, ∀ k, r.blk = some k → k < top

section
variable {w w' : World} {base top n c : Nat} {A : Option Addr} {R : List Sl}
theorem TK.empty {cs : Array Value} (k : Nat) (hcs : cs.size = k) (hb : base ≤ w.heap.size) (hm : k ≤ 1000000 := by omega) : TK (w.alloc (.cells cs 22)) base top (some ⟨w.heap.size, 0, none⟩) 0 k [] :=
  ⟨rfl, ⟨by simp, .inr ⟨w.heap.size, k, _, rfl, hb, heap_alloc_new w _, Nat.zero_le _, by unfold maxLen; omega, by simp [hcs], by simp⟩⟩, by simp, by simp, by simp⟩
theorem TK.mono {base' top' : Nat} (h : TK w base top A n c R) (hb : base' ≤ base) (ht : top ≤ top') : TK w base' top' A n c R := ⟨h.len, own_mono h.out hb, fun r hr => (h.rows r hr).mono hb, h.apart, fun r hr k hk => Nat.lt_of_lt_of_le (h.under r hr k hk) ht⟩
theorem TK.keep (h : TK w base top A n c R) (hb : Below w.heap.size w w') : TK w' base top A n c R := ⟨h.len, own_below h.out hb, fun r hr => (h.rows r hr).keep hb, h.apart, h.under⟩
theorem TK.drew (h : TK w base top A n c R) : TK w.drew base top A n c R := ⟨h.len, h.out, h.rows, h.apart, h.under⟩
theorem TK.form (h : TK w base top A n c R) : (A = none ∧ n = 0 ∧ c = 0) ∨ ∃ g, A = some ⟨g, 0, none⟩ ∧ base ≤ g ∧ g < w.heap.size ∧ n ≤ c := by
  rcases h.out.2 with ⟨h1, h2⟩ | ⟨g, cap, cur, h1, h2, h3, h4, _⟩
  · injection h1 with h1 _ h3
    exact .inl ⟨h1, h2, h3⟩
  · injection h1 with h1 _ h5
    subst h1 h5
    exact .inr ⟨g, rfl, h2, (h.out.lt g rfl).2, h4⟩
theorem TK.at_ (h : TK w base top A n c R) {i : Nat} (hi : i < n) : ∃ b r, A = some ⟨b, 0, none⟩ ∧ base ≤ b ∧ b < w.heap.size ∧ R[i]? = some r ∧ w.cell? ⟨b, i, none⟩ = some (.slice r.A r.xs.length r.xs.length) ∧ Row w base r.A r.xs.length r.c r.xs := by
  have hl : i < R.length := by rw [h.len]; exact hi
  rcases h.form with ⟨_, h0, _⟩ | ⟨g, rfl, h1, h2, h3⟩
  · omega
  · refine ⟨g, R[i], rfl, h1, h2, List.getElem?_eq_getElem hl, ?_, h.rows _ (List.getElem_mem hl)⟩
    rw [h.out.cellAt i (by omega)]
    simp [hl, Sl.clp]
theorem TK.blk (h : TK w base top A n c R) : ∀ k, (Value.slice A n c).ownBlock = some k → base ≤ k ∧ k < w.heap.size := h.out.lt
/-- a row behind the others -/
theorem TK.push {A' A1 : Option Addr} {c' n1 c1 top' : Nat} {ys : List Int} {w0 : World} (h : TK w0 base top A n c R) (hrow : Row w0 top A1 n1 c1 ys) (hbt : base ≤ top)
    (ho : w'.ownsRow base 22 1 (.slice A' (n + 1) c') (n + 1) (R.map Sl.clp ++ [.slice A1 n1 n1])) (hg : w0.grownBy w' (Value.slice A n c).ownBlock) (htop : top ≤ top') (hlt : ∀ k, A1.map (·.block) = some k → k < top') :
    TK w' base top' A' (n + 1) c' (R ++ [⟨A1, c1, ys⟩]) := by
  have hl1 := hrow.1
  have hnew : ∀ r ∈ R, r.blk = none ∨ r.blk ≠ (A1.map (·.block)) := fun r hr => by
    cases hb : r.blk with
    | none => exact .inl rfl
    | some k =>
      refine .inr fun e => ?_
      have h1 := h.under r hr k hb
      have h2 := (hrow.blk k (by rw [ownBlock_slice]; exact e.symm)).1
      omega
  refine ⟨by simp [h.len], by rw [List.map_append, List.map_cons, List.map_nil, Sl.clp, hl1]; exact ho, fun r hr => ?_, fun i j r s hi hj hne => ?_, fun r hr k hk => ?_⟩
  · have hr0 : Row w0 base r.A r.xs.length r.c r.xs := by
      rw [List.mem_append, List.mem_singleton] at hr
      rcases hr with hr | rfl
      · exact h.rows r hr
      · subst hl1
        exact hrow.mono hbt
    exact hr0.kept hg (own_ne hr0.2 h.out (by decide))
  · rw [List.getElem?_append] at hi hj
    split at hi
    · split at hj
      · exact h.apart i j r s hi hj hne
      · have : s = ⟨A1, c1, ys⟩ := by
          rename_i h1 h2
          have : j - R.length = 0 := by
            have hl : j - R.length < 1 := by
              rcases Nat.lt_or_ge (j - R.length) 1 with h | h
              · exact h
              · rw [List.getElem?_eq_none (by simpa using h)] at hj; cases hj
            omega
          rw [this] at hj
          simpa using hj.symm
        subst this
        exact hnew r (List.mem_of_getElem? hi)
    · have hi' : r = ⟨A1, c1, ys⟩ := by
        have : i - R.length = 0 := by
          rcases Nat.lt_or_ge (i - R.length) 1 with h | h
          · omega
          · rw [List.getElem?_eq_none (by simpa using h)] at hi; cases hi
        rw [this] at hi
        simpa using hi.symm
      subst hi'
      split at hj
      · rcases hnew s (List.mem_of_getElem? hj) with h1 | h1
        · cases hb : (Sl.mk A1 c1 ys).blk with
          | none => exact .inl rfl
          | some k => exact .inr (by rw [h1]; simp)
        · exact .inr fun e => h1 e.symm
      · rename_i g1 g2
        have : j - R.length = 0 := by
          rcases Nat.lt_or_ge (j - R.length) 1 with h | h
          · omega
          · rw [List.getElem?_eq_none (by simpa using h)] at hj; cases hj
        have : i - R.length = 0 := by
          rcases Nat.lt_or_ge (i - R.length) 1 with h | h
          · omega
          · rw [List.getElem?_eq_none (by simpa using h)] at hi; cases hi
        omega
  · rw [List.mem_append, List.mem_singleton] at hr
    rcases hr with hr | rfl
    · exact Nat.lt_of_lt_of_le (h.under r hr k hk) htop
    · exact hlt k hk
/-- a cell of a row is written -/
theorem TK.setIn (h : TK w base top A n c R) {i j : Nat} {r : Sl} (hr : R[i]? = some r) (hj : j < r.xs.length) :
    ∃ b, r.A = some ⟨b, 0, none⟩ ∧ base ≤ b ∧ b < w.heap.size ∧ w.cell? ⟨b, j, none⟩ = some (.int .i64 (r.xs.getD j 0)) ∧ w.frozen? ⟨b, j, none⟩ = false ∧ ∀ v, TK (w.setCell ⟨b, j, none⟩ (.int .i64 v)) base top A n c (R.set i ⟨r.A, r.c, r.xs.set j v⟩) := by
  have hrow0 := h.rows r (List.mem_of_getElem? hr)
  obtain ⟨b, e, h1, h2, h3, h4, h5⟩ := hrow0.at_ hj
  refine ⟨b, e, h1, h2, h3, h4, fun v => ⟨by simp [h.len], ?_, fun s hs => ?_, fun a d s t hs ht hne => ?_, fun s hs k hk => ?_⟩⟩
  · have he : (R.set i ⟨r.A, r.c, r.xs.set j v⟩).map Sl.clp = R.map Sl.clp := by
      rw [List.map_set]
      refine List.ext_getElem? fun a => ?_
      rw [List.getElem?_set]
      split
      · rename_i h6
        subst h6
        split
        · rename_i h7
          simp [List.getElem?_map, hr, Sl.clp]
        · rename_i h7
          rw [List.getElem?_eq_none (by simpa using h7)]
      · rfl
    rw [he]
    refine own_of_block h.out fun k hk => Below.heap_setCell w _ _ k ?_
    intro hkb
    dsimp only at hkb
    subst hkb
    rcases own_ne hrow0.2 h.out (by decide) with h6 | h6
    · rw [ownBlock_slice, e] at h6; cases h6
    · rw [hk, ownBlock_slice, e] at h6; exact h6 rfl
  · obtain ⟨q, hq, rfl⟩ := List.mem_iff_getElem.1 hs
    simp only [List.length_set] at hq
    rw [List.getElem_set]
    split
    · have h6 := h5 v
      simpa using h6
    · rename_i h6
      have hrow := h.rows _ (List.getElem_mem hq)
      refine hrow.setFar (fun k hk => ?_) _
      rw [ownBlock_slice] at hk
      intro hkb
      dsimp only at hkb
      subst hkb
      rcases h.apart q i _ r (List.getElem?_eq_getElem hq) hr (fun e => h6 e.symm) with h7 | h7
      · rw [Sl.blk, hk] at h7; cases h7
      · rw [Sl.blk, Sl.blk, hk, e] at h7; exact h7 rfl
  · have hb : ∀ (a : Nat) (s : Sl), (R.set i ⟨r.A, r.c, r.xs.set j v⟩)[a]? = some s → ∃ s', R[a]? = some s' ∧ s'.blk = s.blk := fun a s hs => by
      rw [List.getElem?_set] at hs
      split at hs
      · rename_i h6
        subst h6
        split at hs
        · injection hs with hs; subst hs; exact ⟨r, hr, rfl⟩
        · cases hs
      · exact ⟨s, hs, rfl⟩
    obtain ⟨s', hs', e1⟩ := hb a s hs
    obtain ⟨t', ht', e2⟩ := hb d t ht
    have := h.apart a d s' t' hs' ht' hne
    rwa [e1, e2] at this
  · have hb : ∃ s' ∈ R, s'.blk = s.blk := by
      rcases List.mem_or_eq_of_mem_set hs with h6 | h6
      · exact ⟨s, h6, rfl⟩
      · subst h6; exact ⟨r, List.mem_of_getElem? hr, rfl⟩
    obtain ⟨s', hs', e1⟩ := hb
    exact h.under s' hs' k (e1.trans hk)
theorem TbC.matK {m : Nat} {C : Nat → Nat → Int} (h : TbC R n m C) (ht : TK w base top A n c R) : Mat w w.heap.size A n (fun _ => m) C := fun h0 => by
  rcases ht.form with ⟨_, h0, _⟩ | ⟨g, rfl, h1, h2, h3⟩
  · omega
  · refine ⟨g, 0, rfl, h2, fun i hi => ?_⟩
    obtain ⟨b, r, e, _, _, hr, hc, hrow⟩ := ht.at_ hi
    obtain ⟨r2, hr2, g1, g2⟩ := h.row hi
    obtain rfl : r = r2 := by rw [hr] at hr2; injection hr2
    injection e with e
    injection e with e
    subst e
    rw [Nat.zero_add]
    rw [g1] at hc
    refine ⟨r.A, m, hc, ?_⟩
    have := hrow.ints
    rw [g1] at this
    exact this.congr (fun j hj => g2 j hj)
theorem TbC.mtK {m : Nat} {C : Nat → Nat → Int} (h : TbC R n m C) (ht : TK w base top A n c R) : MT w base w.heap.size A n (fun _ => m) C := by
  refine ⟨fun i => (R.getD i ⟨none, 0, []⟩).A, ?_⟩
  rcases ht.out.2 with ⟨h1, h2⟩ | ⟨g, cap, cur, h1, h2, h3, h4, h5, h6, h7⟩
  · injection h1 with h1
    exact .inl ⟨h1, h2⟩
  · injection h1 with h1 h8 h9
    subst h1 h9
    have hlt : g < w.heap.size := Blk.lt (t := 22) (cs := cur) h3
    refine .inr ⟨g, cur.size, fun i => cur.getD i (.slice none 0 0), fun _ => m, rfl, ⟨h2, hlt⟩, ⟨cur, h3, rfl, fun i hi => by simp [Array.getD, hi]⟩, by omega, fun i hi => ?_, fun i j hi hj hne => ?_⟩
    · have e : cur.toList.take n = R.map Sl.clp := by simpa using h7
      have e2 : (cur.toList.take n)[i]? = (R.map Sl.clp)[i]? := by rw [e]
      rw [List.getElem?_take_of_lt hi, Array.getElem?_toList] at e2
      have hx : i < R.length := by rw [ht.len]; exact hi
      have hc : i < cur.size := by omega
      obtain ⟨r2, hr2, g1, g2⟩ := h.row hi
      have er : R[i] = r2 := by rw [List.getElem?_eq_getElem hx] at hr2; injection hr2
      have hr := IT.of_row (ht.rows _ (List.getElem_mem hx))
      simp only [Array.getD, hc, dite_true, List.getD, List.getElem?_eq_getElem hx, Option.getD_some]
      rw [Array.getElem?_eq_getElem hc, List.getElem?_map, List.getElem?_eq_getElem hx] at e2
      simp only [Option.map_some, Option.some.injEq] at e2
      rw [er] at hr e2 ⊢
      rw [g1] at hr
      refine ⟨?_, hr.congr (fun j hj => g2 j hj)⟩
      rw [show cur.getInternal i hc = cur[i] from rfl, e2, Sl.clp, g1]
    · have hi' : i < R.length := by rw [ht.len]; exact hi
      have hj' : j < R.length := by rw [ht.len]; exact hj
      simp only [List.getD, List.getElem?_eq_getElem hi', List.getElem?_eq_getElem hj', Option.getD_some]
      rcases ht.apart i j _ _ (List.getElem?_eq_getElem hi') (List.getElem?_eq_getElem hj') hne with h1 | h1
      · refine .inl ?_
        cases hA : R[i].A with
        | none => rfl
        | some a => rw [Sl.blk, hA] at h1; cases h1
      · exact .inr fun e => h1 (by rw [Sl.blk, Sl.blk, e])
/-- a row and a number in it, as the walk reads and writes them -/
structure AtK (w : World) (base top : Nat) (b : Nat) (n m c : Nat) (C : Nat → Nat → Int) (i j : Nat) (b0 : Nat) : Prop where
  row : w.cell? ⟨b, i, none⟩ = some (.slice (some ⟨b0, 0, none⟩) m m)
  cell : w.cell? ⟨b0, j, none⟩ = some (.int .i64 (C i j))
  fz : w.frozen? ⟨b0, j, none⟩ = false
  lo : base ≤ b0
  hi : b0 < top
  blt : b0 < w.heap.size
  ne : b0 ≠ b
  set : ∀ v, ∃ R', TK (w.setCell ⟨b0, j, none⟩ (.int .i64 v)) base top (some ⟨b, 0, none⟩) n c R' ∧ TbC R' n m (upd C i j v)
theorem TbC.atK {m b : Nat} {C : Nat → Nat → Int} (h : TbC R n m C) (ht : TK w base top (some ⟨b, 0, none⟩) n c R) {i j : Nat} (hi : i < n) (hj : j < m) : ∃ b0, AtK w base top b n m c C i j b0 := by
  obtain ⟨r, hr, h1, h2⟩ := h.row hi
  obtain ⟨b', r', e, _, _, hr', hc, hrow⟩ := ht.at_ hi
  obtain rfl : b = b' := by simpa using e
  obtain rfl : r = r' := by rw [hr] at hr'; injection hr'
  obtain ⟨b0, e0, p1, p2, d0, g0, hs⟩ := ht.setIn hr (j := j) (by omega)
  rw [e0, h1] at hc
  rw [h2 j hj] at d0
  have hne : b0 ≠ b := fun eq => by
    rcases own_ne hrow.2 ht.out (by decide) with h3 | h3
    · rw [ownBlock_slice, e0] at h3; cases h3
    · rw [ownBlock_slice, ownBlock_slice, e0] at h3
      exact h3 (by simp [eq])
  exact ⟨b0, hc, d0, g0, p1, ht.under r (List.mem_of_getElem? hr) b0 (by rw [Sl.blk, e0]; rfl), p2, hne, fun v => ⟨_, hs v, h.set hr hj⟩⟩
end

section
variable {ops : Array Oper} {rest : List Oper} {o : Oper} {a : Act} {Q : Exit → Act → World → Prop} {w : World} {base top n c : Nat} {A : Option Addr}
theorem push_clp (hgd : o.guard = none) (s x : Operand) (ho : o.op = .call { callee := .builtin .append, args := #[s, x], argTypes := #[42, 42] })
    (R : List Sl) (hs : a.eval s = .slice A n c) (hown : TK w base top A n c R) (A1 : Option Addr) (n1 c1 : Nat) (ys : List Int) (hrow : Row w top A1 n1 c1 ys) (hbt : base ≤ top) (t : TypeId)
    (hx : a.eval x = .slice (some ⟨w.heap.size, 0, none⟩) 1 1) (hn : n ≤ 1000000) (htop : top ≤ w.heap.size)
    (h : ∀ A' c' w', TK w' base w'.heap.size A' (n + 1) c' (R ++ [⟨A1, c1, ys⟩]) → Below base w w' →
      wpList Try.prog ops Q rest (a.put o.dst (.slice A' (n + 1) c')) w') : wpList Try.prog ops Q (o :: rest) a (w.alloc (.cells #[.slice A1 n1 n1] t)) :=
  push_any 42 22 (.slice none 0 0) 24 Try.underlying42 info_ints rfl (by omega) hgd s x ho _ hs hown.out (.slice A1 n1 n1) rfl t hx hn (by omega) fun A' c' w' h1 h2 h3 =>
    h A' c' w' (hown.push hrow hbt h1 h2 (Nat.le_trans htop h2.size) (fun k hk => by
      have := (hrow.blk k (by rw [ownBlock_slice]; exact hk)).2
      have h5 := h2.size
      omega)) ((Below.refl _ _).grown h2 (by omega) fun k hk => (hown.blk k hk).1)
end
end Go.Proofs.Ytkalecdjcdgodaa
