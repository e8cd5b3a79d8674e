/-
  Tables of the call's own whose cells are written, and tables beside a reader. No conditions: nothing is claimed of the program here.
-/
import Derived.Test.YtcalfblghblhcaaOwn2
import Derived.Test.YtcalfblghblhcaaDrawP
namespace Go.Proofs.Ytcalfblghblhcaa
open Go.RowKit

section
variable {w w' : World} {base top n c g : Nat} {A : Option Addr} {R : List Sl} {xs : List Int}
theorem Row.only (h : Row w base A n c xs) (ho : Only g w w') (hg : g < base) : Row w' base A n c xs := by
  refine h.kept ho ?_
  cases e : (Value.slice A n c).ownBlock with
  | none => exact .inl rfl
  | some k => exact .inr (fun he => by have := (h.blk k e).1; injection he with he; omega)
theorem Tab.only (h : Tab w base A n c R) (ho : Only g w w') (hg : g < base) : Tab w' base A n c R := by
  refine ⟨h.1, h.2.1.kept ho ?_, fun r hr => (h.2.2 r hr).only ho hg⟩
  cases e : (Value.slice A n c).ownBlock with
  | none => exact .inl rfl
  | some k => exact .inr (fun he => by have := (h.blk k e).1; injection he with he; omega)
theorem TabD.only (h : TabD w base top A n c R) (ho : Only g w w') (hg : g < base) : TabD w' base top A n c R := ⟨h.tab.only ho hg, h.apart, h.under⟩
theorem Rd.grown {k : Nat} {row : Option Nat} (h : Rd w g k) (hg : w.grownBy w' row) (hr : ∀ b, row = some b → g < b) : Rd w' g k := by
  obtain ⟨A, n, c, bs, p, ⟨h1, h2, h3, h4, h5⟩, hp, hlt⟩ := h
  refine ⟨A, n, c, bs, p, ⟨(hg.block g hlt (fun e => by have := hr g e.symm; omega)).trans h1, h2, h3, h4, fun hn => ?_⟩, hp, Nat.lt_of_lt_of_le hlt hg.size⟩
  obtain ⟨b, off, e, hb, hc⟩ := h5 hn
  exact ⟨b, off, e, hb, fun i hi => (World.cell?_of_block (hg.block b (by omega) (fun e => by have := hr b e.symm; omega))).trans (hc i hi)⟩
theorem Rd.set1 {k : Nat} (h : Rd w g k) {p : Addr} (hp : g < p.block) (u : Value) : Rd (w.setCell p u) g k :=
  h.grown (row := some p.block) ⟨rfl, rfl, rfl, by simp [World.setCell], fun i _ hne => Below.heap_setCell w p u i (by rintro rfl; exact hne rfl)⟩ (fun b e => by injection e with e; omega)
theorem Only.of_grown {a : World} {row : Option Nat} (h : Only g a w) (hg : w.grownBy w' row) (hr : ∀ b, row = some b → a.heap.size ≤ b) : Only g a w' :=
  ⟨hg.os.trans h.os, hg.tape.trans h.tape, hg.output.trans h.output, Nat.le_trans h.size hg.size, fun i hi hne => (hg.block i (Nat.lt_of_lt_of_le hi h.size) (fun e => by have := hr i e.symm; omega)).trans (h.block i hi hne)⟩

/-- a cell of a row is written -/
theorem TabD.setIn (h : TabD w base top A n c R) {i j : Nat} {r : Sl} (hr : R[i]? = some r) (hj : j < r.xs.length) :
    ∃ b, r.A = some ⟨b, 0, none⟩ ∧ base ≤ b ∧ b < w.heap.size ∧ w.cell? ⟨b, j, none⟩ = some (.int .i64 (r.xs.getD j 0)) ∧ w.frozen? ⟨b, j, none⟩ = false ∧ ∀ v, TabD (w.setCell ⟨b, j, none⟩ (.int .i64 v)) base top A n c (R.set i ⟨r.A, r.c, r.xs.set j v⟩) := by
  obtain ⟨b, e, h1, h2, h3, h4, h5⟩ := (h.row hr).at_ hj
  refine ⟨b, e, h1, h2, h3, h4, fun v => ⟨⟨by simp [h.tab.1], ?_, fun s hs => ?_⟩, fun a d s t hs ht hne => ?_, fun s hs k hk => ?_⟩⟩
  · have he : (R.set i ⟨r.A, r.c, r.xs.set j v⟩).map Sl.val = R.map Sl.val := by
      rw [List.map_set]
      refine List.ext_getElem? fun a => ?_
      rw [List.getElem?_set]
      split
      · rename_i h6
        subst h6
        split
        · rename_i h7
          simp [List.getElem?_map, hr, Sl.val]
        · rename_i h7
          rw [List.getElem?_eq_none (by simpa using h7)]
      · rfl
    rw [he]
    refine own_of_block h.tab.2.1 fun k hk => Below.heap_setCell w _ _ k ?_
    intro hkb
    have hk : (Value.slice A n c).ownBlock = some b := by rw [hk]; exact congrArg some hkb
    have hb := h.tab.2.1.2
    rcases hb with ⟨h8, _⟩ | ⟨g8, cap8, cur8, h8, _, h9, _⟩
    · rw [h8] at hk; cases hk
    · rw [h8] at hk
      have e8 : g8 = b := by simpa [Value.ownBlock] using hk
      rcases (h.row hr).2.2 with ⟨g9, _⟩ | ⟨g9, cap9, cur9, g10, _, g11, _⟩
      · rw [e] at g9; injection g9 with g9; cases g9
      · rw [e] at g10
        injection g10 with g10
        injection g10 with g10
        injection g10 with g10
        rw [← g10, ← e8, h9] at g11
        injection g11 with g11
        injection g11 with _ g11
        exact absurd g11 (by decide)
  · obtain ⟨q, hq, rfl⟩ := List.mem_iff_getElem.1 hs
    simp only [List.length_set] at hq
    rw [List.getElem_set]
    split
    · have h6 := h5 v
      simpa using h6
    · rename_i h6
      have hrow := h.row (List.getElem?_eq_getElem hq)
      refine hrow.setFar (fun k hk => ?_) _
      rw [ownBlock_slice] at hk
      intro hkb
      dsimp only at hkb
      subst hkb
      rcases h.apart q i _ r (List.getElem?_eq_getElem hq) hr (fun e => h6 e.symm) with h7 | h7
      · rw [Sl.blk, hk] at h7; cases h7
      · rw [Sl.blk, Sl.blk, hk, e] at h7; exact h7 rfl
  · have hb : ∀ (a : Nat) (s : Sl), (R.set i ⟨r.A, r.c, r.xs.set j v⟩)[a]? = some s → ∃ s', R[a]? = some s' ∧ s'.blk = s.blk := fun a s hs => by
      rw [List.getElem?_set] at hs
      split at hs
      · rename_i h6
        subst h6
        split at hs
        · injection hs with hs; subst hs; exact ⟨r, hr, rfl⟩
        · cases hs
      · exact ⟨s, hs, rfl⟩
    obtain ⟨s', hs', e1⟩ := hb a s hs
    obtain ⟨t', ht', e2⟩ := hb d t ht
    have := h.apart a d s' t' hs' ht' hne
    rwa [e1, e2] at this
  · have hb : ∃ s' ∈ R, s'.blk = s.blk := by
      rcases List.mem_or_eq_of_mem_set hs with h6 | h6
      · exact ⟨s, h6, rfl⟩
      · subst h6; exact ⟨r, List.mem_of_getElem? hr, rfl⟩
    obtain ⟨s', hs', e1⟩ := hb
    exact h.under s' hs' k (e1.trans hk)

/-- a row is put in another one's place -/
theorem Tab.setRow (h : Tab w base A n c R) {i : Nat} (hi : i < n) (s : Sl) (hs : Row w base s.A s.xs.length s.c s.xs) :
    ∃ b, A = some ⟨b, 0, none⟩ ∧ base ≤ b ∧ b < w.heap.size ∧ (∃ v, w.cell? ⟨b, i, none⟩ = some v ∧ v = (R.getD i s).val) ∧ w.frozen? ⟨b, i, none⟩ = false ∧ Tab (w.setCell ⟨b, i, none⟩ (.slice s.A s.xs.length s.c)) base A n c (R.set i s) := by
  obtain ⟨b, r, rfl, h1, h2, hr, hc, hf, hrow⟩ := h.at_ hi
  have key : ∀ q : Sl, Row w base q.A q.xs.length q.c q.xs → Row (w.setCell ⟨b, i, none⟩ (.slice s.A s.xs.length s.c)) base q.A q.xs.length q.c q.xs := fun q hq => by
    refine hq.setFar (fun k hk => ?_) _
    rcases own_ne hq.2 h.2.1 (by decide) with h3 | h3
    · rw [hk] at h3; cases h3
    · rw [hk] at h3
      intro e
      dsimp only at e
      subst e
      exact h3 rfl
  refine ⟨b, rfl, h1, h2, ⟨_, hc, by simp [List.getD, hr, Sl.val]⟩, hf, ⟨by simp [h.1], ?_, fun q hq => ?_⟩⟩
  · rw [List.map_set]
    exact (h.2.1.stored i (.slice s.A s.xs.length s.c)).1
  · rcases List.mem_or_eq_of_mem_set hq with h6 | h6
    · exact key q (h.2.2 q h6)
    · subst h6; exact key _ hs

/-- a row that was appended to is put in its own place -/
theorem TabD.putRow (h : TabD w base top A n c R) {i : Nat} {r : Sl} (hr : R[i]? = some r) (hg : w.grownBy w' r.blk) (s : Sl) (hs : Row w' base s.A s.xs.length s.c s.xs) :
    ∃ b, A = some ⟨b, 0, none⟩ ∧ base ≤ b ∧ b < w'.heap.size ∧ w'.cell? ⟨b, i, none⟩ = some (.slice r.A r.xs.length r.c) ∧ w'.frozen? ⟨b, i, none⟩ = false ∧ Tab (w'.setCell ⟨b, i, none⟩ (.slice s.A s.xs.length s.c)) base A n c (R.set i s) := by
  have hi : i < R.length := by
    rcases Nat.lt_or_ge i R.length with h1 | h1
    · exact h1
    · rw [List.getElem?_eq_none h1] at hr; cases hr
  obtain ⟨b, r', rfl, h1, h2, hr', hc, hf, hrow⟩ := h.tab.at_ (show i < n by rw [← h.tab.1]; exact hi)
  have e0 : r' = r := by rw [hr] at hr'; injection hr' with e; exact e.symm
  subst e0
  have hout : w'.ownsRow base 23 1 (.slice (some ⟨b, 0, none⟩) n c) n (R.map Sl.val) := by
    refine h.tab.2.1.kept hg ?_
    rcases own_ne h.tab.2.1 hrow.2 (by decide) with h3 | h3
    · exact .inl h3
    · exact .inr (by rw [ownBlock_slice r'.A] at h3; exact h3)
  have hb : w'.heap[b]? = w.heap[b]? := hg.block b h2 (fun e => by
    rcases own_ne h.tab.2.1 hrow.2 (by decide) with h3 | h3
    · cases h3
    · exact h3 (by rw [ownBlock_slice r'.A]; exact e))
  have key : ∀ q : Sl, Row w' base q.A q.xs.length q.c q.xs → Row (w'.setCell ⟨b, i, none⟩ (.slice s.A s.xs.length s.c)) base q.A q.xs.length q.c q.xs := fun q hq => by
    refine hq.setFar (fun k hk => ?_) _
    rcases own_ne hq.2 hout (by decide) with h3 | h3
    · rw [hk] at h3; cases h3
    · rw [hk] at h3
      intro e
      exact h3 (by rw [e]; rfl)
  refine ⟨b, rfl, h1, Nat.lt_of_lt_of_le h2 hg.size, (World.cell?_of_block (w := w) hb).trans hc, (World.frozen?_of_block (w := w) hb).trans hf, ⟨by simp [h.tab.1], ?_, fun q hq => ?_⟩⟩
  · rw [List.map_set]
    exact (hout.stored i (.slice s.A s.xs.length s.c)).1
  · obtain ⟨d, hd, rfl⟩ := List.mem_iff_getElem.1 hq
    simp only [List.length_set] at hd
    rw [List.getElem_set]
    split
    · exact key _ hs
    · rename_i h6
      refine key _ ((h.row (List.getElem?_eq_getElem hd)).kept hg ?_)
      rcases h.apart d i _ r' (List.getElem?_eq_getElem hd) hr (fun e => h6 e.symm) with h7 | h7
      · exact .inl (by rw [ownBlock_slice]; exact h7)
      · exact .inr (by rw [ownBlock_slice]; exact h7)

/-- a table of one row, made at once -/
theorem Tab.one {A1 : Option Addr} {n1 c1 : Nat} {ys : List Int} (hrow : Row w base A1 n1 c1 ys) (hb : base ≤ w.heap.size) : Tab (w.alloc (.cells #[.slice A1 n1 c1] 23)) base (some ⟨w.heap.size, 0, none⟩) 1 1 [⟨A1, c1, ys⟩] := by
  refine ⟨rfl, ⟨by simp, .inr ⟨w.heap.size, 1, _, rfl, hb, heap_alloc_new w _, Nat.le_refl _, by unfold maxLen; omega, by simp, by simp [Sl.val, hrow.1]⟩⟩, fun r hr => ?_⟩
  rw [List.mem_singleton] at hr
  subst hr
  have h1 := hrow.alloc (.cells #[.slice A1 n1 c1] 23)
  rw [← hrow.1] at h1
  rw [← hrow.1]
  exact h1
theorem lens_set {R : List Sl} {i m k : Nat} {s : Sl} (h : ∀ r ∈ R, r.xs.length = m) (hm : m ≤ k) (hs : s.xs.length ≤ k) : ∀ r ∈ R.set i s, r.xs.length ≤ k := fun r hr => by
  rcases List.mem_or_eq_of_mem_set hr with h6 | h6
  · rw [h r h6]; exact hm
  · subst h6; exact hs
end

section
variable {ops : Array Oper} {rest : List Oper} {o : Oper} {a : Act} {Q : Exit → Act → World → Prop} {w : World} {base n c : Nat} {A : Option Addr}
/-- a whole slice of ints appended -/
theorem push_src (hgd : o.guard = none) (s x : Operand) (ho : o.op = .call { callee := .builtin .append, args := #[s, x], argTypes := #[23, 23] })
    (xs : List Int) (hs : a.eval s = .slice A n c) (hown : Row w base A n c xs) {base2 m c2 : Nat} {A2 : Option Addr} (ys : List Int) (hsrc : Row w base2 A2 m c2 ys) (hm : 1 ≤ m)
    (hx : a.eval x = .slice A2 m c2) (hn : n + m ≤ 1000000) (hbase : base ≤ w.heap.size)
    (h : ∀ A' c' w', Row w' base A' (n + m) c' (xs ++ ys) → Below base w w' → w.grownBy w' (Value.slice A n c).ownBlock → wpList Try.prog ops Q rest (a.put o.dst (.slice A' (n + m) c')) w') :
    wpList Try.prog ops Q (o :: rest) a w := by
  obtain ⟨i0, hi, hz, hz1, hz2⟩ := parts_of info_int
  rcases hsrc.form with ⟨_, h0, _⟩ | ⟨g, rfl, g1, g2, g3⟩
  · omega
  refine wpList_append_own_at (w := w) hgd s x 23 ho base 3 i0 (.int .i64 0) 1 8 Try.underlying23 hi hz hz1 hz2 rfl (by omega) (.slice A n c) n (xs.map (Value.int .i64)) hs hown.2 ⟨g, 0, none⟩ m c2 (ys.map (Value.int .i64)) hx (by simp [hsrc.1]) (fun j u hu => ?_) (fun u hu => ?_) (by unfold maxLen; omega) (by omega) hbase ?_
  · have hj : j < m := by
      rcases Nat.lt_or_ge j m with h1 | h1
      · exact h1
      · rw [List.getElem?_eq_none (by simp [hsrc.1]; exact h1)] at hu; cases hu
    have := hsrc.2.cellAt j (by omega)
    rw [hu] at this
    have e : (⟨g, 0, none⟩ : Addr).add j = ⟨g, j, none⟩ := by unfold Addr.add; split <;> simp_all
    rw [e]
    exact this
  · obtain ⟨z, _, rfl⟩ := List.mem_map.1 hu
    rfl
  · intro v' w' hown' hg _ _
    have hval : ∃ A' c', v' = .slice A' (n + m) c' := by
      rcases hown'.2 with ⟨_, h0⟩ | ⟨g, cap, cur, h1, _⟩
      · omega
      · exact ⟨_, _, h1⟩
    obtain ⟨A', c', rfl⟩ := hval
    exact h A' c' w' ⟨by simp [hown.1, hsrc.1], by rw [List.map_append]; exact hown'⟩ (hown.grown hg hbase) hg
/-- a whole slice of ints appended to an empty one -/
theorem push_copy (hgd : o.guard = none) (s x : Operand) (ho : o.op = .call { callee := .builtin .append, args := #[s, x], argTypes := #[23, 23] })
    (hs : a.eval s = .slice A 0 c) (hown : Row w base A 0 c []) {base2 m c2 : Nat} {A2 : Option Addr} (ys : List Int) (hsrc : Row w base2 A2 m c2 ys) (hm : 1 ≤ m)
    (hx : a.eval x = .slice A2 m c2) (hn : m ≤ 1000000) (hbase : base ≤ w.heap.size)
    (h : ∀ A' c' w', Row w' base A' m c' ys → Below base w w' → w.grownBy w' (Value.slice A 0 c).ownBlock → wpList Try.prog ops Q rest (a.put o.dst (.slice A' m c')) w') :
    wpList Try.prog ops Q (o :: rest) a w :=
  push_src hgd s x ho [] hs hown ys hsrc hm hx (by omega) hbase fun A' c' w' h1 h2 h3 => by
    rw [Nat.zero_add] at h1 ⊢
    exact h A' c' w' h1 h2 h3
end
end Go.Proofs.Ytcalfblghblhcaa
