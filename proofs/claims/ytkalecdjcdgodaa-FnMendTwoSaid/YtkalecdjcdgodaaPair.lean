/-
  Slices of pairs of ints of the call's own, that grow by append. No conditions: nothing is claimed of the program here.
-/
import Derived.Test.YtkalecdjcdgodaaMendS
namespace Go.Proofs.Ytkalecdjcdgodaa
open Go.RowKit

theorem info_pair : (Try.prog.info? 71).map (fun i => (i.zero, i.size, i.bytes)) = some (some (.agg #[.int .i64 0, .int .i64 0]), 2, 16) := by kernel_rfl

/-- the cells of pairs, one behind the other -/
def flatC (cs : List (Nat × Nat)) : List Value := (List.range (cs.length * 2)).map fun t => .int .i64 (cellsC cs (t / 2) (t % 2))
theorem flatC_len (cs : List (Nat × Nat)) : (flatC cs).length = cs.length * 2 := by simp [flatC]
theorem cellsC_old {cs : List (Nat × Nat)} {x : Nat × Nat} {i j : Nat} (hi : i < cs.length) : cellsC (cs ++ [x]) i j = cellsC cs i j := by
  have e : (cs ++ [x]).getD i (0, 0) = cs.getD i (0, 0) := by simp [List.getD, List.getElem?_append_left hi]
  unfold cellsC
  rw [e]
theorem flatC_push (cs : List (Nat × Nat)) (r k : Nat) : flatC (cs ++ [(r, k)]) = flatC cs ++ [.int .i64 (r : Int), .int .i64 (k : Int)] := by
  have e1 : (cs ++ [(r, k)]).getD cs.length (0, 0) = (r, k) := by simp [List.getD]
  have h1 : ∀ t ∈ List.range (cs.length * 2), (Value.int .i64 (cellsC (cs ++ [(r, k)]) (t / 2) (t % 2))) = Value.int .i64 (cellsC cs (t / 2) (t % 2)) := fun t ht => by
    rw [List.mem_range] at ht
    rw [cellsC_old (by omega)]
  unfold flatC
  rw [show (cs ++ [(r, k)]).length * 2 = cs.length * 2 + 1 + 1 by simp; omega, List.range_succ, List.range_succ, List.map_append, List.map_append, List.map_congr_left h1]
  simp only [List.map_cons, List.map_nil, List.append_assoc, List.cons_append, List.nil_append]
  have e2 : cs.length * 2 / 2 = cs.length := by omega
  have e3 : cs.length * 2 % 2 = 0 := by omega
  have e4 : (cs.length * 2 + 1) / 2 = cs.length := by omega
  have e5 : (cs.length * 2 + 1) % 2 = 1 := by omega
  rw [e2, e3, e4, e5]
  simp [cellsC, e1]
theorem flatC_at (cs : List (Nat × Nat)) {i : Nat} (hi : i < cs.length) : (flatC cs)[i * 2]? = some (.int .i64 ((cs.getD i (0, 0)).1 : Nat)) ∧ (flatC cs)[i * 2 + 1]? = some (.int .i64 ((cs.getD i (0, 0)).2 : Nat)) := by
  have a1 : i * 2 < cs.length * 2 := by omega
  have a2 : i * 2 + 1 < cs.length * 2 := by omega
  have e2 : i * 2 / 2 = i := by omega
  have e3 : i * 2 % 2 = 0 := by omega
  have e4 : (i * 2 + 1) / 2 = i := by omega
  have e5 : (i * 2 + 1) % 2 = 1 := by omega
  constructor
  · simp [flatC, a1, e2, e3, cellsC]
  · simp [flatC, a2, e4, e5, cellsC]

/-- a slice of pairs of the call's own -/
def Prs (w : World) (base : Nat) (A : Option Addr) (n c : Nat) (cs : List (Nat × Nat)) : Prop := cs.length = n ∧ w.ownsRow base 71 2 (.slice A n c) n (flatC cs)
section
variable {w w' : World} {base n c : Nat} {A : Option Addr} {cs : List (Nat × Nat)}
theorem Prs.keep (h : Prs w base A n c cs) (hb : Below w.heap.size w w') : Prs w' base A n c cs := by
  refine ⟨h.1, h.2.1, ?_⟩
  rcases h.2.2 with h1 | ⟨g, cap, cur, h1, h2, h3, h4⟩
  · exact .inl h1
  · refine .inr ⟨g, cap, cur, h1, h2, ?_, h4⟩
    rw [hb.block g ?_]
    · exact h3
    · rcases Nat.lt_or_ge g w.heap.size with hl | hl
      · exact hl
      · rw [Array.getElem?_eq_none hl] at h3; cases h3
theorem Prs.form (h : Prs w base A n c cs) : (A = none ∧ n = 0 ∧ c = 0) ∨ ∃ g, A = some ⟨g, 0, none⟩ ∧ base ≤ g ∧ g < w.heap.size ∧ n ≤ c := by
  rcases h.2.2 with ⟨h1, h2⟩ | ⟨g, cap, cur, h1, h2, h3, h4, _⟩
  · left
    injection h1 with e1 e2 e3
    exact ⟨e1, by omega, e3⟩
  · right
    injection h1 with e1 e2 e3
    subst e3
    refine ⟨g, e1, h2, ?_, h4⟩
    rcases Nat.lt_or_ge g w.heap.size with hl | hl
    · exact hl
    · rw [Array.getElem?_eq_none hl] at h3; cases h3
theorem Prs.at_ {g : Nat} (h : Prs w base (some ⟨g, 0, none⟩) n c cs) {i : Nat} (hi : i < n) : w.cell? ⟨g, i * 2, none⟩ = some (.int .i64 ((cs.getD i (0, 0)).1 : Nat)) ∧ w.cell? ⟨g, i * 2 + 1, none⟩ = some (.int .i64 ((cs.getD i (0, 0)).2 : Nat)) := by
  obtain ⟨f1, f2⟩ := flatC_at cs (i := i) (by rw [h.1]; exact hi)
  have holds := h.2.cells (g := g) rfl
  have g1 := holds _ _ f1
  have g2 := holds _ _ f2
  rw [add_mk, Nat.zero_add] at g1 g2
  exact ⟨g1, g2⟩
theorem Prs.empty (hb : base ≤ w.heap.size) : Prs (w.alloc (.cells #[] 71)) base (some ⟨w.heap.size, 0, none⟩) 0 0 [] :=
  ⟨rfl, rfl, .inr ⟨w.heap.size, 0, #[], rfl, hb, heap_alloc_new w _, Nat.le_refl _, by unfold maxLen; omega, rfl, rfl⟩⟩

variable {ops : Array Oper} {rest : List Oper} {o : Oper} {a : Act} {Q : Exit → Act → World → Prop}
theorem push_pair (hgd : o.guard = none) (s x : Operand) (ho : o.op = .call { callee := .builtin .append, args := #[s, x], argTypes := #[70, 70] })
    (hs : a.eval s = .slice A n c) (hown : Prs w base A n c cs) (r k : Nat) (t : TypeId)
    (hx : a.eval x = .slice (some ⟨w.heap.size, 0, none⟩) 1 1) (hn : n ≤ 1000000) (hbase : base ≤ w.heap.size)
    (h : ∀ A' c' w', Prs w' base A' (n + 1) c' (cs ++ [(r, k)]) → Below base w w' →
      wpList Try.prog ops Q rest (a.put o.dst (.slice A' (n + 1) c')) w') : wpList Try.prog ops Q (o :: rest) a (w.alloc (.cells #[.int .i64 (r : Int), .int .i64 (k : Int)] t)) := by
  cases hi : Try.prog.info? 71 with
  | none => have := info_pair; rw [hi] at this; cases this
  | some i0 =>
  have hip := info_pair
  rw [hi] at hip
  simp only [Option.map_some, Option.some.injEq, Prod.mk.injEq] at hip
  obtain ⟨hz, hz1, hz2⟩ := hip
  have hown' : Prs (w.alloc (.cells #[.int .i64 (r : Int), .int .i64 (k : Int)] t)) base A n c cs := hown.keep ((Below.refl _ _).alloc (Nat.le_refl _) _)
  refine wpList_append_own_at (w := w.alloc (.cells #[.int .i64 (r : Int), .int .i64 (k : Int)] t)) hgd s x 70 ho base 71 i0 (.agg #[.int .i64 0, .int .i64 0]) 2 16 Try.underlying70 hi hz hz1 hz2 rfl (by omega) (.slice A n c) n _ hs hown'.2 ⟨w.heap.size, 0, none⟩ 1 1 [.int .i64 (r : Int), .int .i64 (k : Int)] hx rfl (fun j u hj => ?_) (fun u hu => by simp at hu; rcases hu with rfl | rfl <;> rfl) (by unfold maxLen; omega) (by omega) (by simp; omega) ?_
  · match j, hj with
    | 0, hj => simp at hj; subst hj; simp [Addr.add]
    | 1, hj => simp at hj; subst hj; simp [Addr.add]
  intro v' w' hown2 hg _ hat
  have hval : ∃ A' c', v' = .slice A' (n + 1) c' := by
    rcases hown2.2 with ⟨_, h0⟩ | ⟨g, cap, cur, h1, _⟩
    · omega
    · exact ⟨_, _, h1⟩
  obtain ⟨A', c', rfl⟩ := hval
  refine h A' c' w' ⟨by simp [hown.1], by rw [flatC_push]; exact hown2⟩ ?_
  have hbl : ∀ b, (Value.slice A n c).ownBlock = some b → base ≤ b := fun b hb => by
    rcases hown.form with ⟨h1, _, _⟩ | ⟨g, h1, h2, _⟩
    · rw [h1] at hb; cases hb
    · rw [h1] at hb; injection hb with hb; subst hb; exact h2
  refine ⟨hg.os, hg.tape, hg.output, Nat.le_trans (by simp) hg.size, fun b hb => (hg.block b (by simp; omega) (fun e => ?_)).trans (Below.heap_alloc w _ b (by omega))⟩
  have := hbl b (by rw [← e])
  omega
end
end Go.Proofs.Ytkalecdjcdgodaa
