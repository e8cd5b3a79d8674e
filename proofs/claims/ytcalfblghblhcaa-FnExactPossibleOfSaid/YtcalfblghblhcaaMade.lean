/-
  The rows that the program's solve keeps: a slice of pairs of slices that grows by append. No conditions: nothing is claimed of the program here.
-/
import Derived.Test.YtcalfblghblhcaaSolveL
namespace Go.Proofs.Ytcalfblghblhcaa
open Go.RowKit

theorem info_made : (Try.prog.info? 99).map (fun i => (i.zero, i.size, i.bytes)) = some (some (.agg #[.slice none 0 0, .slice none 0 0]), 2, 48) := by kernel_rfl

/-- the cells of pairs, one behind the other -/
def flatM (V : List (Value × Value)) : List Value := (List.range (V.length * 2)).map fun t => if t % 2 = 0 then (V.getD (t / 2) (undef, undef)).1 else (V.getD (t / 2) (undef, undef)).2
theorem flatM_push (V : List (Value × Value)) (x y : Value) : flatM (V ++ [(x, y)]) = flatM V ++ [x, y] := by
  have e1 : (V ++ [(x, y)]).getD V.length (undef, undef) = (x, y) := by simp [List.getD]
  have h1 : ∀ t ∈ List.range (V.length * 2), (if t % 2 = 0 then ((V ++ [(x, y)]).getD (t / 2) (undef, undef)).1 else ((V ++ [(x, y)]).getD (t / 2) (undef, undef)).2) = (if t % 2 = 0 then (V.getD (t / 2) (undef, undef)).1 else (V.getD (t / 2) (undef, undef)).2) := fun t ht => by
    rw [List.mem_range] at ht
    have e : (V ++ [(x, y)]).getD (t / 2) (undef, undef) = V.getD (t / 2) (undef, undef) := by simp [List.getD, List.getElem?_append_left (show t / 2 < V.length by omega)]
    rw [e]
  unfold flatM
  rw [show (V ++ [(x, y)]).length * 2 = V.length * 2 + 1 + 1 by simp; omega, List.range_succ, List.range_succ, List.map_append, List.map_append, List.map_congr_left h1]
  simp only [List.map_cons, List.map_nil, List.append_assoc, List.cons_append, List.nil_append]
  have e2 : V.length * 2 / 2 = V.length := by omega
  have e3 : V.length * 2 % 2 = 0 := by omega
  have e4 : (V.length * 2 + 1) / 2 = V.length := by omega
  have e5 : ¬ (V.length * 2 + 1) % 2 = 0 := by omega
  rw [e2, if_pos e3, e4, if_neg e5, e1]
theorem flatM_at (V : List (Value × Value)) {i : Nat} {x y : Value} (h : V[i]? = some (x, y)) : (flatM V)[i * 2]? = some x ∧ (flatM V)[i * 2 + 1]? = some y := by
  have hi : i < V.length := by
    rcases Nat.lt_or_ge i V.length with h1 | h1
    · exact h1
    · rw [List.getElem?_eq_none h1] at h; cases h
  have a1 : i * 2 < V.length * 2 := by omega
  have a2 : i * 2 + 1 < V.length * 2 := by omega
  have e2 : i * 2 / 2 = i := by omega
  have e3 : i * 2 % 2 = 0 := by omega
  have e4 : (i * 2 + 1) / 2 = i := by omega
  have e5 : ¬ (i * 2 + 1) % 2 = 0 := by omega
  constructor
  · simp [flatM, a1, e2, h]
  · simp [flatM, a2, e4, e5, h]

/-- a slice of pairs of slices of the call's own -/
def Mds (w : World) (base : Nat) (g n c : Nat) (V : List (Value × Value)) : Prop := V.length = n ∧ w.ownsRow base 99 2 (.slice (some ⟨g, 0, none⟩) n c) n (flatM V)
section
variable {w w' : World} {base g n c : Nat} {V : List (Value × Value)}
theorem Mds.blk (h : Mds w base g n c V) : base ≤ g ∧ g < w.heap.size ∧ n ≤ c := by
  rcases h.2.2 with ⟨h1, _⟩ | ⟨g', cap, cur, h1, h2, h3, h4, _⟩
  · injection h1 with h1; cases h1
  · injection h1 with e1 e2 e3
    injection e1 with e1
    injection e1 with e1
    subst e1 e3
    refine ⟨h2, ?_, h4⟩
    rcases Nat.lt_or_ge g w.heap.size with hl | hl
    · exact hl
    · rw [Array.getElem?_eq_none hl] at h3; cases h3
theorem Mds.far (h : Mds w base g n c V) (hk : w'.heap[g]? = w.heap[g]?) : Mds w' base g n c V := by
  refine ⟨h.1, h.2.1, ?_⟩
  rcases h.2.2 with ⟨h1, _⟩ | ⟨g', cap, cur, h1, h2, h3, h4⟩
  · injection h1 with h1; cases h1
  · have e : g = g' := by injection h1 with e1; injection e1 with e1; injection e1
    subst e
    exact .inr ⟨g, cap, cur, h1, h2, by rw [hk]; exact h3, h4⟩
theorem Mds.at_ (h : Mds w base g n c V) {i : Nat} {x y : Value} (hv : V[i]? = some (x, y)) : w.cell? ⟨g, i * 2, none⟩ = some x ∧ w.cell? ⟨g, i * 2 + 1, none⟩ = some y := by
  obtain ⟨f1, f2⟩ := flatM_at V hv
  have holds := h.2.cells (g := g) rfl
  have g1 := holds _ _ f1
  have g2 := holds _ _ f2
  rw [add_mk, Nat.zero_add] at g1 g2
  exact ⟨g1, g2⟩
theorem Mds.empty (hb : base ≤ w.heap.size) : Mds (w.alloc (.cells #[] 99)) base w.heap.size 0 0 [] :=
  ⟨rfl, rfl, .inr ⟨w.heap.size, 0, #[], rfl, hb, heap_alloc_new w _, Nat.le_refl _, by unfold maxLen; omega, rfl, rfl⟩⟩
/-- a row of ints lies elsewhere -/
theorem Mds.ne {b n1 c1 base1 : Nat} {xs : List Int} (h : Mds w base g n c V) (hr : Row w base1 (some ⟨b, 0, none⟩) n1 c1 xs) : b ≠ g := by
  rintro rfl
  rcases hr.2.2 with ⟨e, _⟩ | ⟨g1, cap1, cur1, e1, _, h1, _⟩
  · injection e with e; cases e
  · rcases h.2.2 with ⟨e, _⟩ | ⟨g2, cap2, cur2, e2, _, h2, _⟩
    · injection e with e; cases e
    · have a1 : b = g1 := by injection e1 with e; injection e with e; injection e
      have a2 : b = g2 := by injection e2 with e; injection e with e; injection e
      subst a1 a2
      rw [h1] at h2
      injection h2 with h2
      injection h2 with _ h2
      exact absurd h2 (by decide)

variable {ops : Array Oper} {rest : List Oper} {o : Oper} {a : Act} {Q : Exit → Act → World → Prop}
theorem push_made (hgd : o.guard = none) (s x : Operand) (ho : o.op = .call { callee := .builtin .append, args := #[s, x], argTypes := #[97, 97] })
    (hs : a.eval s = .slice (some ⟨g, 0, none⟩) n c) (hown : Mds w base g n c V) (A1 A2 : Option Addr) (n1 c1 n2 c2 : Nat) (t : TypeId)
    (hx : a.eval x = .slice (some ⟨w.heap.size, 0, none⟩) 1 1) (hn : n ≤ 1000000) (hbase : base ≤ w.heap.size)
    (h : ∀ g' c' w', Mds w' base g' (n + 1) c' (V ++ [(.slice A1 n1 c1, .slice A2 n2 c2)]) → (∀ k, k < w.heap.size → k ≠ g → w'.heap[k]? = w.heap[k]?) → Below base w w' → (g' = g ∨ w.heap.size ≤ g') →
      wpList Try.prog ops Q rest (a.put o.dst (.slice (some ⟨g', 0, none⟩) (n + 1) c')) w') : wpList Try.prog ops Q (o :: rest) a (w.alloc (.cells #[.slice A1 n1 c1, .slice A2 n2 c2] t)) := by
  cases hi : Try.prog.info? 99 with
  | none => have := info_made; rw [hi] at this; cases this
  | some i0 =>
  have hip := info_made
  rw [hi] at hip
  simp only [Option.map_some, Option.some.injEq, Prod.mk.injEq] at hip
  obtain ⟨hz, hz1, hz2⟩ := hip
  have hbl := hown.blk
  have hown' : Mds (w.alloc (.cells #[.slice A1 n1 c1, .slice A2 n2 c2] t)) base g n c V := hown.far (Below.heap_alloc w _ g hbl.2.1)
  refine wpList_append_own_at (w := w.alloc (.cells #[.slice A1 n1 c1, .slice A2 n2 c2] t)) hgd s x 97 ho base 99 i0 (.agg #[.slice none 0 0, .slice none 0 0]) 2 48 Try.underlying97 hi hz hz1 hz2 rfl (by omega) (.slice (some ⟨g, 0, none⟩) n c) n _ hs hown'.2 ⟨w.heap.size, 0, none⟩ 1 1 [.slice A1 n1 c1, .slice A2 n2 c2] hx rfl (fun j u hj => ?_) (fun u hu => by simp at hu; rcases hu with rfl | rfl <;> rfl) (by unfold maxLen; omega) (by omega) (by simp; omega) ?_
  · match j, hj with
    | 0, hj => simp at hj; subst hj; simp [Addr.add]
    | 1, hj => simp at hj; subst hj; simp [Addr.add]
  intro v' w' hown2 hg _ hat
  have hval : ∃ g' c', v' = .slice (some ⟨g', 0, none⟩) (n + 1) c' := by
    rcases hown2.2 with ⟨_, h0⟩ | ⟨g2, cap, cur, h1, _⟩
    · omega
    · exact ⟨_, _, h1⟩
  obtain ⟨g', c', rfl⟩ := hval
  have hblk : ∀ k, k < w.heap.size → k ≠ g → w'.heap[k]? = w.heap[k]? := fun k hk hne => (hg.block k (by simp; omega) (fun e => hne (by injection e))).trans (Below.heap_alloc w _ k hk)
  refine h g' c' w' ⟨by simp [hown.1], by rw [flatM_push]; exact hown2⟩ hblk ⟨hg.os, hg.tape, hg.output, Nat.le_trans (by simp) hg.size, fun b hb => hblk b (by omega) (by omega)⟩ ?_
  rcases hat with e | e
  · left; injection e
  · right; injection e with e; simp at e; omega
end
end Go.Proofs.Ytcalfblghblhcaa
