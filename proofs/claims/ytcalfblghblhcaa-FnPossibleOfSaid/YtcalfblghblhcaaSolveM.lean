/-
  Solving rows, the program's. Conditions: the rows and the goal can be read, at most 6 rows and 7 columns, of numbers over a prime.
  The rows that the program's solve keeps: a slice of pairs of slices that grows by append. No conditions: nothing is claimed of the program here.
-/
import Derived.Test.YtcalfblghblhcaaSolveL
namespace Go.Proofs.Ytcalfblghblhcaa
open Go.RowKit

theorem info_made : (Try.prog.info? 99).map (fun i => (i.zero, i.size, i.bytes)) = some (some (.agg #[.slice none 0 0, .slice none 0 0]), 2, 48) := by kernel_rfl

/-- the cells of pairs, one behind the other -/
def flatM (V : List (Value × Value)) : List Value := (List.range (V.length * 2)).map fun t => if t % 2 = 0 then (V.getD (t / 2) (undef, undef)).1 else (V.getD (t / 2) (undef, undef)).2
theorem flatM_push (V : List (Value × Value)) (x y : Value) : flatM (V ++ [(x, y)]) = flatM V ++ [x, y] := by
  have e1 : (V ++ [(x, y)]).getD V.length (undef, undef) = (x, y) := by simp [List.getD]
  have h1 : ∀ t ∈ List.range (V.length * 2), (if t % 2 = 0 then ((V ++ [(x, y)]).getD (t / 2) (undef, undef)).1 else ((V ++ [(x, y)]).getD (t / 2) (undef, undef)).2) = (if t % 2 = 0 then (V.getD (t / 2) (undef, undef)).1 else (V.getD (t / 2) (undef, undef)).2) := fun t ht => by
    rw [List.mem_range] at ht
    have e : (V ++ [(x, y)]).getD (t / 2) (undef, undef) = V.getD (t / 2) (undef, undef) := by simp [List.getD, List.getElem?_append_left (show t / 2 < V.length by omega)]
    rw [e]
  unfold flatM
  rw [show (V ++ [(x, y)]).length * 2 = V.length * 2 + 1 + 1 by simp; omega, List.range_succ, List.range_succ, List.map_append, List.map_append, List.map_congr_left h1]
  simp only [List.map_cons, List.map_nil, List.append_assoc, List.cons_append, List.nil_append]
  have e2 : V.length * 2 / 2 = V.length := by omega
  have e3 : V.length * 2 % 2 = 0 := by omega
  have e4 : (V.length * 2 + 1) / 2 = V.length := by omega
  have e5 : ¬ (V.length * 2 + 1) % 2 = 0 := by omega
  rw [e2, if_pos e3, e4, if_neg e5, e1]
theorem flatM_at (V : List (Value × Value)) {i : Nat} {x y : Value} (h : V[i]? = some (x, y)) : (flatM V)[i * 2]? = some x ∧ (flatM V)[i * 2 + 1]? = some y := by
  have hi : i < V.length := by
    rcases Nat.lt_or_ge i V.length with h1 | h1
    · exact h1
    · rw [List.getElem?_eq_none h1] at h; cases h
  have a1 : i * 2 < V.length * 2 := by omega
  have a2 : i * 2 + 1 < V.length * 2 := by omega
  have e2 : i * 2 / 2 = i := by omega
  have e3 : i * 2 % 2 = 0 := by omega
  have e4 : (i * 2 + 1) / 2 = i := by omega
  have e5 : ¬ (i * 2 + 1) % 2 = 0 := by omega
  constructor
  · simp [flatM, a1, e2, h]
  · simp [flatM, a2, e4, e5, h]

/-- a slice of pairs of slices of the call's own -/
def Mds (w : World) (base : Nat) (g n c : Nat) (V : List (Value × Value)) : Prop := V.length = n ∧ w.ownsRow base 99 2 (.slice (some ⟨g, 0, none⟩) n c) n (flatM V)
section
variable {w w' : World} {base g n c : Nat} {V : List (Value × Value)}
theorem Mds.blk (h : Mds w base g n c V) : base ≤ g ∧ g < w.heap.size ∧ n ≤ c := by
  rcases h.2.2 with ⟨h1, _⟩ | ⟨g', cap, cur, h1, h2, h3, h4, _⟩
  · injection h1 with h1; cases h1
  · injection h1 with e1 e2 e3
    injection e1 with e1
    injection e1 with e1
    subst e1 e3
    refine ⟨h2, ?_, h4⟩
    rcases Nat.lt_or_ge g w.heap.size with hl | hl
    · exact hl
    · rw [Array.getElem?_eq_none hl] at h3; cases h3
theorem Mds.far (h : Mds w base g n c V) (hk : w'.heap[g]? = w.heap[g]?) : Mds w' base g n c V := by
  refine ⟨h.1, h.2.1, ?_⟩
  rcases h.2.2 with ⟨h1, _⟩ | ⟨g', cap, cur, h1, h2, h3, h4⟩
  · injection h1 with h1; cases h1
  · have e : g = g' := by injection h1 with e1; injection e1 with e1; injection e1
    subst e
    exact .inr ⟨g, cap, cur, h1, h2, by rw [hk]; exact h3, h4⟩
theorem Mds.at_ (h : Mds w base g n c V) {i : Nat} {x y : Value} (hv : V[i]? = some (x, y)) : w.cell? ⟨g, i * 2, none⟩ = some x ∧ w.cell? ⟨g, i * 2 + 1, none⟩ = some y := by
  obtain ⟨f1, f2⟩ := flatM_at V hv
  have holds := h.2.cells (g := g) rfl
  have g1 := holds _ _ f1
  have g2 := holds _ _ f2
  rw [add_mk, Nat.zero_add] at g1 g2
  exact ⟨g1, g2⟩
theorem Mds.empty (hb : base ≤ w.heap.size) : Mds (w.alloc (.cells #[] 99)) base w.heap.size 0 0 [] :=
  ⟨rfl, rfl, .inr ⟨w.heap.size, 0, #[], rfl, hb, heap_alloc_new w _, Nat.le_refl _, by unfold maxLen; omega, rfl, rfl⟩⟩
/-- a row of ints lies elsewhere -/
theorem Mds.ne {b n1 c1 base1 : Nat} {xs : List Int} (h : Mds w base g n c V) (hr : Row w base1 (some ⟨b, 0, none⟩) n1 c1 xs) : b ≠ g := by
  rintro rfl
  rcases hr.2.2 with ⟨e, _⟩ | ⟨g1, cap1, cur1, e1, _, h1, _⟩
  · injection e with e; cases e
  · rcases h.2.2 with ⟨e, _⟩ | ⟨g2, cap2, cur2, e2, _, h2, _⟩
    · injection e with e; cases e
    · have a1 : b = g1 := by injection e1 with e; injection e with e; injection e
      have a2 : b = g2 := by injection e2 with e; injection e with e; injection e
      subst a1 a2
      rw [h1] at h2
      injection h2 with h2
      injection h2 with _ h2
      exact absurd h2 (by decide)

variable {ops : Array Oper} {rest : List Oper} {o : Oper} {a : Act} {Q : Exit → Act → World → Prop}
theorem push_made (hgd : o.guard = none) (s x : Operand) (ho : o.op = .call { callee := .builtin .append, args := #[s, x], argTypes := #[97, 97] })
    (hs : a.eval s = .slice (some ⟨g, 0, none⟩) n c) (hown : Mds w base g n c V) (A1 A2 : Option Addr) (n1 c1 n2 c2 : Nat) (t : TypeId)
    (hx : a.eval x = .slice (some ⟨w.heap.size, 0, none⟩) 1 1) (hn : n ≤ 1000000) (hbase : base ≤ w.heap.size)
    (h : ∀ g' c' w', Mds w' base g' (n + 1) c' (V ++ [(.slice A1 n1 c1, .slice A2 n2 c2)]) → (∀ k, k < w.heap.size → k ≠ g → w'.heap[k]? = w.heap[k]?) → Below base w w' → (g' = g ∨ w.heap.size ≤ g') →
      wpList Try.prog ops Q rest (a.put o.dst (.slice (some ⟨g', 0, none⟩) (n + 1) c')) w') : wpList Try.prog ops Q (o :: rest) a (w.alloc (.cells #[.slice A1 n1 c1, .slice A2 n2 c2] t)) := by
  cases hi : Try.prog.info? 99 with
  | none => have := info_made; rw [hi] at this; cases this
  | some i0 =>
  have hip := info_made
  rw [hi] at hip
  simp only [Option.map_some, Option.some.injEq, Prod.mk.injEq] at hip
  obtain ⟨hz, hz1, hz2⟩ := hip
  have hbl := hown.blk
  have hown' : Mds (w.alloc (.cells #[.slice A1 n1 c1, .slice A2 n2 c2] t)) base g n c V := hown.far (Below.heap_alloc w _ g hbl.2.1)
  refine wpList_append_own_at (w := w.alloc (.cells #[.slice A1 n1 c1, .slice A2 n2 c2] t)) hgd s x 97 ho base 99 i0 (.agg #[.slice none 0 0, .slice none 0 0]) 2 48 Try.underlying97 hi hz hz1 hz2 rfl (by omega) (.slice (some ⟨g, 0, none⟩) n c) n _ hs hown'.2 ⟨w.heap.size, 0, none⟩ 1 1 [.slice A1 n1 c1, .slice A2 n2 c2] hx rfl (fun j u hj => ?_) (fun u hu => by simp at hu; rcases hu with rfl | rfl <;> rfl) (by unfold maxLen; omega) (by omega) (by simp; omega) ?_
  · match j, hj with
    | 0, hj => simp at hj; subst hj; simp [Addr.add]
    | 1, hj => simp at hj; subst hj; simp [Addr.add]
  intro v' w' hown2 hg _ hat
  have hval : ∃ g' c', v' = .slice (some ⟨g', 0, none⟩) (n + 1) c' := by
    rcases hown2.2 with ⟨_, h0⟩ | ⟨g2, cap, cur, h1, _⟩
    · omega
    · exact ⟨_, _, h1⟩
  obtain ⟨g', c', rfl⟩ := hval
  have hblk : ∀ k, k < w.heap.size → k ≠ g → w'.heap[k]? = w.heap[k]? := fun k hk hne => (hg.block k (by simp; omega) (fun e => hne (by injection e))).trans (Below.heap_alloc w _ k hk)
  refine h g' c' w' ⟨by simp [hown.1], by rw [flatM_push]; exact hown2⟩ hblk ⟨hg.os, hg.tape, hg.output, Nat.le_trans (by simp) hg.size, fun b hb => hblk b (by omega) (by omega)⟩ ?_
  rcases hat with e | e
  · left; injection e
  · right; injection e with e; simp at e; omega
end
end Go.Proofs.Ytcalfblghblhcaa
namespace Go.Proofs.Ytcalfblghblhcaa
open Go.RowKit

/-- what is kept, with the boxes -/
structure KH (w : World) (W0 RB bk bp : Nat) (p : Int) (n m t : Nat) (K F : Nat → Nat → Int) (g c : Nat) (V : List (Value × Value)) : Prop where
  bk_ : Blk w bk 97 #[.slice (some ⟨g, 0, none⟩) t c]
  bp_ : Blk w bp 65 #[.int .i64 p]
  mds : Mds w W0 g t c V
  ne : g ≠ bk ∧ g ≠ bp ∧ bk ≠ bp
  lo : bk < RB ∧ bp < RB
  rows : ∀ a, a < t → ∃ KR KC FR FC, V[a]? = some (.slice (some ⟨KR, 0, none⟩) m KC, .slice (some ⟨FR, 0, none⟩) n FC) ∧ Row w RB (some ⟨KR, 0, none⟩) m KC (listOf m (K a)) ∧ Row w RB (some ⟨FR, 0, none⟩) n FC (listOf n (F a))
theorem KH.keep {w w' : World} {W0 RB bk bp : Nat} {p : Int} {n m t : Nat} {K F : Nat → Nat → Int} {g c : Nat} {V : List (Value × Value)} (h : KH w W0 RB bk bp p n m t K F g c V) (hb : Below w.heap.size w w') : KH w' W0 RB bk bp p n m t K F g c V :=
  ⟨h.bk_.below hb h.bk_.lt, h.bp_.below hb h.bp_.lt, h.mds.far (hb.block g h.mds.blk.2.1), h.ne, h.lo, fun a ha => by
    obtain ⟨KR, KC, FR, FC, h1, h2, h3⟩ := h.rows a ha
    exact ⟨KR, KC, FR, FC, h1, h2.keep hb, h3.keep hb⟩⟩
theorem KH.ks {w : World} {W0 RB bk bp : Nat} {p : Int} {n m t : Nat} {K F : Nat → Nat → Int} {g c : Nat} {V : List (Value × Value)} (h : KH w W0 RB bk bp p n m t K F g c V) : KS w w.heap.size bk bp p n m t K F := by
  have hch : ∀ a, ∃ q : Nat × Nat × Nat × Nat, a < t → V[a]? = some (.slice (some ⟨q.1, 0, none⟩) m q.2.1, .slice (some ⟨q.2.2.1, 0, none⟩) n q.2.2.2) ∧ Row w RB (some ⟨q.1, 0, none⟩) m q.2.1 (listOf m (K a)) ∧ Row w RB (some ⟨q.2.2.1, 0, none⟩) n q.2.2.2 (listOf n (F a)) := fun a => by
    by_cases ha : a < t
    · obtain ⟨KR, KC, FR, FC, h1⟩ := h.rows a ha
      exact ⟨(KR, KC, FR, FC), fun _ => h1⟩
    · exact ⟨(0, 0, 0, 0), fun h => absurd h ha⟩
  obtain ⟨q, hq⟩ := Classical.axiomOfChoice hch
  refine ⟨g, c, fun a => (q a).1, fun a => (q a).2.1, fun a => (q a).2.2.1, fun a => (q a).2.2.2, h.bk_.at_ rfl, h.bp_.at_ rfl, ⟨h.bk_.lt, h.bp_.lt, h.mds.blk.2.1, Nat.le_refl _⟩, fun a ha => ?_⟩
  obtain ⟨h1, h2, h3⟩ := hq a ha
  obtain ⟨c1, c2⟩ := h.mds.at_ h1
  exact ⟨c1, c2, h2.bl.2, h3.bl.2, h2.cells, h3.cells⟩
/-- a row more is kept -/
theorem KH.push {w6 w8 : World} {W0 RB bk bp : Nat} {p : Int} {n m t : Nat} {K F : Nat → Nat → Int} {g c : Nat} {V : List (Value × Value)} (h : KH w6 W0 RB bk bp p n m t K F g c V) {g' c' bx cx bf cf : Nat} {x f : Nat → Int}
    (hm : Mds w8 W0 g' (t + 1) c' (V ++ [(.slice (some ⟨bx, 0, none⟩) m cx, .slice (some ⟨bf, 0, none⟩) n cf)])) (hb : ∀ k, k < w6.heap.size → k ≠ g → w8.heap[k]? = w6.heap[k]?) (hg : g' = g ∨ w6.heap.size ≤ g') (hx : Row w6 RB (some ⟨bx, 0, none⟩) m cx (listOf m x)) (hf : Row w6 RB (some ⟨bf, 0, none⟩) n cf (listOf n f)) :
    KH (w8.setCell ⟨bk, 0, none⟩ (.slice (some ⟨g', 0, none⟩) (t + 1) c')) W0 RB bk bp p n m (t + 1) (fun a => if a = t then x else K a) (fun a => if a = t then f else F a) g' c' (V ++ [(.slice (some ⟨bx, 0, none⟩) m cx, .slice (some ⟨bf, 0, none⟩) n cf)]) := by
  have hne := h.ne
  have hlo := h.lo
  have hbk := h.bk_.lt
  have hbp := h.bp_.lt
  have hgk : g' ≠ bk ∧ g' ≠ bp := by rcases hg with rfl | h1 <;> omega
  have far : ∀ {b n1 c1 : Nat} {xs : List Int}, Row w6 RB (some ⟨b, 0, none⟩) n1 c1 xs → Row (w8.setCell ⟨bk, 0, none⟩ (.slice (some ⟨g', 0, none⟩) (t + 1) c')) RB (some ⟨b, 0, none⟩) n1 c1 xs := fun {b n1 c1 xs} hr => by
    have hl := hr.bl
    exact hr.far ((Below.heap_setCell w8 _ _ b (show b ≠ bk by omega)).trans (hb b hl.2 (h.mds.ne hr)))
  refine ⟨?_, ?_, hm.far (Below.heap_setCell w8 _ _ g' hgk.1), ⟨hgk.1, hgk.2, hne.2.2⟩, hlo, fun a ha => ?_⟩
  · have h1 : Blk w8 bk 97 #[.slice (some ⟨g, 0, none⟩) t c] := (hb bk hbk (fun e => hne.1 e.symm)).trans h.bk_
    exact h1.set_ 0 _
  · have h1 : Blk w8 bp 65 #[.int .i64 p] := (hb bp hbp (fun e => hne.2.1 e.symm)).trans h.bp_
    exact h1.far (show bp ≠ bk from fun e => hne.2.2 e.symm) _
  · have hvl : V.length = t := h.mds.1
    by_cases e : a = t
    · subst e
      refine ⟨bx, cx, bf, cf, ?_, ?_, ?_⟩
      · rw [List.getElem?_append_right (by omega)]; simp [hvl]
      · simp only [if_pos]; exact far hx
      · simp only [if_pos]; exact far hf
    · obtain ⟨KR, KC, FR, FC, h1, h2, h3⟩ := h.rows a (by omega)
      refine ⟨KR, KC, FR, FC, ?_, ?_, ?_⟩
      · rw [List.getElem?_append_left (by omega)]; exact h1
      · simp only [if_neg e]; exact far h2
      · simp only [if_neg e]; exact far h3
/-- a new list, as it lies in memory: its box, the list, its factors -/
structure NewX (w0 w : World) (bb bx cx bf : Nat) (m n : Nat) (x f : Nat → Int) : Prop where
  box : Blk w bb 99 #[.slice (some ⟨bx, 0, none⟩) m cx, .slice (some ⟨bf, 0, none⟩) n n]
  x : Row w w0.heap.size (some ⟨bx, 0, none⟩) m cx (listOf m x)
  f : Row w w0.heap.size (some ⟨bf, 0, none⟩) n n (listOf n f)
  ne : bx ≠ bf ∧ bb ≠ bx ∧ bb ≠ bf
  lo : w0.heap.size ≤ bb
  below : Below w0.heap.size w0 w

theorem ldF_cases (f : Nat → Int) (n : Nat) : (∀ i, i < n → f i = 0) ∨ ∃ q, q < n ∧ f q ≠ 0 ∧ ∀ i, i < q → f i = 0 := by
  induction n with
  | zero => exact .inl fun i hi => by omega
  | succ n ih =>
    rcases ih with h | ⟨q, h1, h2, h3⟩
    · by_cases h0 : f n = 0
      · exact .inl fun i hi => by
          by_cases e : i = n
          · subst e; exact h0
          · exact h i (by omega)
      · exact .inr ⟨n, by omega, h0, h⟩
    · exact .inr ⟨q, by omega, h2, h3⟩
theorem unit_row {n i : Nat} : (listOf n (fun _ => 0)).set i 1 = listOf n (fun j => if j = i then 1 else 0) := listOf_set n (fun _ => 0) i 1
section
variable {w0 wq W : World} {bx c3 m n : Nat} {x : Nat → Int}
theorem newx_cma (hr : Row wq w0.heap.size (some ⟨bx, 0, none⟩) m c3 (listOf m x)) (hb : Below w0.heap.size w0 wq) (hn : n ≤ 1000) :
    NewX w0 ((wq.alloc (.cells (madeCells #[.int .i64 0] n) 3)).alloc (.cells #[.slice (some ⟨bx, 0, none⟩) m c3, .slice (some ⟨wq.heap.size, 0, none⟩) n n] 99)) (wq.heap.size + 1) bx c3 wq.heap.size m n x (fun _ => 0) := by
  have h1 := hr.bl
  exact ⟨Blk.newAt (by simp) _ _, (hr.alloc _).alloc _, by rw [listOf_zero]; exact (Row.zeros n hb.size (by omega)).alloc _, by omega, by have := hb.size; omega, (hb.alloc hb.size _).alloc (by simp; have := hb.size; omega) _⟩
theorem newx_cam (hr : Row wq w0.heap.size (some ⟨bx, 0, none⟩) m c3 (listOf m x)) (hb : Below w0.heap.size w0 wq) (hn : n ≤ 1000) :
    NewX w0 ((wq.alloc (.cells #[.slice (some ⟨bx, 0, none⟩) m c3, .slice (some ⟨wq.heap.size + 1, 0, none⟩) n n] 99)).alloc (.cells (madeCells #[.int .i64 0] n) 3)) wq.heap.size bx c3 (wq.heap.size + 1) m n x (fun _ => 0) := by
  have h1 := hr.bl
  have hz := Row.zeros (w := wq.alloc (.cells #[.slice (some ⟨bx, 0, none⟩) m c3, .slice (some ⟨wq.heap.size + 1, 0, none⟩) n n] 99)) (base := w0.heap.size) n (by simp; have := hb.size; omega) (by omega)
  rw [World.size_alloc] at hz
  exact ⟨(Blk.new _ _ _).alloc _, (hr.alloc _).alloc _, by rw [listOf_zero]; exact hz, by omega, hb.size, (hb.alloc hb.size _).alloc (by simp; have := hb.size; omega) _⟩
theorem newx_mca (hr : Row wq w0.heap.size (some ⟨bx, 0, none⟩) m c3 (listOf m x)) (hb : Below w0.heap.size w0 wq) (hf : Row wq w0.heap.size (some ⟨w0.heap.size, 0, none⟩) n n (List.replicate n 0)) (hbx : w0.heap.size + 1 ≤ bx) :
    NewX w0 (wq.alloc (.cells #[.slice (some ⟨bx, 0, none⟩) m c3, .slice (some ⟨w0.heap.size, 0, none⟩) n n] 99)) wq.heap.size bx c3 w0.heap.size m n x (fun _ => 0) := by
  have h1 := hr.bl
  exact ⟨Blk.new _ _ _, hr.alloc _, by rw [listOf_zero]; exact hf.alloc _, by omega, hb.size, hb.alloc hb.size _⟩
theorem setBox {b : Nat} {u v : Value} (h : Blk wq b 99 #[.slice none 0 0, .slice none 0 0]) : Blk ((wq.setCell ⟨b, 0, none⟩ u).setCell ⟨b, 1, none⟩ v) b 99 #[u, v] := (h.set_ 0 u).set_ 1 v
theorem Row.setFar2 {b b1 base n c : Nat} {xs : List Int} (h : Row wq base (some ⟨b1, 0, none⟩) n c xs) (hne : b ≠ b1) (u v : Value) : Row ((wq.setCell ⟨b, 0, none⟩ u).setCell ⟨b, 1, none⟩ v) base (some ⟨b1, 0, none⟩) n c xs :=
  h.far ((Below.heap_setCell _ _ _ b1 (fun e => hne e.symm)).trans (Below.heap_setCell _ _ _ b1 (fun e => hne e.symm)))
/-- the box is made ahead of the clone -/
theorem newx_ac {b bf : Nat} (hr : Row wq w0.heap.size (some ⟨bx, 0, none⟩) m c3 (listOf m x)) (hb : Below w0.heap.size w0 wq) (hk : Blk wq b 99 #[.slice none 0 0, .slice none 0 0]) (hf : Row wq w0.heap.size (some ⟨bf, 0, none⟩) n n (List.replicate n 0)) (hlo : w0.heap.size ≤ b) (hne : bx ≠ bf ∧ b ≠ bx ∧ b ≠ bf) :
    NewX w0 ((wq.setCell ⟨b, 0, none⟩ (.slice (some ⟨bx, 0, none⟩) m c3)).setCell ⟨b, 1, none⟩ (.slice (some ⟨bf, 0, none⟩) n n)) b bx c3 bf m n x (fun _ => 0) :=
  ⟨setBox hk, hr.setFar2 hne.2.1 _ _, by rw [listOf_zero]; exact hf.setFar2 hne.2.2 _ _, hne, hlo, (hb.setCell (p := ⟨b, 0, none⟩) hlo _).setCell (p := ⟨b, 1, none⟩) hlo _⟩
theorem newx_acm {b : Nat} (hr : Row wq w0.heap.size (some ⟨bx, 0, none⟩) m c3 (listOf m x)) (hb : Below w0.heap.size w0 wq) (hk : Blk wq b 99 #[.slice none 0 0, .slice none 0 0]) (hn : n ≤ 1000) (hlo : w0.heap.size ≤ b) (hne : b ≠ bx) :
    NewX w0 (((wq.setCell ⟨b, 0, none⟩ (.slice (some ⟨bx, 0, none⟩) m c3)).setCell ⟨b, 1, none⟩ (.slice (some ⟨wq.heap.size, 0, none⟩) n n)).alloc (.cells (madeCells #[.int .i64 0] n) 3)) b bx c3 wq.heap.size m n x (fun _ => 0) := by
  have h1 := hr.bl
  have h2 := hk.lt
  have hsz : ((wq.setCell ⟨b, 0, none⟩ (.slice (some ⟨bx, 0, none⟩) m c3)).setCell ⟨b, 1, none⟩ (.slice (some ⟨wq.heap.size, 0, none⟩) n n)).heap.size = wq.heap.size := by simp [World.setCell]
  have hz := Row.zeros (w := (wq.setCell ⟨b, 0, none⟩ (.slice (some ⟨bx, 0, none⟩) m c3)).setCell ⟨b, 1, none⟩ (.slice (some ⟨wq.heap.size, 0, none⟩) n n)) (base := w0.heap.size) n (by rw [hsz]; exact hb.size) (by omega)
  rw [hsz] at hz
  exact ⟨(setBox hk).alloc _, (hr.setFar2 hne _ _).alloc _, by rw [listOf_zero]; exact hz, by omega, hlo, ((hb.setCell (p := ⟨b, 0, none⟩) hlo _).setCell (p := ⟨b, 1, none⟩) hlo _).alloc (by rw [hsz]; exact hb.size) _⟩
end

set_option maxHeartbeats 4000000 in
set_option maxRecDepth 100000 in
theorem solveI_any (p : Int) (hp : isP p = true) (A B : Option Addr) (n c m d : Nat) (R : Nat → Nat → Int) (g : Nat → Int) (w : World) (hn : n ≤ 6) (hm : 1 ≤ m ∧ m ≤ 7) (hR : ∀ i, i < n → ∀ k, k < m → 0 ≤ R i k ∧ R i k < p) (hg : ∀ k, k < m → 0 ≤ g k ∧ g k < p)
    (h : Mat w w.heap.size A n (fun _ => m) R) (h2 : Ints w w.heap.size B m g) :
    Calls Try.prog 72 #[.int .i64 p, .slice A n c, .slice B m d] w (SolPost p n m R g w) := by
  have HM := hide h
  have HG := hide h2
  have HRR := hide hR
  have HGR := hide hg
  have HP := hide hp
  have hpb := isP_pos hp
  have hmk := run_make_row' (P := Try.prog) 23 3 (.int .i64 0) 8 Try.underlying23 info_int rfl .i64 .i64 n (by omega) (by omega)
  clear h h2 hR hg hp
  go_enter Try.func72, Try.ntmps72
  go_wp2_with fail
  go_loopw [22] (fun v wr => ∃ (i t : Nat) (K F : Nat → Nat → Int) (l : Nat → Nat) (g c : Nat) (V : List (Value × Value)), i ≤ n ∧ v = .int .i64 i ∧ t ≤ i ∧ Kp p n m R i t K F l ∧ (∀ a, a < t → Rg p m (K a) ∧ Rg p n (F a)) ∧ KH wr w.heap.size (w.heap.size + 3) (w.heap.size + 1 + 1) w.heap.size p n m t K F g c V ∧ Below w.heap.size w wr ∧ w.heap.size + 3 ≤ wr.heap.size) (fun v _ => n - (intOf v).toNat)
  case atStart =>
    refine ⟨0, 0, fun _ _ => 0, fun _ _ => 0, fun _ => 0, w.heap.size + 1, 0, [], by omega, rfl, by omega, Kp.start .., by simp, ⟨?_, ?_, ?_, by omega, by omega, by simp⟩, by go_grown, by simp⟩
    · first | exact Blk.newAt (by simp) _ _ | exact (Blk.newAt (by simp) _ _).alloc _
    · exact ((Blk.newAt (by simp) _ _).alloc _).alloc _
    · have := (Mds.empty (w := w.alloc (.cells #[.int .i64 p] 65)) (base := w.heap.size) (by simp)).far (Below.heap_alloc _ (.cells #[.slice (some ⟨w.heap.size + 1, 0, none⟩) 0 0] 97) _ (by simp))
      simpa using this
  case round =>
    obtain ⟨i, t, K, F, l, g0, c0, V, hi, rfl, hti, hkp, hrg, hkh, hb, hz⟩ := hrel
    obtain ⟨wo, hwo⟩ : ∃ x, x = wr := ⟨_, rfl⟩
    rw [← hwo] at hkh hb hz
    rw [← hwo]
    clear hwo
    have HK := hide hkp
    have HKR := hide hrg
    have HH := hide hkh
    have HB := hide hb
    have hz0 := hb.size
    clear hkp hrg hkh hb
    by_cases hlt : i < n
    · have hiI : (i : Int) < (n : Int) := by omega
      obtain ⟨b, off, rfl, hbl, hc⟩ := HM.out (by omega)
      obtain ⟨R1, C1, e1, e2⟩ := hc i hlt
      have x1 := (HB.out.cell (p := ⟨b, off + i, none⟩) hbl).trans e1
      obtain ⟨b1, o1, rfl, hb1, hc1⟩ := e2 (show 0 < m by omega)
      have HCL := hide (fun (W : World) (hW : Below wo.heap.size wo W) => slClone_any (some ⟨b1, o1, none⟩) m C1 (R i) W (by omega) (fun _ => ⟨b1, o1, rfl, by have := hW.size; omega, fun k hk => (hW.cell (p := ⟨b1, o1 + k, none⟩) (by show b1 < _; omega)).trans ((HB.out.cell (p := ⟨b1, o1 + k, none⟩) hb1).trans (hc1 k hk))⟩))
      have hbo : b < wo.heap.size := by omega
      clear hc e1 e2 hc1
      go_wp2_with fail
      go_cut [12] (fun v wx => ∃ bb bx cx bf, v = .pointer (some ⟨bb, 0, none⟩) ∧ NewX wo wx bb bx cx bf m n (R i) (fun _ => 0))
      case first =>
        go_region_with (first | (go_at_call 92; refine (HCL.out _ (by first | exact Below.refl _ _ | go_grown | exact Below.drew (by go_grown))).mono ?_; rintro e wq ⟨A3, c3, rfl, hr3, hb3⟩; obtain ⟨bx, rfl, hbx1, hbx2⟩ := hr3.some_ (by omega); obtain ⟨hcq, hfq⟩ := bcell hb3; have hz3 := hb3.size; (try simp only [World.size_alloc, World.size_drew] at hz3 hbx1); have hz4 : wo.heap.size < wq.heap.size := (by omega)))
        all_goals go_wp2_with fail
        all_goals go_meet
        · exact ⟨_, _, _, _, rfl, newx_cma hr3 (up hb3 (Below.refl wo.heap.size wo).drew (Nat.le_refl _)) (by omega)⟩
        · exact ⟨_, _, _, _, rfl, newx_cam hr3 (up hb3 (Below.refl wo.heap.size wo).drew (Nat.le_refl _)) (by omega)⟩
        · exact ⟨_, _, _, _, rfl, newx_mca (hr3.mono (by simp)) (up hb3 ((Below.refl wo.heap.size wo).drew.alloc (Nat.le_refl _) _) (by simp)) ((Row.zeros (w := wo.drew) (base := wo.heap.size) n (Nat.le_refl _) (by omega)).keep hb3) (by omega)⟩
        · refine ⟨_, _, _, _, rfl, newx_ac (b := wo.heap.size + 1) (hr3.mono (by simp; omega)) (up hb3 (((Below.refl wo.heap.size wo).drew.alloc (Nat.le_refl _) _).alloc (by simp) _) (by simp; omega)) ?_ ?_ (by omega) (by omega)⟩
          · refine (hb3.block _ (by simp)).trans ?_
            exact Blk.newAt (by simp) _ _
          · have := ((Row.zeros (w := wo.drew) (base := wo.heap.size) n (Nat.le_refl _) (by omega)).alloc (.cells #[.slice none 0 0, .slice none 0 0] 99)).keep hb3
            exact this
        · refine ⟨_, _, _, _, rfl, newx_acm (b := wo.heap.size) (hr3.mono (by simp)) (up hb3 ((Below.refl wo.heap.size wo).drew.alloc (Nat.le_refl _) _) (by simp)) ?_ (by omega) (Nat.le_refl _) (by omega)⟩
          refine (hb3.block _ (by simp)).trans ?_
          exact Blk.newAt (by simp) _ _
        · refine ⟨_, _, _, _, rfl, newx_ac (b := wo.heap.size) (hr3.mono (by simp; omega)) (up hb3 (((Below.refl wo.heap.size wo).drew.alloc (Nat.le_refl _) _).alloc (by simp) _) (by simp; omega)) ?_ ?_ (Nat.le_refl _) (by omega)⟩
          · refine (hb3.block _ (by simp; omega)).trans ?_
            exact Blk.alloc (Blk.newAt (by simp) _ _) _
          · have := (Row.zeros (w := wo.drew.alloc (.cells #[.slice none 0 0, .slice none 0 0] 99)) (base := wo.heap.size) n (by simp) (by omega)).keep hb3
            simpa using this
      case rest =>
        obtain ⟨bb, bx, cx, bf, rfl, hnx⟩ := hcut
        obtain ⟨w1, rfl⟩ : ∃ x, x = wc := ⟨_, rfl⟩
        clear x1 HCL
        have hne := hnx.ne
        have hb1 := hnx.below
        obtain ⟨bf', ef, _, _, q3, q4, q5⟩ := hnx.f.at_ (i := i) hlt
        obtain rfl : bf = bf' := by simpa using ef
        have x1 := hnx.box.at_ (i := 0) rfl
        have x2 := hnx.box.at_ (i := 1) rfl
        have hnl := hnx.lo
        have hbl1 := hnx.box.lt
        have hx0 := hnx.x.bl
        have hf0 := hnx.f.bl
        have hf2 := q5 1
        rw [unit_row] at hf2
        have hb2 : Below wo.heap.size wo (w1.setCell ⟨bf, i, none⟩ (.int .i64 1)) := hb1.setCell (p := ⟨bf, i, none⟩) hf0.1 _
        have HX1 := hide ((World.cell?_setCell_other w1 ⟨bf, i, none⟩ ⟨bb, 0, none⟩ (.int .i64 1) (fun h => hne.2.2 (by injection h with h; exact h.symm))).trans x1)
        have HX2 := hide ((World.cell?_setCell_other w1 ⟨bf, i, none⟩ ⟨bb, 1, none⟩ (.int .i64 1) (fun h => hne.2.2 (by injection h with h; exact h.symm))).trans x2)
        have HLS := hide (less_any p HP.out hn hm (by omega) HK.out HKR.out (P := fun j => j = i ∨ (j < i ∧ ¬ Spn p m R j (R j))) (fun j _ h => .inr h) (R i) (fun j => if j = i then 1 else 0) (Ls.start_row hlt) (fun k hk => HRR.out i hlt k hk) (fun j _ => by dsimp only; split <;> omega) wo.heap.size (w.heap.size + 1 + 1) w.heap.size bx cx bf n (w1.setCell ⟨bf, i, none⟩ (.int .i64 1)) (HH.out.ks.keep hb2) (hnx.x.far (Below.heap_setCell _ _ _ _ hne.1)) hf2 hne.1)
        have HB2 := hide hb2
        clear q5 ef hf2 hb1 hb2 hnx
        go_wp2_with fail
        refine (HLS.out).mono ?_
        rintro e w3 ⟨rfl, x', f', hls, ⟨hxr, hfr⟩, hx3, hf3, ho3⟩
        have hsz2 : (w1.setCell ⟨bf, i, none⟩ (.int .i64 1)).heap.size = w1.heap.size := by simp [World.setCell]
        have x1 := (ho3.cell 0 (by rw [hsz2]; exact hbl1) hne.2.1 hne.2.2).trans HX1.out
        have x2 := (ho3.cell 1 (by rw [hsz2]; exact hbl1) hne.2.1 hne.2.2).trans HX2.out
        have hzw1 := HB2.out.size
        rw [hsz2] at hzw1
        have HB3 := hide (show Below wo.heap.size wo w3 from HB2.out.trans (ho3.below hx0.1 hf0.1 (by rw [hsz2]; exact hzw1)))
        have hz3 := ho3.size
        rw [hsz2] at hz3
        have HX3 := hide hx3
        have HF3 := hide hf3
        have HLX := hide hls
        have HXR := hide hxr
        have HFR := hide hfr
        have hx3l := hx3.bl
        have hf3l := hf3.bl
        have HLE := hide (lead_any (some ⟨bx, 0, none⟩) m cx x' w3 (by omega) (fun _ => ⟨bx, 0, rfl, hx3l.2, fun k hk => by rw [Nat.zero_add]; exact hx3.cells k hk⟩))
        have X1 := hide x1
        have X2 := hide x2
        clear x2 hls hxr hfr hx3 hf3 ho3 HLS HX1 HX2 HB2
        go_wp2_with fail
        refine (HLE.out).mono ?_
        rintro e _ ⟨rfl, rfl⟩
        clear x1 q3 q4
        rcases ldF_cases x' m with h0 | ⟨q, hq, hxq, hlo⟩
        · rw [ldF_none h0]
          have HKS := hide (HK.out.skip (HLX.out.in_ h0))
          have HH3 := hide (HH.out.keep HB3.out)
          clear h0
          have hneg : ¬ (0 : Int) ≤ -1 := by omega
          generalize (-1 : Int) = neg at *
          go_wp2_with fail
          go_roundw
          case rel => first | exact ⟨i + 1, t, K, F, l, g0, c0, V, by omega, by go_num, by omega, HKS.out, HKR.out, HH3.out, HB.out.trans (HB3.out.mono hz0), by omega⟩ | ((repeat apply Exists.intro); exact ⟨⟨i + 1, t, K, F, l, g0, c0, V, by omega, by go_num, by omega, HKS.out, HKR.out, HH3.out, HB.out.trans (HB3.out.mono hz0), by omega⟩, rfl⟩)
          case measure => simp [intOf]; omega
        · rw [ldF_some hq hxq hlo]
          have hxb := HXR.out q hq
          obtain ⟨hy1, hy2, hy3, _⟩ := inv_ok HP.out (show 1 ≤ x' q by omega) (show x' q ≤ p - 1 by omega)
          have HINV := hide (fun (W : World) => inverseI_any p (x' q) W HP.out (by omega) (by omega))
          have hxc := HX3.out.cells q hq
          have HY := hide hy3
          have HQ := hide (show _ ∧ _ from ⟨hxq, hlo⟩)
          have bpB := HH.out.bp_.below HB3.out HH.out.bp_.lt
          have hbp := bpB.at_ (i := 0) rfl
          have HBP := hide hbp
          have x1 := X1.out
          have hqI : (q : Int) < (m : Int) := by omega
          have hqI0 : (0 : Int) ≤ (q : Int) := by omega
          clear hy3 hxq hlo bpB
          generalize hyy : inv p (x' q) = y at *
          have hhh : x' q = x' q := rfl
          go_wp2_with fail
          go_quiet ((first | (go_at_call 93; exact quietM (HINV.out _))))
          refine nameX (fun wx => wx.cell? ⟨bb, 0, none⟩ = some (.slice (some ⟨bx, 0, none⟩) m cx) ∧ wx.cell? ⟨bb, 1, none⟩ = some (.slice (some ⟨bf, 0, none⟩) n n) ∧ wx.cell? ⟨w.heap.size, 0, none⟩ = some (.int .i64 p) ∧ Row wx wo.heap.size (some ⟨bx, 0, none⟩) m cx (listOf m x') ∧ Row wx wo.heap.size (some ⟨bf, 0, none⟩) n n (listOf n f') ∧ Below w3.heap.size w3 wx) ⟨X1.out, X2.out, HBP.out, HX3.out.drewN _, HF3.out.drewN _, below_drewN (Below.refl _ _) _⟩ ?_
          clear x1 hxc hbp X1 X2 HBP HX3 HF3 HINV HLE
          rintro w4 ⟨x1, x2, hbp, hx4, hf4, hb4⟩
          have hz4 := hb4.size
          have hx4l := hx4.bl
          have hf4l := hf4.bl
          have HCX := hide (fun (W : World) (hW : Below w4.heap.size w4 W) => slClone_any (some ⟨bx, 0, none⟩) m cx x' W (by omega) (fun _ => ⟨bx, 0, rfl, by have := hW.size; omega, fun k hk => by rw [Nat.zero_add]; exact (hW.cell (p := ⟨bx, k, none⟩) hx4l.2).trans (hx4.cells k hk)⟩))
          have HAD := hide (fun (W : World) (b3 c3 : Nat) (hW : Below w4.heap.size w4 W) (hr : Row W w4.heap.size (some ⟨b3, 0, none⟩) m c3 (listOf m x')) => add_any p (y - 1) bx m cx b3 0 c3 x' x' W HP.out (by omega) (by omega) HXR.out HXR.out ((hx4.keep hW).mono (Nat.zero_le _)) (by have := hr.bl; omega) (fun k hk => by rw [Nat.zero_add]; exact hr.cells k hk))
          have HF4 := hide hf4
          have HB4 := hide hb4
          have X2 := hide x2
          clear hx4 hf4 hb4 x2
          go_wp2_with fail
          go_region_held3 (fun w' => w'.cell? ⟨w.heap.size, 0, none⟩ = some (.int .i64 p) ∧ w'.cell? ⟨bb, 0, none⟩ = some (.slice (some ⟨bx, 0, none⟩) m cx)) (first | exact ⟨hbp, x1⟩ | exact ⟨qp, qx⟩ | exact ⟨qp5, qx5⟩) (first | (go_at_call 92; refine (HCX.out _ (by first | exact Below.refl _ _ | exact (Below.refl _ _).drew)).mono ?_; rintro e wq ⟨A3, c3, rfl, hr3, hb3⟩; obtain ⟨b3, rfl, hb3a, hb3b⟩ := hr3.some_ (by omega); have hbq : Below w4.heap.size w4 wq := (by first | exact hb3 | exact up hb3 (Below.refl w4.heap.size w4).drew (Nat.le_refl _)); have qp := (hbq.cell (p := ⟨w.heap.size, 0, none⟩) (show w.heap.size < w4.heap.size by omega)).trans hbp; have qx := (hbq.cell (p := ⟨bb, 0, none⟩) (show bb < w4.heap.size by omega)).trans x1) | (go_at_call 91; refine (HAD.out _ b3 c3 hbq hr3).mono ?_; rintro e w5 ⟨rfl, hx5, ho5, hz5⟩; have qp5 := ((On2.of_x (bf := bf) ho5).cell 0 (by have := hbq.size; omega) (by omega) (by omega)).trans qp; have qx5 := ((On2.of_x (bf := bf) ho5).cell 0 (by have := hbq.size; omega) hne.2.1 hne.2.2).trans qx))
          have o5 : On2 bx bf w4 w5 := (On2.of_below hbq).trans (On2.of_x ho5)
          have hz5' := o5.size
          have hx5r : Row w5 wo.heap.size (some ⟨bx, 0, none⟩) m cx (listOf m (addm p x' (y - 1) x')) := hx5.rebase hx0.1
          have hf5 : Row w5 wo.heap.size (some ⟨bf, 0, none⟩) n n (listOf n f') := (HF4.out.keep hbq).far (ho5.block bf (by have := hbq.size; omega) (fun e => hne.1 (by injection e with e; exact e.symm)))
          have x25 := (o5.cell 1 (by omega) hne.2.1 hne.2.2).trans X2.out
          have HX5 := hide hx5r
          have HO5 := hide o5
          have hx5l := hx5r.bl
          have hf5l := hf5.bl
          have HCF := hide (fun (W : World) (hW : Below w5.heap.size w5 W) => slClone_any (some ⟨bf, 0, none⟩) n n f' W (by omega) (fun _ => ⟨bf, 0, rfl, by have := hW.size; omega, fun k hk => by rw [Nat.zero_add]; exact (hW.cell (p := ⟨bf, k, none⟩) hf5l.2).trans (hf5.cells k hk)⟩))
          have HAF := hide (fun (W : World) (b3 c3 : Nat) (hW : Below w5.heap.size w5 W) (hr : Row W w5.heap.size (some ⟨b3, 0, none⟩) n c3 (listOf n f')) => add_any p (y - 1) bf n n b3 0 c3 f' f' W HP.out (by omega) (by omega) HFR.out HFR.out ((hf5.keep hW).mono (Nat.zero_le _)) (by have := hr.bl; omega) (fun k hk => by rw [Nat.zero_add]; exact hr.cells k hk))
          have QX5 := hide qx5
          clear hb3a hb3b hr3 hb3 hx5 ho5 hx5r hf5 qx5 qx qp HCX HAD x1 hbp o5 hbq
          go_wp2_with fail
          go_region_held3 (fun w' => w'.cell? ⟨w.heap.size, 0, none⟩ = some (.int .i64 p) ∧ w'.cell? ⟨bb, 1, none⟩ = some (.slice (some ⟨bf, 0, none⟩) n n)) (first | exact ⟨qp5, x25⟩ | exact ⟨rp, rx⟩ | exact ⟨rp6, rx6⟩) (first | (go_at_call 92; refine (HCF.out _ (by first | exact Below.refl _ _ | exact (Below.refl _ _).drew)).mono ?_; rintro e wk ⟨A3, c3, rfl, hr3, hb3⟩; obtain ⟨b3, rfl, hb3a, hb3b⟩ := hr3.some_ (by omega); have hbq : Below w5.heap.size w5 wk := (by first | exact hb3 | exact up hb3 (Below.refl w5.heap.size w5).drew (Nat.le_refl _)); have rp := (hbq.cell (p := ⟨w.heap.size, 0, none⟩) (show w.heap.size < w5.heap.size by omega)).trans qp5; have rx := (hbq.cell (p := ⟨bb, 1, none⟩) (show bb < w5.heap.size by omega)).trans x25) | (go_at_call 91; refine (HAF.out _ b3 c3 hbq hr3).mono ?_; rintro e w6 ⟨rfl, hf6, ho6, hz6⟩; have rp6 := ((On2.of_f (bx := bx) ho6).cell 0 (by have := hbq.size; omega) (by omega) (by omega)).trans rp; have rx6 := ((On2.of_f (bx := bx) ho6).cell 1 (by have := hbq.size; omega) hne.2.1 hne.2.2).trans rx))
          have o6 : On2 bx bf w5 w6 := (On2.of_below hbq).trans (On2.of_f ho6)
          have hf6r : Row w6 wo.heap.size (some ⟨bf, 0, none⟩) n n (listOf n (addm p f' (y - 1) f')) := hf6.rebase hf0.1
          have hx6 : Row w6 wo.heap.size (some ⟨bx, 0, none⟩) m cx (listOf m (addm p x' (y - 1) x')) := (HX5.out.keep hbq).far (ho6.block bx (by have := hbq.size; omega) (fun e => hne.1 (by injection e)))
          have x1 := (o6.cell 0 (by omega) hne.2.1 hne.2.2).trans QX5.out
          have x2 := rx6
          have hb6 : Below wo.heap.size wo w6 := (HB3.out.trans (HB4.out.mono (by omega))).trans ((HO5.out.trans o6).below hx0.1 hf0.1 (by omega))
          have hh6 := HH.out.keep hb6
          have HH6 := hide hh6
          have HB6 := hide hb6
          have HX6 := hide hx6
          have HF6 := hide hf6r
          have hk6 := hh6.bk_.at_ (i := 0) rfl
          have hz6' := hb6.size
          have hkl6 := hh6.bk_.lt
          have hx6l := hx6.bl
          have hf6l := hf6r.bl
          have HZ6 := hide hz6
          clear hz6 hz5 hb3a hb3b hr3 hb3 hf6 ho6 hf6r hx6 HCF HAF qp5 x25 o6 hbq rp rx rp6 rx6 hh6 hb6 HB4 HF4 X2 QX5 HX5 HO5
          go_wp2_with (at_builtin; (refine push_made rfl _ _ rfl rfl HH6.out.mds (some ⟨bx, 0, none⟩) (some ⟨bf, 0, none⟩) m cx n n _ rfl (by omega) (by omega) ?_; intro g' c' w8 hm8 hbl8 hb8 hg8; have bk8 : Blk w8 (w.heap.size + 1 + 1) 97 #[.slice (some ⟨g0, 0, none⟩) t c0] := (hbl8 _ HH6.out.bk_.lt (fun e => HH6.out.ne.1 e.symm)).trans HH6.out.bk_; have k1 := bk8.at_ (i := 0) rfl; have k2 := bk8.frozen 0))
          have HM8 := hide hm8
          have HBL8 := hide hbl8
          have HB8 := hide hb8
          have HG8 := hide hg8
          have HBK8 := hide bk8
          have hz8 := hb8.size
          have hg6l := HH6.out.mds.blk
          have HKH := hide (HH6.out.push hm8 hbl8 hg8 (HX6.out.mono (by omega)) (HF6.out.mono (by omega)))
          have HKP := hide (Kp.keep HP.out HK.out HLX.out HXR.out hq HQ.out.1 HQ.out.2 HY.out (K' := fun a => if a = t then addm p x' (y - 1) x' else K a) (F' := fun a => if a = t then addm p f' (y - 1) f' else F a) (l' := fun a => if a = t then q else l a) (fun a ha k _ => by simp [Nat.ne_of_lt ha]) (fun a ha j _ => by simp [Nat.ne_of_lt ha]) (fun a ha => by simp [Nat.ne_of_lt ha]) (fun k _ => by simp) (fun j _ => by simp) (by simp))
          have HKG := hide (show ∀ a, a < t + 1 → Rg p m ((fun a => if a = t then addm p x' (y - 1) x' else K a) a) ∧ Rg p n ((fun a => if a = t then addm p f' (y - 1) f' else F a) a) from fun a ha => by
            by_cases e : a = t
            · subst e; simp only [if_pos]; exact ⟨Rg.addm HP.out _ _ _, Rg.addm HP.out _ _ _⟩
            · simp only [if_neg e]; exact HKR.out a (by omega))
          have HBB := hide (show Below w.heap.size w (w8.setCell ⟨w.heap.size + 1 + 1, 0, none⟩ (.slice (some ⟨g', 0, none⟩) (t + 1) c')) from ((HB.out.trans (HB6.out.mono hz0)).trans hb8).setCell (p := ⟨w.heap.size + 1 + 1, 0, none⟩) (show w.heap.size ≤ w.heap.size + 1 + 1 by omega) _)
          clear hm8 hbl8 hb8 hg8 bk8 k1 k2
          go_roundw
          case rel => exact ⟨i + 1, t + 1, _, _, _, g', c', _, by omega, by go_num, by omega, HKP.out, HKG.out, HKH.out, HBB.out, by simp [World.setCell]; omega⟩
          case measure => simp [intOf]; omega
    · obtain rfl : i = n := by omega
      have hge : ¬ (i : Int) < (i : Int) := by omega
      obtain ⟨b1, o1, rfl, hb1, hc1⟩ := HG.out (by omega)
      have HCL := hide (fun (W : World) (hW : Below wo.heap.size wo W) => slClone_any (some ⟨b1, o1, none⟩) m d g W (by omega) (fun _ => ⟨b1, o1, rfl, by have := hW.size; omega, fun k hk => (hW.cell (p := ⟨b1, o1 + k, none⟩) (by show b1 < _; omega)).trans ((HB.out.cell (p := ⟨b1, o1 + k, none⟩) hb1).trans (hc1 k hk))⟩))
      clear hc1
      go_wp2_with fail
      go_cut [15] (fun v wx => ∃ bb bx cx bf, v = .pointer (some ⟨bb, 0, none⟩) ∧ NewX wo wx bb bx cx bf m i g (fun _ => 0))
      case first =>
        go_region_with (first | (go_at_call 92; refine (HCL.out _ (by first | exact Below.refl _ _ | go_grown | exact Below.drew (by go_grown))).mono ?_; rintro e wq ⟨A3, c3, rfl, hr3, hb3⟩; obtain ⟨bx, rfl, hbx1, hbx2⟩ := hr3.some_ (by omega); obtain ⟨hcq, hfq⟩ := bcell hb3; have hz3 := hb3.size; (try simp only [World.size_alloc, World.size_drew] at hz3 hbx1); have hz4 : wo.heap.size < wq.heap.size := (by omega)))
        all_goals go_wp2_with fail
        all_goals go_meet
        · exact ⟨_, _, _, _, rfl, newx_cma hr3 (up hb3 (Below.refl wo.heap.size wo).drew (Nat.le_refl _)) (by omega)⟩
        · exact ⟨_, _, _, _, rfl, newx_cam hr3 (up hb3 (Below.refl wo.heap.size wo).drew (Nat.le_refl _)) (by omega)⟩
        · exact ⟨_, _, _, _, rfl, newx_mca (hr3.mono (by simp)) (up hb3 ((Below.refl wo.heap.size wo).drew.alloc (Nat.le_refl _) _) (by simp)) ((Row.zeros (w := wo.drew) (base := wo.heap.size) i (Nat.le_refl _) (by omega)).keep hb3) (by omega)⟩
        · refine ⟨_, _, _, _, rfl, newx_ac (b := wo.heap.size + 1) (hr3.mono (by simp; omega)) (up hb3 (((Below.refl wo.heap.size wo).drew.alloc (Nat.le_refl _) _).alloc (by simp) _) (by simp; omega)) ?_ ?_ (by omega) (by omega)⟩
          · refine (hb3.block _ (by simp)).trans ?_
            exact Blk.newAt (by simp) _ _
          · have := ((Row.zeros (w := wo.drew) (base := wo.heap.size) i (Nat.le_refl _) (by omega)).alloc (.cells #[.slice none 0 0, .slice none 0 0] 99)).keep hb3
            exact this
        · refine ⟨_, _, _, _, rfl, newx_acm (b := wo.heap.size) (hr3.mono (by simp)) (up hb3 ((Below.refl wo.heap.size wo).drew.alloc (Nat.le_refl _) _) (by simp)) ?_ (by omega) (Nat.le_refl _) (by omega)⟩
          refine (hb3.block _ (by simp)).trans ?_
          exact Blk.newAt (by simp) _ _
        · refine ⟨_, _, _, _, rfl, newx_ac (b := wo.heap.size) (hr3.mono (by simp; omega)) (up hb3 (((Below.refl wo.heap.size wo).drew.alloc (Nat.le_refl _) _).alloc (by simp) _) (by simp; omega)) ?_ ?_ (Nat.le_refl _) (by omega)⟩
          · refine (hb3.block _ (by simp; omega)).trans ?_
            exact Blk.alloc (Blk.newAt (by simp) _ _) _
          · have := (Row.zeros (w := wo.drew.alloc (.cells #[.slice none 0 0, .slice none 0 0] 99)) (base := wo.heap.size) i (by simp) (by omega)).keep hb3
            simpa using this
      case rest =>
        obtain ⟨bb, bx, cx, bf, rfl, hnx⟩ := hcut
        obtain ⟨w1, rfl⟩ : ∃ x, x = wc := ⟨_, rfl⟩
        clear HCL
        have hne := hnx.ne
        have hb2 := hnx.below
        have x1 := hnx.box.at_ (i := 0) rfl
        have x2 := hnx.box.at_ (i := 1) rfl
        have hnl := hnx.lo
        have hbl1 := hnx.box.lt
        have hx0 := hnx.x.bl
        have hf0 := hnx.f.bl
        have HX1 := hide x1
        have HX2 := hide x2
        have HLS := hide (less_any p HP.out hn hm (by omega) HK.out HKR.out (P := fun j => ¬ Spn p m R j (R j)) (fun j _ h => h.2) g (fun _ => 0) Ls.start_goal (fun k hk => HGR.out k hk) (fun j _ => by dsimp only; omega) wo.heap.size (w.heap.size + 1 + 1) w.heap.size bx cx bf i w1 (HH.out.ks.keep hb2) hnx.x hnx.f hne.1)
        have HB2 := hide hb2
        clear hb2 hnx
        go_wp2_with fail
        refine (HLS.out).mono ?_
        rintro e w3 ⟨rfl, x', f', hls, ⟨hxr, hfr⟩, hx3, hf3, ho3⟩
        clear x1 x2
        have x1 := (ho3.cell 0 hbl1 hne.2.1 hne.2.2).trans HX1.out
        have x2 := (ho3.cell 1 hbl1 hne.2.1 hne.2.2).trans HX2.out
        have hzw1 := HB2.out.size
        have HB3 := hide (show Below wo.heap.size wo w3 from HB2.out.trans (ho3.below hx0.1 hf0.1 hzw1))
        have hz3 := ho3.size
        have HF3 := hide hf3
        have HLX := hide hls
        have HXR := hide hxr
        have HFR := hide hfr
        have hx3l := hx3.bl
        have hf3l := hf3.bl
        have HLE := hide (lead_any (some ⟨bx, 0, none⟩) m cx x' w3 (by omega) (fun _ => ⟨bx, 0, rfl, hx3l.2, fun k hk => by rw [Nat.zero_add]; exact hx3.cells k hk⟩))
        have X2 := hide x2
        clear x2 hls hxr hfr hx3 hf3 ho3 HLS HX1 HX2 HB2
        go_wp2_with fail
        refine (HLE.out).mono ?_
        rintro e _ ⟨rfl, rfl⟩
        clear x1
        rcases ldF_cases x' m with h0 | ⟨q, hq, hxq, hlo⟩
        · rw [ldF_none h0]
          have HGD := hide (HK.out.good HP.out HLX.out h0)
          have bpB := HH.out.bp_.below HB3.out HH.out.bp_.lt
          have hbp := bpB.at_ (i := 0) rfl
          have HBP := hide hbp
          clear h0 bpB hbp
          have hneg : ¬ (0 : Int) ≤ -1 := by omega
          generalize (-1 : Int) = neg at hneg ⊢
          have x2 := X2.out
          go_wp2_with fail
          clear x2
          go_loopw [90] (fun v wr => ∃ k : Nat, k ≤ i ∧ v = .int .i64 k ∧ Row wr wo.heap.size (some ⟨bf, 0, none⟩) i i (listOf i (fun j => if j < k then (-f' j) % p else f' j)) ∧ (wr.cell? ⟨bb, 1, none⟩ = some (.slice (some ⟨bf, 0, none⟩) i i) ∧ wr.cell? ⟨w.heap.size, 0, none⟩ = some (.int .i64 p)) ∧ Below wo.heap.size wo wr) (fun v _ => i - (intOf v).toNat)
          case atStart => exact ⟨0, by omega, rfl, by simpa using HF3.out, ⟨X2.out, HBP.out⟩, HB3.out⟩
          case round =>
            obtain ⟨k, hk, rfl, hrow, ⟨x2, hbp⟩, hb5⟩ := hrel
            by_cases hki : k < i
            · have hkI : (k : Int) < (i : Int) := by omega
              have hkI0 : (0 : Int) ≤ (k : Int) := by omega
              obtain ⟨bf', ef, p1, p2, q3, q4, q5⟩ := hrow.at_ (i := k) hki
              obtain rfl : bf = bf' := by simpa using ef
              rw [listOf_getD _ hki, if_neg (by omega)] at q3
              have hfb := HFR.out k hki
              have hST := q5 ((-f' k) % p)
              rw [listOf_set] at hST
              have HST := hide (show Row (wr.setCell ⟨bf, k, none⟩ (.int .i64 ((-f' k) % p))) wo.heap.size (some ⟨bf, 0, none⟩) i i (listOf i (fun j => if j < k + 1 then (-f' j) % p else f' j)) from by
                rw [listOf_congr (g := fun i_1 => if i_1 = k then (-f' k) % p else if i_1 < k then (-f' i_1) % p else f' i_1) (fun j _ => by
                  by_cases e : j = k
                  · subst e; simp
                  · by_cases h1 : j < k
                    · rw [if_pos (by omega), if_neg e, if_pos h1]
                    · rw [if_neg (by omega), if_neg e, if_neg h1])]
                exact hST)
              have HRS := hide (fun (W : World) => (show Calls Try.prog 54 #[.int .i64 p, .int .i64 (IntKind.i64.wrap (-f' k))] W fun e w' => e = .returned (.int .i64 ((-f' k) % p)) ∧ W = w' from by
                rw [show IntKind.i64.wrap (-f' k) = -f' k from IntWalk.i64_in _ (by omega)]
                exact rest_any p (-f' k) W (by omega) (by omega)))
              have HB5 := hide hb5
              have n1 : bf ≠ bb := fun e => hne.2.2 e.symm
              have n2 : bf ≠ w.heap.size := by omega
              have o2 := (World.cell?_setCell_other wr ⟨bf, k, none⟩ ⟨bb, 1, none⟩ (.int .i64 ((-f' k) % p)) (fun h => n1 (by injection h))).trans x2
              have o3 := (World.cell?_setCell_other wr ⟨bf, k, none⟩ ⟨w.heap.size, 0, none⟩ (.int .i64 ((-f' k) % p)) (fun h => n2 (by injection h))).trans hbp
              clear q5 ef hST hrow hb5
              generalize hff : (-f' k) % p = r at *
              generalize f' k = y at *
              have HFF := hide hff
              clear hff
              go_wp2_with fail
              go_region_held3 (fun w' => w'.cell? ⟨bb, 1, none⟩ = some (.slice (some ⟨bf, 0, none⟩) i i) ∧ w'.cell? ⟨w.heap.size, 0, none⟩ = some (.int .i64 p)) (first | exact ⟨x2, hbp⟩ | exact ⟨o2, o3⟩) (first | (go_at_call 54; with_reducible refine (HRS.out _).mono ?_; rintro e _ ⟨rfl, rfl⟩))
              go_wp2_with fail
              go_roundw
              case rel => first | exact ⟨k + 1, by omega, by go_num, HST.out.drew, ⟨o2, o3⟩, Below.drew (HB5.out.setCell (p := ⟨bf, k, none⟩) p1 _)⟩ | ((repeat apply Exists.intro); exact ⟨⟨k + 1, by omega, by go_num, HST.out.drew, ⟨o2, o3⟩, Below.drew (HB5.out.setCell (p := ⟨bf, k, none⟩) p1 _)⟩, rfl⟩)
              case measure => simp [intOf]; omega
            · obtain rfl : k = i := by omega
              have HFI := hide (show Row wr wo.heap.size (some ⟨bf, 0, none⟩) k k (listOf k (fun j => (-f' j) % p)) from by
                rw [listOf_congr (g := fun j => if j < k then (-f' j) % p else f' j) (fun j hj => by rw [if_pos hj])]; exact hrow)
              have HB5 := hide (show Below w.heap.size w wr from HB.out.trans (hb5.mono hz0))
              clear hrow hb5
              go_wp2_with fail
              go_ret2
              exact ⟨HB5.out, .inl ⟨_, _, _, HGD.out, rfl, HFI.out.mono hz0⟩⟩
        · rw [ldF_some hq hxq hlo]
          have HNO := hide (fun f0 => HK.out.none_ (f' := f0) HLX.out HXR.out ⟨q, hq, hxq⟩)
          have HBF := hide (HB.out.trans (HB3.out.mono hz0))
          clear hxq hlo
          go_wp2_with fail
          go_ret2
          exact ⟨HBF.out, .inr ⟨HNO.out, rfl⟩⟩
end Go.Proofs.Ytcalfblghblhcaa
