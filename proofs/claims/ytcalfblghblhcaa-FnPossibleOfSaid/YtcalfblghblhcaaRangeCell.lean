/-
  A range over a function whose iterator keeps its state in cells of its own and yields the same slice in each round: the law of the walk. Conditions: those that the law names. No conditions on the program.
-/
import Derived.Test.YtcalfblghblhcaaBase
import Derived.RangeFuncWrites
namespace Go.Proofs.Ytcalfblghblhcaa
open Go.RowKit

/-- whatever was there from block B on lies as it lay -/
def Abv (B : Nat) (W W' : World) : Prop := W.heap.size ≤ W'.heap.size ∧ ∀ k, B ≤ k → k < W.heap.size → W'.heap[k]? = W.heap[k]?
theorem Abv.refl (B : Nat) (W : World) : Abv B W W := ⟨Nat.le_refl _, fun _ _ _ => rfl⟩
theorem Abv.trans {B : Nat} {X Y Z : World} (h : Abv B X Y) (k : Abv B Y Z) : Abv B X Z := ⟨Nat.le_trans h.1 k.1, fun i hi hl => (k.2 i hi (Nat.lt_of_lt_of_le hl h.1)).trans (h.2 i hi hl)⟩
theorem Abv.mono {B B' : Nat} {X Y : World} (h : Abv B X Y) (hb : B ≤ B') : Abv B' X Y := ⟨h.1, fun i hi hl => h.2 i (Nat.le_trans hb hi) hl⟩
theorem abv_put {B l : Nat} {W : World} {o : Obj} (hl : l < B) : Abv B W (W.putObj l o) := ⟨by simp, fun k hk _ => World.putObj_heap_other (by omega)⟩
theorem below_put {B l : Nat} {W : World} {o : Obj} (hl : B ≤ l) : Below B W (W.putObj l o) := ⟨rfl, rfl, rfl, by simp, fun k hk => World.putObj_heap_other (by omega)⟩
/-- how a round's body is left: off its end -/
def cellPost (B : Nat) (I : World → Prop) (W : World) : Exit → Act → World → Prop
  | .normal, _, W' => Abv B W W' ∧ I W'
  | _, _, _ => False

variable {F : Fence} {n : Nat} {P : Program}
theorem wpIn_range_cell {g : Operand} {p0 : Tmp} {assign body : Code} {Q : Exit → Act → World → Prop} {a : Act} {w : World}
    (hro : F.round = none) (h1 : 1 ≤ n) {gf : Nat} {lb : Array Value} (hg : a.eval g = .func (.func gf) #[] lb) (hFg : F.fn gf) (eg : ∀ args w, (callFunc gf args).run P w = .ok (.enter gf args) w)
    (v : Value) (T : Nat) (R : Nat → Obj) (I : Nat → World → Prop)
    (hseq : ∀ (l : Nat) (J : Nat → World → Prop) (W : World), W.heap.size = w.heap.size + 2 → Below w.heap.size w W → (∀ t A, J t A → I t A) → (∀ t A B, J t A → Below (w.heap.size + 2) A B → J t B) →
      (∀ t W1, t < T → J t W1 → W1.heap[w.heap.size + 2]? = some (R t) → YieldAt F (n - 1 - 1) P l #[v] W1 fun e W' => e = .returned (.bool true) ∧ J (t + 1) W' ∧ Abv (w.heap.size + 2) W1 W') →
      J 0 W → CallsIn F (n - 1) P gf (#[.func (.yield l) #[] #[]] ++ lb) W fun e W' => (∃ u, e = .returned u) ∧ J T W')
    (hI : ∀ t A B, I t A → Below w.heap.size A B → I t B) (h0 : I 0 w) (a₁ : Act)
    (hassign : ∀ (l : Nat) (W : World) (K : Act → World → Prop), K a₁ W → assign.wpIn (F.inRound l) (n - 1 - 1) P (Exit.then K (fun _ _ _ => False)) { tmps := a.tmps.setIfInBounds p0 v, defers := [] } W)
    (hbody : ∀ (l t : Nat) (W : World), t < T → I t W → W.heap[w.heap.size + 2]? = some (R t) → body.wpIn (F.inRound l) (n - 1 - 1) P (cellPost w.heap.size (I (t + 1)) W) a₁ W)
    (hdone : ∀ W : World, I T W → W.heap[w.heap.size]? = some (.deferred (some [])) → Q .normal { a with defers := { target := .collected w.heap.size, args := #[] } :: a.defers } W) :
    (Code.rangeFunc g #[p0] assign body).wpIn F n P Q a w := by
  refine wpIn_rangeFunc fun fn hfn => ?_
  rw [hro]
  let rec0 : LoopState → Option Code → Loop := fun st pe => { state := st, pending := pe, fn, tmps := a.tmps, params := #[p0], assign, body, defers := w.heap.size }
  let W1 := (w.alloc (.deferred (some []))).alloc (.loop (rec0 .ready none))
  have hsz : W1.heap.size = w.heap.size + 2 := by simp [W1]
  have hb1 : Below w.heap.size w W1 := ((Below.refl _ w).alloc (Nat.le_refl _) _).alloc (by simp) _
  have hL1 : W1.heap[w.heap.size + 1]? = some (.loop (rec0 .ready none)) := by
    have := World.alloc_heap_new (w.alloc (.deferred (some []))) (.loop (rec0 .ready none)); rwa [World.size_alloc] at this
  have hK1 : W1.heap[w.heap.size]? = some (.deferred (some [])) := (Below.heap_alloc _ _ _ (by simp)).trans (World.alloc_heap_new w _)
  refine ⟨w.heap.size + 1, [{ target := .collected w.heap.size, args := #[] }], W1, { target := .fn (.func gf) lb, args := #[.func (.yield (w.heap.size + 1)) #[] #[]] }, W1, gf,
    #[.func (.yield (w.heap.size + 1)) #[] #[]] ++ lb, W1, run_enterLoop_outer _ _ _ _ _, ?_, ?_, ?_, fun _ => h1, ?_⟩
  · simp only [resolve, hg]
    simp [go_sem]
  · intro f' hf'; simp [Target.leads] at hf'; subst hf'; exact hFg
  · simp [invoke, go_sem, eg]
  refine (hseq (w.heap.size + 1) (fun t W => I t W ∧ W.heap[w.heap.size + 1]? = some (.loop (rec0 .ready none)) ∧ W.heap[w.heap.size]? = some (.deferred (some []))) W1 hsz hb1 (fun _ _ h => h.1) ?_ ?_ ⟨hI 0 _ _ h0 hb1, hL1, hK1⟩).mono ?_
  · rintro t A B ⟨i1, i2, i3⟩ hb
    exact ⟨hI t A B i1 (hb.mono (by omega)), (hb.block _ (by omega)).trans i2, (hb.block _ (by omega)).trans i3⟩
  · rintro t W ht ⟨i1, i2, i3⟩ hrow
    have hlt : w.heap.size + 1 < W.heap.size := (Array.getElem?_eq_some_iff.1 i2).1
    have hy : (Instr.yield (w.heap.size + 1) #[v]).run P W = .ok (.round (w.heap.size + 1) fn (a.tmps.setIfInBounds p0 v) assign body) W := by
      have h := run_yield (P := P) (args := #[v]) i2 rfl
      simpa [rec0] using h
    refine ⟨fn, a.tmps.setIfInBounds p0 v, assign, body, hy, roundIn_of_wpIn hfn ?_⟩
    refine hassign (w.heap.size + 1) W _ ?_
    refine ⟨_, run_beginRound i2 rfl, ?_⟩
    have j2 : (W.putObj (w.heap.size + 1) (.loop { rec0 .ready none with state := .busy })).heap[w.heap.size + 1]? = some (.loop { rec0 .ready none with state := .busy }) := World.putObj_heap_same hlt
    have j3 : (W.putObj (w.heap.size + 1) (.loop { rec0 .ready none with state := .busy })).heap[w.heap.size]? = some (.deferred (some [])) := (World.putObj_heap_other (by omega)).trans i3
    refine wpIn_mono (hbody _ t _ ht (hI t _ _ i1 (below_put (by omega))) ((World.putObj_heap_other (by omega)).trans hrow)) ?_
    intro e a3 W3 hp
    cases e with
    | normal =>
      obtain ⟨hab, hi3⟩ := hp
      have k2 := (hab.2 (w.heap.size + 1) (by omega) (by simpa using hlt)).trans j2
      have k3 := (hab.2 w.heap.size (Nat.le_refl _) (by simp; omega)).trans j3
      have hl3 : w.heap.size + 1 < W3.heap.size := (Array.getElem?_eq_some_iff.1 k2).1
      refine ⟨_, _, run_endRound none k2, rfl, ⟨hI _ _ _ hi3 (below_put (by omega)), World.putObj_heap_same hl3, (World.putObj_heap_other (by omega)).trans k3⟩, ?_⟩
      exact ((abv_put (by omega)).trans (hab.mono (by omega))).trans (abv_put (by omega))
    | ret => exact hp.elim
    | exit id => exact hp.elim
    | goto t => exact hp.elim
    | panic ch => exact hp.elim
    | outgrown => exact hp.elim
  · rintro e W2 ⟨⟨u, rfl⟩, i1, i2, i3⟩
    exact ⟨none, _, run_endLoop i2 (by simp [rec0]), hdone _ (hI _ _ _ i1 (below_put (by omega))) ((World.putObj_heap_other (by omega)).trans i3)⟩
end Go.Proofs.Ytcalfblghblhcaa
