/-
  Small lemmas on worlds and numbers that all walks of this seat use. No conditions: nothing is claimed of the program here.
-/
import Derived.WalkKit
import Derived.Handy
namespace Go.Proofs.Ytcalfblghblhcaa
open Go.RowKit

theorem hide {p : Prop} (h : p) : Hid p := h

/-- the rest of the cells is as it was -/
theorem bcell {W w1 : World} (hb : Below W.heap.size W w1) : (∀ b o, b < W.heap.size → w1.cell? ⟨b, o, none⟩ = W.cell? ⟨b, o, none⟩) ∧ (∀ b o, b < W.heap.size → w1.frozen? ⟨b, o, none⟩ = W.frozen? ⟨b, o, none⟩) :=
  ⟨fun b o h => hb.cell (p := ⟨b, o, none⟩) h, fun b o h => hb.frozen (p := ⟨b, o, none⟩) h⟩

theorem up {B : Nat} {w W w1 : World} (hb : Below W.heap.size W w1) (h : Below B w W) (hB : B ≤ W.heap.size) : Below B w w1 := h.trans (hb.mono hB)

theorem ret_int {k : IntKind} {a b : Int} (h : a = b) : Ending.returned (.int k a) = .returned (.int k b) := by rw [h]
theorem ret_bool {a b : Bool} (h : a = b) : Ending.returned (.bool a) = .returned (.bool b) := by rw [h]

theorem calls_bool {P : Program} {f : FuncId} {args : Array Value} {w : World} {a b : Bool} {Q : World → Prop} (hv : a = b)
    (h : Calls P f args w fun e w' => e = .returned (.bool a) ∧ Q w') : Calls P f args w fun e w' => e = .returned (.bool b) ∧ Q w' := by subst hv; exact h
theorem calls_int {P : Program} {f : FuncId} {args : Array Value} {w : World} {a b : Int} {Q : World → Prop} (hv : a = b)
    (h : Calls P f args w fun e w' => e = .returned (.int .i64 a) ∧ Q w') : Calls P f args w fun e w' => e = .returned (.int .i64 b) ∧ Q w' := by subst hv; exact h
theorem calls_val {P : Program} {f : FuncId} {args : Array Value} {w : World} {a b : Value} {Q : World → Prop} (hv : a = b)
    (h : Calls P f args w fun e w' => e = .returned a ∧ Q w') : Calls P f args w fun e w' => e = .returned b ∧ Q w' := by subst hv; exact h

/-- a number lies between two others -/
def inR (n lo hi : Int) : Bool := decide (lo ≤ n) && decide (n ≤ hi)
theorem inR_true {n lo hi : Int} : inR n lo hi = true ↔ lo ≤ n ∧ n ≤ hi := by simp [inR]
theorem inR_false {n lo hi : Int} : inR n lo hi = false ↔ ¬ (lo ≤ n ∧ n ≤ hi) := by
  rw [← inR_true]; simp
theorem inR_mk {n lo hi : Int} (h1 : lo ≤ n) (h2 : n ≤ hi) : inR n lo hi = true := inR_true.2 ⟨h1, h2⟩

end Go.Proofs.Ytcalfblghblhcaa
