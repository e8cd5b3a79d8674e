/-
  The program's size (math/bits.OnesCount64), for numbers below 256. Conditions: the number is below 256.
-/
import Derived.Test.YthafmoofemfdmaaWeight
namespace Go.Proofs.Ythafmoofemfdmaa
open Go.RowKit

def oc1 (s : Int) : Int := IntKind.u64.wrap (bits BinOp.and IntKind.u64 (s / 2) 6148914691236517205 + bits BinOp.and IntKind.u64 s 6148914691236517205)
def oc2 (x : Int) : Int := IntKind.u64.wrap (bits BinOp.and IntKind.u64 (x / 4) 3689348814741910323 + bits BinOp.and IntKind.u64 x 3689348814741910323)
def oc3 (x : Int) : Int := bits BinOp.and IntKind.u64 (IntKind.u64.wrap (x / 16 + x)) 1085102592571150095
def oc4 (k : Int) (x : Int) : Int := IntKind.u64.wrap (x + x / k)
def oc5 (x : Int) : Int := bits BinOp.and IntKind.i64 (wrap64 x) 127
theorem oc_all : ∀ s, s < 256 → oc5 (oc4 4294967296 (oc4 65536 (oc4 256 (oc3 (oc2 (oc1 (s : Nat))))))) = (wt s : Nat) := by decide +kernel

theorem ones_any (s : Nat) (w : World) (hs : s < 256) :
    Calls Try.prog 110 #[.int .u64 s] w fun e w' => e = .returned (.int .i64 (wt s)) ∧ w = w' := by
  rw [← oc_all s hs]
  have HS := hide hs
  clear hs
  have HO := hide (show oc1 s = IntKind.u64.wrap (bits BinOp.and IntKind.u64 ((s : Int) / 2) 6148914691236517205 + bits BinOp.and IntKind.u64 (s : Int) 6148914691236517205) from rfl)
  go_enter Try.func110, Try.ntmps110
  go_wp2_with fail
  go_ret
  refine ⟨ret_int ?_, rfl⟩
  simp only [oc5, oc4, oc3, oc2, oc1]

theorem ones2_any (s : Nat) (w : World) (hs : s < 256) :
    Calls Try.prog 104 #[.int .u64 s] w fun e w' => e = .returned (.int .i64 (wt s)) ∧ w = w' := by
  have HW := hide (ones_any s w hs)
  go_enter Try.func104, Try.ntmps104
  go_wp2_with fail
  refine (HW.out).mono ?_
  rintro e _ ⟨rfl, rfl⟩
  go_wp2_with fail
  go_ret
  exact ⟨rfl, rfl⟩

theorem size_any (s : Nat) (w : World) (hs : s < 256) :
    Calls Try.prog 95 #[.int .i64 s] w fun e w' => e = .returned (.int .i64 (wt s)) ∧ w = w' := by
  have HW := hide (ones2_any s w hs)
  go_enter Try.func95, Try.ntmps95
  go_wp2_with fail
  refine (HW.out).mono ?_
  rintro e _ ⟨rfl, rfl⟩
  go_wp2_with fail
  go_ret
  exact ⟨rfl, rfl⟩
end Go.Proofs.Ythafmoofemfdmaa
