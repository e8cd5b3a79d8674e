/-
  DoesKnow, the program's. Conditions: the scheme can be read.
-/
import Derived.Test.YthafmoofemfdmaaGroupI
namespace Go.Proofs.Ythafmoofemfdmaa
open Go.RowKit

theorem knowsI_any (p : Int) (A O : Option Addr) (n c m e s : Nat) (M : Nat → Nat → Int) (f : Nat → Int) (w : World) (hs : SchV p n m M f) (h32 : s < 32) (h : Mat w w.heap.size A n (fun _ => m) M) (h2 : Ints w w.heap.size O n f) :
    Calls Try.prog 83 #[.agg #[.int .i64 p, .slice A n c, .slice O n e], .int .i64 p, .int .i64 s] w fun e w' => e = .returned (.bool (knB p n m M f s)) ∧ Below w.heap.size w w' := by
  have HF := hide (fun (W : World) (hb : Below w.heap.size w W) => factorsI_any p A O n c m e s M f W hs h32 (h.keep hb hb.size) (h2.keep hb hb.size))
  clear h h2 hs
  go_enter Try.func83, Try.ntmps83
  go_wp2_with fail
  refine (HF.out _ (below_box _)).mono ?_
  rintro x w1 ⟨A1, N1, c1, rfl, hb1, _⟩
  have HB := hide (box_plain hb1).1
  clear hb1
  go_wp2_with fail
  go_ret
  exact ⟨rfl, HB.out⟩

end Go.Proofs.Ythafmoofemfdmaa
