/-
  DoesKnow, the program's. Conditions: the scheme can be read.
-/
import Derived.Test.YtcalfblghblhcaaGroupI
namespace Go.Proofs.Ytcalfblghblhcaa
open Go.RowKit

theorem groupOk_any (s : Int) (w : World) : Calls Try.prog 61 #[.int .i64 s] w fun e w' => e = .returned (.bool (inR s 0 31)) ∧ w = w' := by
  go_enter Try.func61, Try.ntmps61
  go_wp2_with (first | (go_at_call 79; refine (within_any _ _ _ _).mono ?_; rintro e w' ⟨rfl, rfl⟩))
  go_ret
  exact ⟨rfl, rfl⟩
theorem knowsI_any (p : Int) (A O : Option Addr) (n c m e s : Nat) (M : Nat → Nat → Int) (f : Nat → Int) (w : World) (hs : SchV p n m M f) (h32 : s < 32) (h : Mat w w.heap.size A n (fun _ => m) M) (h2 : Ints w w.heap.size O n f) :
    Calls Try.prog 62 #[.agg #[.int .i64 p, .slice A n c, .slice O n e], .int .i64 p, .int .i64 s] w fun e w' => e = .returned (.bool (knB p n m M f s)) ∧ Below w.heap.size w w' := by
  have HF := hide (fun (W : World) (hb : Below w.heap.size w W) => factorsI_any p A O n c m e s M f W hs h32 (h.keep hb hb.size) (h2.keep hb hb.size))
  clear h h2 hs
  go_enter Try.func62, Try.ntmps62
  go_wp2_with fail
  refine (HF.out _ (below_box _)).mono ?_
  rintro x w1 ⟨A1, N1, c1, rfl, hb1, _⟩
  have HB := hide (box_plain hb1).1
  clear hb1
  go_wp2_with fail
  go_ret
  exact ⟨rfl, HB.out⟩

set_option maxHeartbeats 1000000 in
theorem DoesKnowI_any (p : Int) (A : Option Addr) (n c : Nat) (L : Nat → Nat) (M : Nat → Nat → Int) (O : Option Addr) (m e : Nat) (f : Nat → Int) (s : Int) (w : World) (hn : n ≤ 1048576) (hL : ∀ i, i < n → L i ≤ 1048576) (hm : m ≤ 1048576) (h : Mat w w.heap.size A n L M) (h2 : Ints w w.heap.size O m f) :
    Calls Try.prog 22 #[.agg #[.int .i64 p, .slice A n c, .slice O m e], .int .i64 s] w fun e w' => e = .returned (.bool (dkV p n L M m f s)) ∧ Below w.heap.size w w' := by
  have HV := hide (fun (W : World) (hb : Below w.heap.size w W) => knownI_any p A O n c m e L M f W (by omega) (fun i hi => Nat.le_trans (hL i hi) (by omega)) (by omega) (h.keep hb hb.size) (h2.keep hb hb.size))
  cases hv : vSch p n L M m f
  · refine calls_bool (a := false) (by simp [dkV, hv]) ?_
    rw [hv] at HV
    clear hL h h2 hv
    go_enter Try.func22, Try.ntmps22
    go_wp2_with fail
    refine (HV.out _ (below_box _)).mono ?_
    rintro x w1 ⟨rfl, hb1⟩
    have HB := hide (box_plain hb1).1
    clear hb1
    go_wp2_with fail
    go_ret
    exact ⟨rfl, HB.out⟩
  obtain ⟨hsc, rfl, hle⟩ := vSch_sch hv
  have HIN := hide (fun (W : World) => groupOk_any s W)
  cases hi : inR s 0 31
  · refine calls_bool (a := false) (by simp [dkV, hi]) ?_
    rw [hv] at HV
    rw [hi] at HIN
    clear hL h h2 hv hi hsc hle
    go_enter Try.func22, Try.ntmps22
    go_wp2_with fail
    refine (HV.out _ (below_box _)).mono ?_
    rintro x w1 ⟨rfl, hb1⟩
    have HB := hide (box_plain hb1).1
    clear hb1
    go_wp2_with fail
    refine (HIN.out _).mono ?_
    rintro x _ ⟨rfl, rfl⟩
    go_wp2_with fail
    go_ret
    exact ⟨rfl, HB.out⟩
  have hir := inR_true.1 hi
  obtain ⟨t, rfl⟩ := Int.eq_ofNat_of_zero_le hir.1
  have hm2 := h.const hle
  have HKN := hide (fun (W : World) (hb : Below w.heap.size w W) => knowsI_any p A O m c (L 0) e t M f W hsc (by omega) (hm2.keep hb hb.size) (h2.keep hb hb.size))
  refine calls_bool (a := knB p m (L 0) M f t) (by simp [dkV, hv, hi]) ?_
  rw [hv] at HV
  rw [hi] at HIN
  clear hL h h2 hv hi hsc hle hm2
  go_enter Try.func22, Try.ntmps22
  go_wp2_with fail
  refine (HV.out _ (below_box _)).mono ?_
  rintro x w1 ⟨rfl, hb1⟩
  obtain ⟨hbw, hbox⟩ := box_plain hb1
  have x0 := hbox.at_ (i := 0) rfl
  have x1 := hbox.at_ (i := 1) rfl
  have x2 := hbox.at_ (i := 2) rfl
  have HB := hide hbw
  have hbl := hbox.lt
  clear hb1 hbw hbox
  go_wp2_with fail
  refine (HIN.out _).mono ?_
  rintro x _ ⟨rfl, rfl⟩
  go_wp2_with fail
  refine (HKN.out _ HB.out).mono ?_
  rintro x w2 ⟨rfl, hb2⟩
  have HF := hide (up hb2 HB.out HB.out.size)
  clear hb2
  go_wp2_with fail
  go_ret
  exact ⟨rfl, HF.out⟩
end Go.Proofs.Ytcalfblghblhcaa
