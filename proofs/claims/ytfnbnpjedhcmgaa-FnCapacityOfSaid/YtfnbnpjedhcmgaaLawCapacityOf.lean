/-
  FnCapacityOf returns true for every code. Conditions: none.
-/
import Derived.Test.YtfnbnpjedhcmgaaStoreDraw2
import Derived.Test.YtfnbnpjedhcmgaaStore3
namespace Go.Proofs.Ytfnbnpjedhcmgaa
open Go.ChangeShapes Go.WideShapes Go.ChangeAt Go.RowKit
theorem laidOut : laidOutB Try.prog = true := by kernel_rfl

theorem capN_le_mul (ak k s : Int) : ∀ n : Nat, capN ak k s n ≤ n * k
  | 0 => by simp [capN]
  | n + 1 => by
    have := capN_le_mul ak k s n
    simp only [capN, Int.natCast_add, Int.add_mul]
    split <;> omega
theorem capN_mono (ak k s : Int) (hs : 0 ≤ s) : ∀ n : Nat, capN ak k s n ≤ capN (ak + 1) k s n
  | 0 => by simp [capN]
  | n + 1 => by
    have h := capN_mono ak k s hs n
    have h2 : s * (ak + 1 - n) = s * (ak - n) + s := by rw [show ak + 1 - (n : Int) = (ak - n) + 1 by omega, Int.mul_add, Int.mul_one]
    simp only [capN, h2]
    split <;> split <;> omega
theorem capN_nonneg {nd ne ak k s : Int} (hv : vSt nd ne ak k s = true) : 0 ≤ capN ak k s ne.toNat ∧ capN ak k s ne.toNat ≤ 120 := by
  obtain ⟨b1, b2, b3, b4, b5, b6, b7, b8, b9, b10⟩ := vSt_bd hv
  have := capN_ok (ak := ak) (s := s) (k := k) ⟨by omega, by omega⟩ ⟨b9, b10⟩ ⟨b7, b8⟩ ne.toNat (by omega)
  omega

theorem fnCapacityOf_walk (a : Option Addr) (len cap : Nat) (zs : List Int) (w : World) (h : IsRow .u8 w a len cap zs) :
    Calls Try.prog 11 #[.slice a len cap] w fun e w' => e = .returned (.bool true) ∧ Below w.heap.size w w' := by
  have hlen : len ≤ 9223372036854775807 := by obtain ⟨h1, h2, _⟩ := bytes_in h; unfold maxLen at h2; omega
  have Hh := hide h
  clear h
  by_cases hl : 1048576 < len
  · go_enter Try.func11, Try.ntmps11
    go_wp2_with fail
    go_ret
    exact ⟨rfl, by go_grown⟩
  go_enter Try.func11, Try.ntmps11
  go_wp2_with fail
  refine (DrawCapacityOf_any a len cap zs w _ Hh.out (by go_grown)).mono ?_
  rintro e w1 ⟨nd, ne, ak, k, s, rfl, hb1⟩
  go_wp2_with fail
  refine (CapacityOfI_any _ _ _ _ _ _).mono ?_
  rintro e w2 ⟨rfl, hb2⟩
  obtain ⟨hc2, hf2⟩ := bcell hb2
  have hz2 : w1.heap.size < w2.heap.size := by have := hb2.size; simp at this; omega
  have hB2 : Below w.heap.size w w2 := up hb2 (hb1.alloc hb1.size _) (by have := hb1.size; simp; omega)
  go_wp2_with fail
  refine (CapacityOfS_any _ _ _ _ _ _).mono ?_
  rintro e w3 ⟨rfl, hb3⟩
  obtain ⟨hc3, hf3⟩ := bcell hb3
  have hz3 : w1.heap.size < w3.heap.size := by have := hb3.size; omega
  have hB3 : Below w.heap.size w w3 := up hb3 hB2 hB2.size
  cases hv : vSt nd ne ak k s
  · have e1 : capOf nd ne ak k s = -1 := by simp [capOf, hv]
    rw [e1]
    go_wp2_with fail
    refine (CapacityOfS_any _ _ _ _ _ _).mono ?_
    rintro e w4 ⟨rfl, hb4⟩
    rw [e1]
    go_wp2_with fail
    go_ret
    exact ⟨rfl, up hb4 hB3 hB3.size⟩
  · obtain ⟨b1, b2, b3, b4, b5, b6, b7, b8, b9, b10⟩ := vSt_bd hv
    obtain ⟨q1, q2⟩ := capN_nonneg hv
    have q3 : capN ak k s ne.toNat ≤ ne * k := by have := capN_le_mul ak k s ne.toNat; rwa [show ((ne.toNat : Nat) : Int) = ne by omega] at this
    have q4 := capN_mono ak k s b9 ne.toNat
    have q5 : 0 ≤ ne * k := Int.mul_nonneg (by omega) b7
    have q6 : ne * k ≤ 100 := by have := Int.mul_le_mul (show ne ≤ 5 by omega) b8 b7 (by omega); omega
    have e1 : capOf nd ne ak k s = capN ak k s ne.toNat := by simp [capOf, hv]
    rw [e1]
    by_cases hn : ak + 1 = nd
    · generalize capN ak k s ne.toNat = C at *
      have hn' : (ak + 1 == nd) = true := by simp [hn]
      clear hn q4 hv e1
      go_wp2_with fail
      go_ret
      exact ⟨rfl, hB3.setCell hb1.size _⟩
    · have hn' : (ak + 1 == nd) = false := by simp [hn]
      have hv2 : vSt nd ne (ak + 1) k s = true := by
        simp only [vSt, Bool.and_eq_true, inR_true]
        omega
      have e2 : capOf nd ne (ak + 1) k s = capN (ak + 1) k s ne.toNat := by simp [capOf, hv2]
      have E2 := hide e2
      clear hn e2 hv2 hv e1
      generalize capN ak k s ne.toNat = C at *
      go_wp2_with fail
      refine (CapacityOfI_any _ _ _ _ _ _).mono ?_
      rintro e w4 ⟨rfl, hb4⟩
      rw [E2.out]
      go_wp2_with fail
      go_ret
      exact ⟨ret_bool (by simp), up hb4 (hB3.setCell hb1.size _) (by simpa [World.setCell] using hB3.size)⟩

set_option maxRecDepth 100000 in
theorem fnCapacityOf_lifted (os : Os) (started : os.Started) (H : Type) (enc : TypeId × Value → H) :
    ReturnsInHanded {} Try.checked os 11 .any (Rows.fnCapacityOfSpec.pre6 enc Try.prog Try.f11 Rows.fnCapacityOfRow.domain false) (Rows.fnCapacityOfSpec.post enc Try.prog Try.f11 false true false false) := by
  refine returnsInHanded_of_change (C := Try.checked) (by kernel_rfl : ownKnob Try.prog.godebug = none) started (by kernel_rfl) Try.func11
    (ChangeSpec.witness6 (enc := enc) (C := Try.checked) false ⟨#[], #[.slice none 0 0], []⟩ 8 (by kernel_rfl) (by kernel_rfl) (by kernel_rfl) (by kernel_rfl)) ?_
  intro W base args ds gs before hval0 hW hcnd _
  have hval : ∀ (j : Nat) t v, Try.f11.params[j]? = some t → args[j]? = some v → Value.okWide Try.prog W .any base t v := hval0
  have hW' := hW
  obtain ⟨p, q, hA0, hV, rfl, hfz, hnd⟩ := hW
  have hA : DataW.TrodAll enc Try.prog W 0 (fun _ => true) true Try.f11.params.toList args.toList ds p := hA0
  rw [Try.params11] at hA hval
  obtain ⟨v0, vs0, d0, ds0, p0, q0, hargs, rfl, rfl, h0, r0⟩ := trodAll_cons hA
  obtain ⟨rfl, rfl, rfl⟩ := trodAll_nil r0
  obtain rfl : args = #[v0] := by cases args; simp_all
  obtain ⟨rfl, rfl⟩ := trodVars_none hV
  have k0 := h0
  have lt0 : ∀ x ∈ p0, x.block < W.heap.size := by obtain ⟨m, hm⟩ := k0; exact DataW.trod_lt m _ _ _ hm
  obtain ⟨a0, len0, cap0, rfl⟩ := okWide_slice Try.underlying33 (hval 0 33 v0 rfl rfl)
  obtain ⟨z0, w0⟩ : ∃ zs, IsRow .u8 W a0 len0 cap0 zs := isRow_of Try.underlying33 Try.underlying5 (by kernel_rfl) h0 lt0
  clear hA0 hval0
  refine (fnCapacityOf_walk a0 len0 cap0 z0 W w0).mono fun e W' ⟨he, bel⟩ => ?_
  subst he
  exact ⟨_, rfl, _, _, _, [], _, [], hW', trodAll_mk1 (shut_bool Try.underlying4 _), (trodAll_cons_mk (Below.trod laidOut (by kernel_rfl) (of_decide_eq_true (by kernel_rfl)) k0 bel lt0) trodAll_mk0), rfl, bel.frame _, fun h => by cases h⟩

theorem fnCapacityOf_over : Rows.fnCapacityOfRow.holds Try.pinned (OpenSpec.ofChange Rows.fnCapacityOfSpec) :=
  OpenClaim.holds_of_wide 11 Try.f11 rfl rfl rfl rfl rfl rfl rfl ⟨rfl, rfl, rfl, rfl, rfl⟩ rfl rfl rfl rfl rfl (by kernel_rfl) Try.func11 (by kernel_rfl)
    (of_decide_eq_true (by kernel_rfl)) (by unfold Func.isWrapper; first | (rw [if_pos (by decide +kernel)]; kernel_rfl) | (rw [if_neg (by decide +kernel)]; exact ⟨rfl, rfl⟩))
    (fun os started H enc _ => fnCapacityOf_lifted os started H enc)

theorem fnCapacityOf_holds : Rows.FnCapacityOfSaid := fnCapacityOf_over
#print axioms fnCapacityOf_holds
end Go.Proofs.Ytfnbnpjedhcmgaa
