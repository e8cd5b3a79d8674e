/-
  FnValidStore returns true for every code. Conditions: none.
-/
import Derived.Test.YtfnbnpjedhcmgaaStoreDraw2
import Derived.Test.YtfnbnpjedhcmgaaStore3
namespace Go.Proofs.Ytfnbnpjedhcmgaa
open Go.ChangeShapes Go.WideShapes Go.ChangeAt Go.RowKit
theorem laidOut : laidOutB Try.prog = true := by kernel_rfl

theorem fnValidStore_walk (a : Option Addr) (len cap : Nat) (zs : List Int) (w : World) (h : IsRow .u8 w a len cap zs) :
    Calls Try.prog 7 #[.slice a len cap] w fun e w' => e = .returned (.bool true) ∧ Below w.heap.size w w' := by
  have hlen : len ≤ 9223372036854775807 := by obtain ⟨h1, h2, _⟩ := bytes_in h; unfold maxLen at h2; omega
  have Hh := hide h
  clear h
  by_cases hl : 1048576 < len
  · go_enter Try.func7, Try.ntmps7
    go_wp2_with fail
    go_ret
    exact ⟨rfl, by go_grown⟩
  go_enter Try.func7, Try.ntmps7
  go_wp2_with fail
  refine (DrawValidStore_any a len cap zs w _ Hh.out (by go_grown)).mono ?_
  rintro e w1 ⟨nd, ne, ak, k, s, rfl, hb1⟩
  go_wp2_with fail
  refine (ValidStoreI_any _ _ _ _ _ _).mono ?_
  rintro e w2 ⟨rfl, hb2⟩
  obtain ⟨hc2, hf2⟩ := bcell hb2
  have hz2 : w1.heap.size < w2.heap.size := by have := hb2.size; simp at this; omega
  have hB2 : Below w.heap.size w w2 := up hb2 (hb1.alloc hb1.size _) (by have := hb1.size; simp; omega)
  go_wp2_with fail
  refine (ValidStoreS_any _ _ _ _ _ _).mono ?_
  rintro e w3 ⟨rfl, hb3⟩
  obtain ⟨hc3, hf3⟩ := bcell hb3
  have hz3 : w1.heap.size < w3.heap.size := by have := hb3.size; omega
  have hB3 : Below w.heap.size w w3 := up hb3 hB2 hB2.size
  cases hv : vSt nd ne ak k s
  · go_wp2_with fail
    refine (ValidStoreS_any _ _ _ _ _ _).mono ?_
    rintro e w4 ⟨rfl, hb4⟩
    rw [hv]
    go_wp2_with fail
    go_ret
    exact ⟨rfl, up hb4 hB3 hB3.size⟩
  · obtain ⟨b1, b2, b3, b4, b5, b6, b7, b8, b9, b10⟩ := vSt_bd hv
    by_cases hn : ak + 1 = nd
    · have hn' : (ak + 1 == nd) = true := by simp [hn]
      have Hn := hide hn
      clear hn
      go_wp2_with fail
      go_ret
      exact ⟨rfl, hB3.setCell hb1.size _⟩
    · have hn' : (ak + 1 == nd) = false := by simp [hn]
      have hv2 : vSt nd ne (ak + 1) k s = true := by
        simp only [vSt, Bool.and_eq_true, inR_true]
        omega
      have Hn := hide hn
      clear hn
      go_wp2_with fail
      refine (ValidStoreI_any _ _ _ _ _ _).mono ?_
      rintro e w4 ⟨rfl, hb4⟩
      rw [hv2]
      go_wp2_with fail
      go_ret
      exact ⟨rfl, up hb4 (hB3.setCell hb1.size _) (by simpa [World.setCell] using hB3.size)⟩

set_option maxRecDepth 100000 in
theorem fnValidStore_lifted (os : Os) (started : os.Started) (H : Type) (enc : TypeId × Value → H) :
    ReturnsInHanded {} Try.checked os 7 .any (Rows.fnValidStoreSpec.pre6 enc Try.prog Try.f7 Rows.fnValidStoreRow.domain false) (Rows.fnValidStoreSpec.post enc Try.prog Try.f7 false true false false) := by
  refine returnsInHanded_of_change (C := Try.checked) (by kernel_rfl : ownKnob Try.prog.godebug = none) started (by kernel_rfl) Try.func7
    (ChangeSpec.witness6 (enc := enc) (C := Try.checked) false ⟨#[], #[.slice none 0 0], []⟩ 8 (by kernel_rfl) (by kernel_rfl) (by kernel_rfl) (by kernel_rfl)) ?_
  intro W base args ds gs before hval0 hW hcnd _
  have hval : ∀ (j : Nat) t v, Try.f7.params[j]? = some t → args[j]? = some v → Value.okWide Try.prog W .any base t v := hval0
  have hW' := hW
  obtain ⟨p, q, hA0, hV, rfl, hfz, hnd⟩ := hW
  have hA : DataW.TrodAll enc Try.prog W 0 (fun _ => true) true Try.f7.params.toList args.toList ds p := hA0
  rw [Try.params7] at hA hval
  obtain ⟨v0, vs0, d0, ds0, p0, q0, hargs, rfl, rfl, h0, r0⟩ := trodAll_cons hA
  obtain ⟨rfl, rfl, rfl⟩ := trodAll_nil r0
  obtain rfl : args = #[v0] := by cases args; simp_all
  obtain ⟨rfl, rfl⟩ := trodVars_none hV
  have k0 := h0
  have lt0 : ∀ x ∈ p0, x.block < W.heap.size := by obtain ⟨m, hm⟩ := k0; exact DataW.trod_lt m _ _ _ hm
  obtain ⟨a0, len0, cap0, rfl⟩ := okWide_slice Try.underlying33 (hval 0 33 v0 rfl rfl)
  obtain ⟨z0, w0⟩ : ∃ zs, IsRow .u8 W a0 len0 cap0 zs := isRow_of Try.underlying33 Try.underlying5 (by kernel_rfl) h0 lt0
  clear hA0 hval0
  refine (fnValidStore_walk a0 len0 cap0 z0 W w0).mono fun e W' ⟨he, bel⟩ => ?_
  subst he
  exact ⟨_, rfl, _, _, _, [], _, [], hW', trodAll_mk1 (shut_bool Try.underlying4 _), (trodAll_cons_mk (Below.trod laidOut (by kernel_rfl) (of_decide_eq_true (by kernel_rfl)) k0 bel lt0) trodAll_mk0), rfl, bel.frame _, fun h => by cases h⟩

theorem fnValidStore_over : Rows.fnValidStoreRow.holds Try.pinned (OpenSpec.ofChange Rows.fnValidStoreSpec) :=
  OpenClaim.holds_of_wide 7 Try.f7 rfl rfl rfl rfl rfl rfl rfl ⟨rfl, rfl, rfl, rfl, rfl⟩ rfl rfl rfl rfl rfl (by kernel_rfl) Try.func7 (by kernel_rfl)
    (of_decide_eq_true (by kernel_rfl)) (by unfold Func.isWrapper; first | (rw [if_pos (by decide +kernel)]; kernel_rfl) | (rw [if_neg (by decide +kernel)]; exact ⟨rfl, rfl⟩))
    (fun os started H enc _ => fnValidStore_lifted os started H enc)

theorem fnValidStore_holds : Rows.FnValidStoreSaid := fnValidStore_over
#print axioms fnValidStore_holds
end Go.Proofs.Ytfnbnpjedhcmgaa
