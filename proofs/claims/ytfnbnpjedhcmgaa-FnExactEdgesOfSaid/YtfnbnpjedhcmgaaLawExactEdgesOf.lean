/-
  FnExactEdgesOf returns true for all arguments. Conditions: none.
-/
import Derived.Test.YtfnbnpjedhcmgaaFrame
import Derived.Test.YtfnbnpjedhcmgaaWExactEdges
namespace Go.Proofs.Ytfnbnpjedhcmgaa
open Go.ChangeShapes Go.WideShapes Go.ChangeAt Go.RowKit
theorem laidOut : laidOutB Try.prog = true := by kernel_rfl

set_option maxRecDepth 100000 in
theorem fnExactEdgesOf_lifted (os : Os) (started : os.Started) (H : Type) (enc : TypeId × Value → H) :
    ReturnsInHanded {} Try.checked os 8 .any (Rows.fnExactEdgesOfSpec.pre6 enc Try.prog Try.f8 Rows.fnExactEdgesOfRow.domain false) (Rows.fnExactEdgesOfSpec.post enc Try.prog Try.f8 false true false false) := by
  refine returnsInHanded_of_change (C := Try.checked) (by kernel_rfl : ownKnob Try.prog.godebug = none) started (by kernel_rfl) Try.func8
    (ChangeSpec.witness6 (enc := enc) (C := Try.checked) false ⟨#[], #[.agg #[.int .i64 0, .int .i64 0, .int .i64 0, .int .i64 0, .int .i64 0]], []⟩ 8 (by kernel_rfl) (by kernel_rfl) (by kernel_rfl) (by kernel_rfl)) ?_
  intro W base args ds gs before hval0 hW hcnd _
  have hval : ∀ (j : Nat) t v, Try.f8.params[j]? = some t → args[j]? = some v → Value.okWide Try.prog W .any base t v := hval0
  have hW' := hW
  obtain ⟨p, q, hA0, hV, rfl, hfz, hnd⟩ := hW
  have hA : DataW.TrodAll enc Try.prog W 0 (fun _ => true) true Try.f8.params.toList args.toList ds p := hA0
  rw [Try.params8] at hA hval
  obtain ⟨v0, vs0, d0, ds0, p0, q0, hargs, rfl, rfl, h0, r0⟩ := trodAll_cons hA
  obtain ⟨rfl, rfl, rfl⟩ := trodAll_nil r0
  obtain rfl : args = #[v0] := by cases args; simp_all
  obtain ⟨rfl, rfl⟩ := trodVars_none hV
  have k0 := h0
  have lt0 : ∀ x ∈ p0, x.block < W.heap.size := by obtain ⟨m, hm⟩ := k0; exact DataW.trod_lt m _ _ _ hm
  obtain ⟨c0, c1, c2, c3, c4, y0, y1, y2, y3, y4, n0, rfl, _, _, g0, g1, g2, g3, g4⟩ := open_agg5 Try.underlying27 (by kernel_rfl) (by kernel_rfl : Try.prog.cellsOf 27 = 5) (hval 0 27 v0 rfl rfl) h0
  obtain ⟨s0, e0, _, ws0⟩ := DataW.trod_int Try.underlying3 g0
  simp at e0; subst e0
  obtain ⟨s1, e1, _, ws1⟩ := DataW.trod_int Try.underlying3 g1
  simp at e1; subst e1
  obtain ⟨s2, e2, _, ws2⟩ := DataW.trod_int Try.underlying3 g2
  simp at e2; subst e2
  obtain ⟨s3, e3, _, ws3⟩ := DataW.trod_int Try.underlying3 g3
  simp at e3; subst e3
  obtain ⟨s4, e4, _, ws4⟩ := DataW.trod_int Try.underlying3 g4
  simp at e4; subst e4
  clear hA0 hval0
  refine (fnExactEdgesOf_walk s0 s1 s2 s3 s4 W ws0 ws1 ws2 ws3 ws4).mono fun e W' ⟨he, bel⟩ => ?_
  subst he
  exact ⟨_, rfl, _, _, _, [], _, [], hW', trodAll_mk1 (shut_bool Try.underlying4 _), (trodAll_cons_mk (Below.trod laidOut (by kernel_rfl) (of_decide_eq_true (by kernel_rfl)) k0 bel lt0) trodAll_mk0), rfl, bel.frame _, fun h => by cases h⟩

theorem fnExactEdgesOf_over : Rows.fnExactEdgesOfRow.holds Try.pinned (OpenSpec.ofChange Rows.fnExactEdgesOfSpec) :=
  OpenClaim.holds_of_wide 8 Try.f8 rfl rfl rfl rfl rfl rfl rfl ⟨rfl, rfl, rfl, rfl, rfl⟩ rfl rfl rfl rfl rfl (by kernel_rfl) Try.func8 (by kernel_rfl)
    (of_decide_eq_true (by kernel_rfl)) (by unfold Func.isWrapper; first | (rw [if_pos (by decide +kernel)]; kernel_rfl) | (rw [if_neg (by decide +kernel)]; exact ⟨rfl, rfl⟩))
    (fun os started H enc _ => fnExactEdgesOf_lifted os started H enc)

theorem fnExactEdgesOf_holds : Rows.FnExactEdgesOfSaid := fnExactEdgesOf_over
#print axioms fnExactEdgesOf_holds
end Go.Proofs.Ytfnbnpjedhcmgaa
