/-
  FnExactLeastKept returns true for all arguments. Conditions: none.
-/
import Derived.Test.YtfnbnpjedhcmgaaFrame
import Derived.Test.YtfnbnpjedhcmgaaLeast2
namespace Go.Proofs.Ytfnbnpjedhcmgaa
open Go.ChangeShapes Go.WideShapes Go.ChangeAt Go.RowKit
theorem laidOut : laidOutB Try.prog = true := by kernel_rfl

theorem fnExactLeastKept_walk (nd ne ak k s amount : Int) (w : World) (_w0 : (Lit.int .i64 nd).wf = true) (_w1 : (Lit.int .i64 ne).wf = true) (_w2 : (Lit.int .i64 ak).wf = true) (_w3 : (Lit.int .i64 k).wf = true) (_w4 : (Lit.int .i64 s).wf = true) (_w5 : (Lit.int .i64 amount).wf = true) :
    Calls Try.prog 9 #[.agg #[.int .i64 nd, .int .i64 ne, .int .i64 ak, .int .i64 k, .int .i64 s], .int .i64 amount] w fun e w' => e = .returned (.bool true) ∧ Below w.heap.size w w' := by
  clear _w0 _w1 _w2 _w3 _w4 _w5
  go_enter Try.func9, Try.ntmps9
  go_wp2_with fail
  refine (toStore_any _ _ _ _ _ _).mono ?_
  rintro e w1 ⟨rfl, hb1⟩
  obtain ⟨hc1, hf1⟩ := bcell hb1
  have hz1 : w.heap.size < w1.heap.size := by have := hb1.size; simp at this; omega
  go_wp2_with fail
  refine (LeastKeptS_any _ _ _ _ _ _ _).mono ?_
  rintro e w2 ⟨rfl, hb2⟩
  obtain ⟨hc2, hf2⟩ := bcell hb2
  have hz2 : w.heap.size < w2.heap.size := by have := hb2.size; omega
  go_wp2_with fail
  refine (toStore_any _ _ _ _ _ _).mono ?_
  rintro e w3 ⟨rfl, hb3⟩
  obtain ⟨hc3, hf3⟩ := bcell hb3
  go_wp2_with fail
  refine (LeastKeptI_any _ _ _ _ _ _ _).mono ?_
  rintro e w4 ⟨rfl, hb4⟩
  go_wp2_with fail
  go_ret
  have hz3 := hb3.size
  exact ⟨rfl, up hb4 (up hb3 (up hb2 (up hb1 (by go_grown) (by simp)) (by omega)) (by omega)) (by omega)⟩

set_option maxRecDepth 100000 in
theorem fnExactLeastKept_lifted (os : Os) (started : os.Started) (H : Type) (enc : TypeId × Value → H) :
    ReturnsInHanded {} Try.checked os 9 .any (Rows.fnExactLeastKeptSpec.pre6 enc Try.prog Try.f9 Rows.fnExactLeastKeptRow.domain false) (Rows.fnExactLeastKeptSpec.post enc Try.prog Try.f9 false true false false) := by
  refine returnsInHanded_of_change (C := Try.checked) (by kernel_rfl : ownKnob Try.prog.godebug = none) started (by kernel_rfl) Try.func9
    (ChangeSpec.witness6 (enc := enc) (C := Try.checked) false ⟨#[], #[.agg #[.int .i64 0, .int .i64 0, .int .i64 0, .int .i64 0, .int .i64 0], .int .i64 0], []⟩ 8 (by kernel_rfl) (by kernel_rfl) (by kernel_rfl) (by kernel_rfl)) ?_
  intro W base args ds gs before hval0 hW hcnd _
  have hval : ∀ (j : Nat) t v, Try.f9.params[j]? = some t → args[j]? = some v → Value.okWide Try.prog W .any base t v := hval0
  have hW' := hW
  obtain ⟨p, q, hA0, hV, rfl, hfz, hnd⟩ := hW
  have hA : DataW.TrodAll enc Try.prog W 0 (fun _ => true) true Try.f9.params.toList args.toList ds p := hA0
  rw [Try.params9] at hA hval
  obtain ⟨v0, vs0, d0, ds0, p0, q0, hargs, rfl, rfl, h0, r0⟩ := trodAll_cons hA
  obtain ⟨v1, vs1, d1, ds1, p1, q1, rfl, rfl, rfl, h1, r1⟩ := trodAll_cons r0
  obtain ⟨rfl, rfl, rfl⟩ := trodAll_nil r1
  obtain rfl : args = #[v0, v1] := by cases args; simp_all
  obtain ⟨rfl, rfl⟩ := trodVars_none hV
  have k0 := h0
  have lt0 : ∀ x ∈ p0, x.block < W.heap.size := by obtain ⟨m, hm⟩ := k0; exact DataW.trod_lt m _ _ _ hm
  obtain ⟨c0, c1, c2, c3, c4, y0, y1, y2, y3, y4, n0, rfl, _, _, g0, g1, g2, g3, g4⟩ := open_agg5 Try.underlying27 (by kernel_rfl) (by kernel_rfl : Try.prog.cellsOf 27 = 5) (hval 0 27 v0 rfl rfl) h0
  obtain ⟨s0, e0, _, ws0⟩ := DataW.trod_int Try.underlying3 g0
  simp at e0; subst e0
  obtain ⟨s1, e1, _, ws1⟩ := DataW.trod_int Try.underlying3 g1
  simp at e1; subst e1
  obtain ⟨s2, e2, _, ws2⟩ := DataW.trod_int Try.underlying3 g2
  simp at e2; subst e2
  obtain ⟨s3, e3, _, ws3⟩ := DataW.trod_int Try.underlying3 g3
  simp at e3; subst e3
  obtain ⟨s4, e4, _, ws4⟩ := DataW.trod_int Try.underlying3 g4
  simp at e4; subst e4
  have k1 := h1
  have lt1 : ∀ x ∈ p1, x.block < W.heap.size := by obtain ⟨m, hm⟩ := k1; exact DataW.trod_lt m _ _ _ hm
  obtain ⟨a1, rfl, _, _, w1⟩ := open_int Try.underlying3 (hval 1 3 v1 rfl rfl) h1
  clear hA0 hval0
  refine (fnExactLeastKept_walk s0 s1 s2 s3 s4 a1 W ws0 ws1 ws2 ws3 ws4 w1).mono fun e W' ⟨he, bel⟩ => ?_
  subst he
  exact ⟨_, rfl, _, _, _, [], _, [], hW', trodAll_mk1 (shut_bool Try.underlying4 _), (trodAll_cons_mk (Below.trod laidOut (by kernel_rfl) (of_decide_eq_true (by kernel_rfl)) k0 bel lt0) (trodAll_cons_mk (Below.trod laidOut (by kernel_rfl) (of_decide_eq_true (by kernel_rfl)) k1 bel lt1) trodAll_mk0)), rfl, bel.frame _, fun h => by cases h⟩

theorem fnExactLeastKept_over : Rows.fnExactLeastKeptRow.holds Try.pinned (OpenSpec.ofChange Rows.fnExactLeastKeptSpec) :=
  OpenClaim.holds_of_wide 9 Try.f9 rfl rfl rfl rfl rfl rfl rfl ⟨rfl, rfl, rfl, rfl, rfl⟩ rfl rfl rfl rfl rfl (by kernel_rfl) Try.func9 (by kernel_rfl)
    (of_decide_eq_true (by kernel_rfl)) (by unfold Func.isWrapper; first | (rw [if_pos (by decide +kernel)]; kernel_rfl) | (rw [if_neg (by decide +kernel)]; exact ⟨rfl, rfl⟩))
    (fun os started H enc _ => fnExactLeastKept_lifted os started H enc)

theorem fnExactLeastKept_holds : Rows.FnExactLeastKeptSaid := fnExactLeastKept_over
#print axioms fnExactLeastKept_holds
end Go.Proofs.Ytfnbnpjedhcmgaa
