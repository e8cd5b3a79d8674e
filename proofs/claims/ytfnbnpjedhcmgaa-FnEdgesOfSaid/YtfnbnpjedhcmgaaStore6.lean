/-
  The stores, continued: the two stores at the edges, the program's side. Conditions: none.
-/
import Derived.Test.YtfnbnpjedhcmgaaStore5
import Derived.Deep.DeepCutAuto
import Derived.BigRegion
namespace Go.Proofs.Ytfnbnpjedhcmgaa
open Go.RowKit

set_option maxHeartbeats 4000000 in
theorem EdgesOfI_any (nd ne ak k s : Int) (w : World) :
    Calls Try.prog 24 #[.agg #[.int .i64 nd, .int .i64 ne, .int .i64 ak, .int .i64 k, .int .i64 s]] w fun e w' => e = .returned (edgeV nd ne ak k s) ∧ Below w.heap.size w w' := by
  cases hv : vSt nd ne ak k s
  · refine calls_val (a := .tuple #[.agg #[.int .i64 0, .int .i64 0, .int .i64 0, .int .i64 0, .int .i64 0], .int .i64 0, .agg #[.int .i64 0, .int .i64 0, .int .i64 0, .int .i64 0, .int .i64 0], .int .i64 0]) (by simp [edgeV, hv]) ?_
    go_enter Try.func24, Try.ntmps24
    go_wp2_with (first | (go_at_call 19; refine (ValidStoreI_any _ _ _ _ _ _).mono ?_; rintro e w' ⟨rfl, hb⟩; obtain ⟨hc, hf⟩ := bcell hb; have hz := hb.size; simp at hz; have hz0 : w.heap.size < w'.heap.size := (by omega); have hz1 : w.heap.size + 1 < w'.heap.size := (by omega); have hz2 : w.heap.size + 1 + 1 < w'.heap.size := (by omega)))
    refine bodyPost_ret (v := .tuple #[.agg #[.int .i64 0, .int .i64 0, .int .i64 0, .int .i64 0, .int .i64 0], .int .i64 0, .agg #[.int .i64 0, .int .i64 0, .int .i64 0, .int .i64 0, .int .i64 0], .int .i64 0]) (by simp [results, Try.results24, go_sem, hc]) rfl ⟨rfl, ?_⟩
    have h1 : Below w.heap.size w w' := up hb (by go_grown) (by simp; omega)
    go_grown
  · refine calls_val (a := .tuple #[.agg #[.int .i64 nd, .int .i64 ne, .int .i64 ak, .int .i64 (ak - ne + 1), .int .i64 1], .int .i64 (ne * (ak - ne + 1)), .agg #[.int .i64 nd, .int .i64 ne, .int .i64 ak, .int .i64 (2 * ak), .int .i64 2], .int .i64 (ne * (2 * ak + 1 - ne))]) (by simp [edgeV, hv]) ?_
    have hbd := edge_bd hv
    obtain ⟨b1, b2, b3, b4, b5, b6, b7, b8, b9, b10⟩ := vSt_bd hv
    go_enter Try.func24, Try.ntmps24
    go_wp2_with (first | (go_at_call 19; refine (ValidStoreI_any _ _ _ _ _ _).mono ?_; rintro e w' ⟨rfl, hb⟩; obtain ⟨hc, hf⟩ := bcell hb; have hz := hb.size; simp at hz; have hz0 : w.heap.size < w'.heap.size := (by omega); have hz1 : w.heap.size + 1 < w'.heap.size := (by omega); have hz2 : w.heap.size + 1 + 1 < w'.heap.size := (by omega)))
    have m0 : SBlk w' w.heap.size 29 #[.int .i64 nd, .int .i64 ne, .int .i64 ak, .int .i64 k, .int .i64 s] := by
      refine SBlk.below ?_ hb (by simp; omega)
      exact ((SBlk.new _ _ _).alloc _).alloc _
    have m1 : SBlk w' (w.heap.size + 1) 29 #[.int .i64 0, .int .i64 0, .int .i64 0, .int .i64 0, .int .i64 0] := by
      refine SBlk.below ?_ hb (by simp)
      exact (SBlk.newAt (by simp) _ _).alloc _
    have m2 : SBlk w' (w.heap.size + 1 + 1) 29 #[.int .i64 0, .int .i64 0, .int .i64 0, .int .i64 0, .int .i64 0] := by
      refine SBlk.below ?_ hb (by simp)
      exact SBlk.newAt (by simp) _ _
    have hB : Below w.heap.size w w' := up hb (by go_grown) (by simp; omega)
    go_cut [6, 7, 13, 14] (fun va vb v13 v14 wx => ∃ A B, va = .pointer (some ⟨A, 0, none⟩) ∧ vb = .pointer (some ⟨B, 0, none⟩) ∧ v13 = .agg #[.int .i64 nd, .int .i64 ne, .int .i64 ak, .int .i64 k, .int .i64 s] ∧ v14 = .agg #[.int .i64 nd, .int .i64 ne, .int .i64 ak, .int .i64 k, .int .i64 s] ∧ w'.heap.size ≤ A ∧ w'.heap.size ≤ B ∧ A ≠ B ∧
      SBlk wx w.heap.size 29 #[.int .i64 nd, .int .i64 ne, .int .i64 ak, .int .i64 k, .int .i64 s] ∧ SBlk wx (w.heap.size + 1) 29 #[.int .i64 0, .int .i64 0, .int .i64 0, .int .i64 0, .int .i64 0] ∧ SBlk wx (w.heap.size + 1 + 1) 29 #[.int .i64 0, .int .i64 0, .int .i64 0, .int .i64 0, .int .i64 0] ∧
      SBlk wx A 29 #[.int .i64 nd, .int .i64 ne, .int .i64 ak, .int .i64 k, .int .i64 s] ∧ SBlk wx B 29 #[.int .i64 nd, .int .i64 ne, .int .i64 ak, .int .i64 k, .int .i64 s] ∧ Below w.heap.size w wx)
    case first =>
      have g0 := m0.at_ (i := 0) rfl
      have g1 := m0.at_ (i := 1) rfl
      have g2 := m0.at_ (i := 2) rfl
      have g3 := m0.at_ (i := 3) rfl
      have g4 := m0.at_ (i := 4) rfl
      have M0 := hide m0
      have M1 := hide m1
      have M2 := hide m2
      clear m0 m1 m2
      go_region
      all_goals go_wp2_with fail
      all_goals go_meet
      · exact ⟨_, _, rfl, rfl, rfl, rfl, Nat.le_refl _, by omega, by omega, ((M0.out.alloc _).alloc _).drew, ((M1.out.alloc _).alloc _).drew, ((M2.out.alloc _).alloc _).drew, ((SBlk.newAt rfl _ _).alloc _).drew, (SBlk.newAt (by simp) _ _).drew, by go_grown⟩
      · exact ⟨_, _, rfl, rfl, rfl, rfl, by omega, Nat.le_refl _, by omega, ((M0.out.alloc _).alloc _).drew, ((M1.out.alloc _).alloc _).drew, ((M2.out.alloc _).alloc _).drew, (SBlk.newAt (by simp) _ _).drew, ((SBlk.newAt rfl _ _).alloc _).drew, by go_grown⟩
    case rest =>
      obtain ⟨A, B, rfl, rfl, rfl, rfl, hA, hB', hAB, m0, m1, m2, m3, m4, hbel⟩ := hcut
      have g1 := m0.at_ (i := 1) rfl
      have g2 := m0.at_ (i := 2) rfl
      have M0 := hide m0
      have M1 := hide m1
      have M2 := hide m2
      have M3 := hide m3
      have M4 := hide m4
      have d0 : A ≠ w.heap.size := by omega
      have d1 : B ≠ w.heap.size := by omega
      have d2 : A ≠ w.heap.size + 1 := by omega
      have d3 : B ≠ w.heap.size + 1 := by omega
      have d4 : A ≠ w.heap.size + 1 + 1 := by omega
      have d5 : B ≠ w.heap.size + 1 + 1 := by omega
      have c3 := m3.at_ (i := 3) rfl
      have c4 := m3.at_ (i := 4) rfl
      have c5 := m4.at_ (i := 3) rfl
      have c6 := m4.at_ (i := 4) rfl
      have e3 := m3.frozen 3
      have e4 := m3.frozen 4
      have e5 := m4.frozen 3
      have e6 := m4.frozen 4
      have l3 := m3.lt
      have l4 := m4.lt
      clear m0 m1 m2 m3 m4
      obtain ⟨wd, rfl⟩ : ∃ x, x = wc := ⟨_, rfl⟩
      go_wp2
      refine name_world (fun wx => SBlk wx w.heap.size 29 #[.int .i64 nd, .int .i64 ne, .int .i64 ak, .int .i64 k, .int .i64 s] ∧ SBlk wx (w.heap.size + 1) 29 #[.int .i64 0, .int .i64 0, .int .i64 0, .int .i64 0, .int .i64 0] ∧ SBlk wx (w.heap.size + 1 + 1) 29 #[.int .i64 0, .int .i64 0, .int .i64 0, .int .i64 0, .int .i64 0] ∧
        SBlk wx A 29 #[.int .i64 nd, .int .i64 ne, .int .i64 ak, .int .i64 (ak - ne + 1), .int .i64 1] ∧ SBlk wx B 29 #[.int .i64 nd, .int .i64 ne, .int .i64 ak, .int .i64 (2 * ak), .int .i64 2] ∧ Below w.heap.size w wx) ?_ ?_
      · refine ⟨?_, ?_, ?_, ?_, ?_, ?_⟩
        · exact (((M0.out.far d0.symm _).far d0.symm _).far d1.symm _).far d1.symm _
        · exact (((M1.out.far d2.symm _).far d2.symm _).far d3.symm _).far d3.symm _
        · exact (((M2.out.far d4.symm _).far d4.symm _).far d5.symm _).far d5.symm _
        · exact (((M3.out.set_ 3 _).set_ 4 _).far hAB _).far hAB _
        · exact (((M4.out.far hAB.symm _).far hAB.symm _).set_ 3 _).set_ 4 _
        · go_grown
      clear M0 M1 M2 M3 M4 c3 c4 c5 c6 e3 e4 e5 e6 l3 l4 hbel g1 g2
      rintro wx ⟨m0, k1, k2, m3, m4, hbel⟩
      have f1 := m0.at_ (i := 1) rfl
      have f2 := m0.at_ (i := 2) rfl
      have a0 := m3.at_ (i := 0) rfl
      have a1 := m3.at_ (i := 1) rfl
      have a2 := m3.at_ (i := 2) rfl
      have a3 := m3.at_ (i := 3) rfl
      have a4 := m3.at_ (i := 4) rfl
      have c0 := m4.at_ (i := 0) rfl
      have c1 := m4.at_ (i := 1) rfl
      have c2 := m4.at_ (i := 2) rfl
      have c3 := m4.at_ (i := 3) rfl
      have c4 := m4.at_ (i := 4) rfl
      have p0 := k1.at_ (i := 0) rfl
      have p1 := k1.at_ (i := 1) rfl
      have p2 := k1.at_ (i := 2) rfl
      have p3 := k1.at_ (i := 3) rfl
      have p4 := k1.at_ (i := 4) rfl
      have q0 := k2.at_ (i := 0) rfl
      have q1 := k2.at_ (i := 1) rfl
      have q2 := k2.at_ (i := 2) rfl
      have q3 := k2.at_ (i := 3) rfl
      have q4 := k2.at_ (i := 4) rfl
      have r0 := k1.frozen 0
      have r1 := k1.frozen 1
      have r2 := k1.frozen 2
      have r3 := k1.frozen 3
      have r4 := k1.frozen 4
      have s0 := k2.frozen 0
      have s1 := k2.frozen 1
      have s2 := k2.frozen 2
      have s3 := k2.frozen 3
      have s4 := k2.frozen 4
      have K1 := hide k1
      have K2 := hide k2
      clear m0 m3 m4 k1 k2
      --GO
      go_region
      go_wp2
      refine name_post (fun wy => SBlk wy (w.heap.size + 1) 29 #[.int .i64 nd, .int .i64 ne, .int .i64 ak, .int .i64 (ak - ne + 1), .int .i64 1] ∧ SBlk wy (w.heap.size + 1 + 1) 29 #[.int .i64 nd, .int .i64 ne, .int .i64 ak, .int .i64 (2 * ak), .int .i64 2] ∧ Below w.heap.size w wy) ?_ ?_
      · refine ⟨?_, ?_, ?_⟩
        · first | exact (K1.out.five.far5 (by omega)).drew | exact K1.out.five.far5 (by omega)
        · first | exact ((K2.out.far5 (by omega)).five).drew | exact (K2.out.far5 (by omega)).five
        · go_grown
      rintro wy ⟨k1, k2, hbel⟩
      have p0 := k1.at_ (i := 0) rfl
      have p1 := k1.at_ (i := 1) rfl
      have p2 := k1.at_ (i := 2) rfl
      have p3 := k1.at_ (i := 3) rfl
      have p4 := k1.at_ (i := 4) rfl
      have q0 := k2.at_ (i := 0) rfl
      have q1 := k2.at_ (i := 1) rfl
      have q2 := k2.at_ (i := 2) rfl
      have q3 := k2.at_ (i := 3) rfl
      have q4 := k2.at_ (i := 4) rfl
      refine bodyPost_ret (v := .tuple #[.agg #[.int .i64 nd, .int .i64 ne, .int .i64 ak, .int .i64 (ak - ne + 1), .int .i64 1], .int .i64 (ne * (ak - ne + 1)), .agg #[.int .i64 nd, .int .i64 ne, .int .i64 ak, .int .i64 (2 * ak), .int .i64 2], .int .i64 (ne * (2 * ak + 1 - ne))]) (by simp [results, Try.results24, go_sem, p0, p1, p2, p3, p4, q0, q1, q2, q3, q4]) rfl ⟨rfl, hbel⟩

end Go.Proofs.Ytfnbnpjedhcmgaa
