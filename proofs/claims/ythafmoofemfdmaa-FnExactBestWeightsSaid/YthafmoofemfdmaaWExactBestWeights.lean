/-
  FnExactBestWeights returns true for all arguments: the walk. Conditions: none.
-/
import Derived.Test.YthafmoofemfdmaaBW3
namespace Go.Proofs.Ythafmoofemfdmaa
open Go.RowKit

theorem bwLen_le (p n k : Int) : bwLen p n k ≤ 8 := by
  unfold bwLen
  split
  · rename_i h
    simp only [bwIn, Bool.and_eq_true, inR_true] at h
    omega
  · omega

theorem fnExactBestWeights_walk (p n k : Int) (w : World) (_w0 : (Lit.int .i64 p).wf = true) (_w1 : (Lit.int .i64 n).wf = true) (_w2 : (Lit.int .i64 k).wf = true) :
    Calls Try.prog 5 #[.int .i64 p, .int .i64 n, .int .i64 k] w fun e w' => e = .returned (.bool true) ∧ Below w.heap.size w w' := by
  clear _w0 _w1 _w2
  have hN := bwLen_le p n k
  have S := hide (fun W => BestWeightsS_any p n k W)
  have I := hide (fun W => BestWeightsI_any p n k W)
  unfold BwPost at S I
  generalize bwLen p n k = N at *
  generalize bwF p n k = F at *
  go_enter Try.func5, Try.ntmps5
  go_wp2_with fail
  refine (S.out _).mono ?_
  rintro e w1 ⟨A, c, rfl, ow, hb1⟩
  have OW := hide ow
  clear ow
  go_wp2_with fail
  refine (I.out _).mono ?_
  rintro e w2 ⟨G, d, rfl, og, hb2⟩
  have OG := hide og
  clear og
  have B2 : Below w.heap.size w w2 := up hb2 hb1 hb1.size
  go_wp2_with fail
  refine (eqIntS_any G A N N d c F F w2 (by omega) (by omega) OG.out.ints (OW.out.ints.keep hb2 hb2.size)).mono ?_
  rintro e _ ⟨rfl, q, rfl⟩
  rw [eqB_self]
  obtain ⟨w3, hw3⟩ : ∃ w3, w2.drewN q = w3 := ⟨_, rfl⟩
  have hb3 : Below w2.heap.size w2 w3 := by rw [← hw3]; exact below_drewN (Below.refl _ _) q
  rw [hw3]
  clear hw3
  have B3 : Below w.heap.size w w3 := up hb3 B2 B2.size
  go_wp2_with fail
  refine (markIntS_any G N d w1.heap.size F 1 w3 (by omega) (by omega) (Nat.le_trans hb2.size hb3.size) (OG.out.keep hb3)).mono ?_
  rintro e w4 ⟨rfl, og4, hb4, hz4⟩
  have OG4 := hide og4
  have B4 : Below w.heap.size w w4 := B3.trans (hb4.mono hb1.size)
  clear og4
  go_wp2_with fail
  refine (heldIntS_any G N d 1 w4 (by omega) (by omega) OG4.out.ints).mono ?_
  rintro e w5 ⟨rfl, hb5⟩
  have B5 : Below w.heap.size w w5 := up hb5 B4 B4.size
  have hq : ((1 : Int) + N != 1 + N) = false := by simp
  have hz : w3.heap.size ≤ w5.heap.size := by have := hb5.size; omega
  have Hz4 := hide hz4
  clear hz4
  go_wp2_with fail
  refine (I.out _).mono ?_
  rintro e w6 ⟨K, f, rfl, oh, hb6⟩
  have OH := hide oh
  clear oh
  have B6 : Below w.heap.size w w6 := up hb6 B5 B5.size
  have hw1 : Ints w6 w6.heap.size A N F := by
    have h1 : Below w1.heap.size w1 w6 := (((hb2.trans (hb3.mono hb2.size)).trans hb4).trans (hb5.mono (by have := hb2.size; have := hb3.size; have := hb4.size; omega))).trans (hb6.mono (by have := hb2.size; have := hb3.size; omega))
    exact OW.out.ints.keep h1 h1.size
  have HW := hide hw1
  clear hw1
  go_wp2_with fail
  refine (eqIntS_any K A N N f c F F w6 (by omega) (by omega) OH.out.ints HW.out).mono ?_
  rintro e _ ⟨rfl, q2, rfl⟩
  rw [eqB_self]
  obtain ⟨w7, hw7⟩ : ∃ w7, w6.drewN q2 = w7 := ⟨_, rfl⟩
  have hb7 : Below w6.heap.size w6 w7 := by rw [← hw7]; exact below_drewN (Below.refl _ _) q2
  rw [hw7]
  clear hw7
  have B7 : Below w.heap.size w w7 := up hb7 B6 B6.size
  have hg7 : Ints w7 w7.heap.size G N (fun i => 1 + i) := by
    have h1 : Below w4.heap.size w4 w7 := (hb5.trans (hb6.mono hb5.size)).trans (hb7.mono (by have := hb5.size; have := hb6.size; omega))
    exact OG4.out.ints.keep h1 h1.size
  have HG := hide hg7
  clear hg7
  go_wp2_with fail
  refine (heldIntS_any G N d 1 w7 (by omega) (by omega) HG.out).mono ?_
  rintro e w8 ⟨rfl, hb8⟩
  have B8 : Below w.heap.size w w8 := up hb8 B7 B7.size
  go_wp2_with fail
  go_ret
  exact ⟨rfl, B8⟩
end Go.Proofs.Ythafmoofemfdmaa
