/-
  FnExactThresholdOf returns true for all arguments: the walk. Conditions: none.
-/
import Derived.Test.YthafmoofemfdmaaThreshI
import Derived.Test.YthafmoofemfdmaaStruct
namespace Go.Proofs.Ythafmoofemfdmaa
open Go.RowKit

def thMO (p n k : Int) : Nat := thN p n k
theorem th_bounds (p n k : Int) : thN p n k ≤ 1000 ∧ thMO p n k ≤ 1000 ∧ ∀ i, i < thN p n k → thL p n k i ≤ 1000 := by
  unfold thMO thN thL
  cases h : thIn p n k
  · simp
  · obtain ⟨_, h1, h2⟩ := th_bd h
    refine ⟨by simp; omega, by simp; omega, fun i _ => by omega⟩
theorem thPost_to {p n k : Int} {w w' : World} {e : Ending} (h : ThPost p n k w e w') : ∃ A c O d, e = .returned (.tuple #[.agg #[.int .i64 (thP p n k), .slice A (thN p n k) c, .slice O (thMO p n k) d], .bool (thIn p n k)]) ∧
    ST w' w.heap.size w'.heap.size A (thN p n k) (thL p n k) (thM p n k) O (thMO p n k) thO ∧ Below w.heap.size w w' := by
  obtain ⟨A, c, O, d, he, ⟨L, M, f, ⟨R, t1, t2, t3⟩, hh⟩, hb⟩ := h
  exact ⟨A, c, O, d, he, ⟨R, t1.congr (fun i hi => ⟨(hh i hi).1, (hh i hi).2.1⟩), t2.congr (fun i hi => (hh i hi).2.2), t3⟩, hb⟩
theorem ThresholdS_any (p n k : Int) (w : World) : Calls Try.prog 33 #[.int .i64 p, .int .i64 n, .int .i64 k] w fun e w' => ∃ A c O d, e = .returned (.tuple #[.agg #[.int .i64 (thP p n k), .slice A (thN p n k) c, .slice O (thMO p n k) d], .bool (thIn p n k)]) ∧
    ST w' w.heap.size w'.heap.size A (thN p n k) (thL p n k) (thM p n k) O (thMO p n k) thO ∧ Below w.heap.size w w' := (ThresholdOfS_any p n k w).mono fun _ _ h => thPost_to h
theorem ThresholdI_any (p n k : Int) (w : World) : Calls Try.prog 34 #[.int .i64 p, .int .i64 n, .int .i64 k] w fun e w' => ∃ A c O d, e = .returned (.tuple #[.agg #[.int .i64 (thP p n k), .slice A (thN p n k) c, .slice O (thMO p n k) d], .bool (thIn p n k)]) ∧
    ST w' w.heap.size w'.heap.size A (thN p n k) (thL p n k) (thM p n k) O (thMO p n k) thO ∧ Below w.heap.size w w' := (ThresholdOfI_any p n k w).mono fun _ _ h => thPost_to h
set_option maxHeartbeats 4000000 in
set_option maxRecDepth 100000 in
theorem fnExactThresholdOf_walk (a0 : Int) (a1 : Int) (a2 : Int) (w : World) (_w0 : (Lit.int .i64 a0).wf = true) (_w1 : (Lit.int .i64 a1).wf = true) (_w2 : (Lit.int .i64 a2).wf = true) :
    Calls Try.prog 9 #[.int .i64 a0, .int .i64 a1, .int .i64 a2] w fun e w' => e = .returned (.bool true) ∧ Below w.heap.size w w' := by
  clear _w0
  clear _w1
  clear _w2
  have S := hide (fun  (W : World)  => ThresholdS_any a0 a1 a2 W )
  have I := hide (fun  (W : World)  => ThresholdI_any a0 a1 a2 W )
  obtain ⟨bN, bO, bL⟩ := th_bounds a0 a1 a2
  generalize thP a0 a1 a2 = P at S I bN bO bL
  generalize thN a0 a1 a2 = N at S I bN bO bL
  generalize thL a0 a1 a2 = LL at S I bN bO bL
  generalize thM a0 a1 a2 = MM at S I bN bO bL
  generalize thMO a0 a1 a2 = MO at S I bN bO bL
  generalize thO = FO at S I bN bO bL
  have BL := hide (fun i (hi : i < N) => Nat.le_trans (bL i hi) (show 1000 ≤ 1048576 by omega))
  have BL3 := hide (fun i (hi : i < N) => Nat.le_trans (bL i hi) (show 1000 ≤ 9223372036854775807 by omega))
  clear bL
  have bT : offs LL N ≤ 1048576000 := by
    have h1 := offs_le BL.out N (Nat.le_refl N)
    omega
  have eP : (P != P) = false := by simp
  generalize thIn a0 a1 a2 = v1 at S I
  have ev1 : (v1 != v1) = false := by simp
  go_enter Try.func9, Try.ntmps9
  go_wp2_with fail
  refine (S.out _).mono ?_
  rintro e w1 ⟨Av, cv, Ov, dv, rfl, m1, hb1⟩
  have hc1 : Below w.heap.size w w1 := up' (by first | exact Below.refl _ _ | go_grown | exact Below.drew (by go_grown)) hb1
  have B1 : Below w.heap.size w w1 := up' (Below.refl w.heap.size w) hc1
  have z1 : w.heap.size ≤ w1.heap.size := hc1.size
  have Tv_1 := hide (fun (W : World) (hb : Below w1.heap.size w1 W) => (m1).keepB hb)
  clear m1
  go_wp2_with fail
  refine (I.out _).mono ?_
  rintro e w2 ⟨Ag, cg, Og, dg, rfl, m2, hb2⟩
  simp only [World.size_alloc] at m2
  have hc2 : Below w1.heap.size w1 w2 := up' (by first | exact Below.refl _ _ | go_grown | exact Below.drew (by go_grown)) hb2
  have B2 : Below w.heap.size w w2 := up' B1 hc2
  have z2 : w1.heap.size ≤ w2.heap.size := hc2.size
  have zz2 : w1.heap.size + 1 ≤ w2.heap.size := by have := hb2.size; simp at this; omega
  have Tv_2 := hide (fun (W : World) (hb : Below w2.heap.size w2 W) => Tv_1.out W (up' hc2 hb))
  clear Tv_1
  have Xxv : Blk w2 (w1.heap.size) 44 #[.int .i64 P, .slice Av N cv, .slice Ov MO dv] := Blk.below (Blk.newAt (by simp) 44 #[.int .i64 P, .slice Av N cv, .slice Ov MO dv]) hb2 (by simp; try omega)
  have Txv_2 := hide (fun (W : World) (hb : Below w2.heap.size w2 W) => Blk.below (Xxv) hb (Blk.lt (Xxv)))
  clear Xxv
  have Tg_2 := hide (fun (W : World) (hb : Below w2.heap.size w2 W) => (m2).keepB hb)
  clear m2
  have xxv_0 := (Txv_2.out w2 (Below.refl _ _)).at_ (i := 0) rfl
  have xxv_1 := (Txv_2.out w2 (Below.refl _ _)).at_ (i := 1) rfl
  have xxv_2 := (Txv_2.out w2 (Below.refl _ _)).at_ (i := 2) rfl
  have xxv_l : w1.heap.size < w2.heap.size := (Txv_2.out w2 (Below.refl _ _)).lt
  go_wp2_with fail
  clear xxv_0 xxv_1 xxv_2 xxv_l
  refine (eqScheme_any P Ag Av Og Ov N cg cv MO dg dv LL MM FO _ (by omega) BL3.out (by omega) (Tg_2.out _ (by first | exact Below.refl _ _ | go_grown | exact Below.drew (by go_grown))).mat (Tv_2.out _ (by first | exact Below.refl _ _ | go_grown | exact Below.drew (by go_grown))).mat (Tg_2.out _ (by first | exact Below.refl _ _ | go_grown | exact Below.drew (by go_grown))).ints (Tv_2.out _ (by first | exact Below.refl _ _ | go_grown | exact Below.drew (by go_grown))).ints).mono ?_
  rintro e w3 ⟨rfl, hb3⟩
  have hc3 : Below w2.heap.size w2 w3 := up' (by first | exact Below.refl _ _ | go_grown | exact Below.drew (by go_grown)) hb3
  have B3 : Below w.heap.size w w3 := up' B2 hc3
  have z3 : w2.heap.size ≤ w3.heap.size := hc3.size
  have zz3 : w2.heap.size + 1 ≤ w3.heap.size := by have := hb3.size; simp at this; omega
  have Tv_3 := hide (fun (W : World) (hb : Below w3.heap.size w3 W) => Tv_2.out W (up' hc3 hb))
  clear Tv_2
  have Txv_3 := hide (fun (W : World) (hb : Below w3.heap.size w3 W) => Txv_2.out W (up' hc3 hb))
  clear Txv_2
  have Tg_3 := hide (fun (W : World) (hb : Below w3.heap.size w3 W) => Tg_2.out W (up' hc3 hb))
  clear Tg_2
  have Xxg : Blk w3 (w2.heap.size) 44 #[.int .i64 P, .slice Ag N cg, .slice Og MO dg] := Blk.below (Blk.newAt (by simp) 44 #[.int .i64 P, .slice Ag N cg, .slice Og MO dg]) hb3 (by simp; try omega)
  have Txg_3 := hide (fun (W : World) (hb : Below w3.heap.size w3 W) => Blk.below (Xxg) hb (Blk.lt (Xxg)))
  clear Xxg
  have xxv_0 := (Txv_3.out w3 (Below.refl _ _)).at_ (i := 0) rfl
  have xxv_1 := (Txv_3.out w3 (Below.refl _ _)).at_ (i := 1) rfl
  have xxv_2 := (Txv_3.out w3 (Below.refl _ _)).at_ (i := 2) rfl
  have xxv_l : w1.heap.size < w3.heap.size := (Txv_3.out w3 (Below.refl _ _)).lt
  have xxg_0 := (Txg_3.out w3 (Below.refl _ _)).at_ (i := 0) rfl
  have xxg_1 := (Txg_3.out w3 (Below.refl _ _)).at_ (i := 1) rfl
  have xxg_2 := (Txg_3.out w3 (Below.refl _ _)).at_ (i := 2) rfl
  have xxg_l : w2.heap.size < w3.heap.size := (Txg_3.out w3 (Below.refl _ _)).lt
  go_wp2_with fail
  clear xxv_0 xxv_1 xxv_2 xxv_l xxg_0 xxg_1 xxg_2 xxg_l
  refine (markScheme_any P Ag Og N cg MO dg (w1.heap.size + 1) (w2.heap.size) LL MM FO _ _ (by omega) BL.out (by omega) (by omega) (Tg_3.out _ (by first | exact Below.refl _ _ | go_grown | exact Below.drew (by go_grown)))).mono ?_
  rintro e w4 ⟨rfl, m4, ho4⟩
  have z4 : w3.heap.size ≤ w4.heap.size := ho4.size
  have B4 : Below w.heap.size w w4 := B3.trans (ho4.below (by have := B3.size; omega) B3.size)
  have Yv := (Tv_3.out w3 (Below.refl _ _)).keep ho4 (by omega)
  have Tv_4 := hide (fun (W : World) (hb : Below w4.heap.size w4 W) => Yv.keepB hb)
  clear Yv Tv_3
  have Yxv := Blk.keepO (Txv_3.out w3 (Below.refl _ _)) ho4 (by omega)
  have Txv_4 := hide (fun (W : World) (hb : Below w4.heap.size w4 W) => Blk.below Yxv hb Yxv.lt)
  clear Yxv Txv_3
  clear Tg_3
  have Yxg := Blk.keepO (Txg_3.out w3 (Below.refl _ _)) ho4 (by omega)
  have Txg_4 := hide (fun (W : World) (hb : Below w4.heap.size w4 W) => Blk.below Yxg hb Yxg.lt)
  clear Yxg Txg_3
  have Tg_4 := hide (fun (W : World) (hb : Below w4.heap.size w4 W) => (m4).keepB hb)
  clear m4
  have xxv_0 := (Txv_4.out w4 (Below.refl _ _)).at_ (i := 0) rfl
  have xxv_1 := (Txv_4.out w4 (Below.refl _ _)).at_ (i := 1) rfl
  have xxv_2 := (Txv_4.out w4 (Below.refl _ _)).at_ (i := 2) rfl
  have xxv_l : w1.heap.size < w4.heap.size := (Txv_4.out w4 (Below.refl _ _)).lt
  have xxg_0 := (Txg_4.out w4 (Below.refl _ _)).at_ (i := 0) rfl
  have xxg_1 := (Txg_4.out w4 (Below.refl _ _)).at_ (i := 1) rfl
  have xxg_2 := (Txg_4.out w4 (Below.refl _ _)).at_ (i := 2) rfl
  have xxg_l : w2.heap.size < w4.heap.size := (Txg_4.out w4 (Below.refl _ _)).lt
  go_wp2_with fail
  clear xxv_0 xxv_1 xxv_2 xxv_l xxg_0 xxg_1 xxg_2 xxg_l
  have hq : ((1 : Int) + (offs LL N : Int) + MO != 1 + (offs LL N : Int) + MO) = false := by simp
  refine (heldScheme_any P Ag Og N cg MO dg LL 1 _ (by omega) BL.out (by omega) (by omega) (Tg_4.out _ (by first | exact Below.refl _ _ | go_grown | exact Below.drew (by go_grown))).mat (Tg_4.out _ (by first | exact Below.refl _ _ | go_grown | exact Below.drew (by go_grown))).ints).mono ?_
  rintro e w5 ⟨rfl, hb5⟩
  have hc5 : Below w4.heap.size w4 w5 := up' (by first | exact Below.refl _ _ | go_grown | exact Below.drew (by go_grown)) hb5
  have B5 : Below w.heap.size w w5 := up' B4 hc5
  have z5 : w4.heap.size ≤ w5.heap.size := hc5.size
  have Tv_5 := hide (fun (W : World) (hb : Below w5.heap.size w5 W) => Tv_4.out W (up' hc5 hb))
  clear Tv_4
  have Txv_5 := hide (fun (W : World) (hb : Below w5.heap.size w5 W) => Txv_4.out W (up' hc5 hb))
  clear Txv_4
  have Tg_5 := hide (fun (W : World) (hb : Below w5.heap.size w5 W) => Tg_4.out W (up' hc5 hb))
  clear Tg_4
  have Txg_5 := hide (fun (W : World) (hb : Below w5.heap.size w5 W) => Txg_4.out W (up' hc5 hb))
  clear Txg_4
  have xxv_0 := (Txv_5.out w5 (Below.refl _ _)).at_ (i := 0) rfl
  have xxv_1 := (Txv_5.out w5 (Below.refl _ _)).at_ (i := 1) rfl
  have xxv_2 := (Txv_5.out w5 (Below.refl _ _)).at_ (i := 2) rfl
  have xxv_l : w1.heap.size < w5.heap.size := (Txv_5.out w5 (Below.refl _ _)).lt
  have xxg_0 := (Txg_5.out w5 (Below.refl _ _)).at_ (i := 0) rfl
  have xxg_1 := (Txg_5.out w5 (Below.refl _ _)).at_ (i := 1) rfl
  have xxg_2 := (Txg_5.out w5 (Below.refl _ _)).at_ (i := 2) rfl
  have xxg_l : w2.heap.size < w5.heap.size := (Txg_5.out w5 (Below.refl _ _)).lt
  go_wp2_with fail
  clear xxv_0 xxv_1 xxv_2 xxv_l xxg_0 xxg_1 xxg_2 xxg_l
  refine (I.out _).mono ?_
  rintro e w6 ⟨Ah, ch, Oh, dh, rfl, m6, hb6⟩
  have hc6 : Below w5.heap.size w5 w6 := up' (by first | exact Below.refl _ _ | go_grown | exact Below.drew (by go_grown)) hb6
  have B6 : Below w.heap.size w w6 := up' B5 hc6
  have z6 : w5.heap.size ≤ w6.heap.size := hc6.size
  have Tv_6 := hide (fun (W : World) (hb : Below w6.heap.size w6 W) => Tv_5.out W (up' hc6 hb))
  clear Tv_5
  have Txv_6 := hide (fun (W : World) (hb : Below w6.heap.size w6 W) => Txv_5.out W (up' hc6 hb))
  clear Txv_5
  have Tg_6 := hide (fun (W : World) (hb : Below w6.heap.size w6 W) => Tg_5.out W (up' hc6 hb))
  clear Tg_5
  have Txg_6 := hide (fun (W : World) (hb : Below w6.heap.size w6 W) => Txg_5.out W (up' hc6 hb))
  clear Txg_5
  have Th_6 := hide (fun (W : World) (hb : Below w6.heap.size w6 W) => (m6).keepB hb)
  clear m6
  have xxv_0 := (Txv_6.out w6 (Below.refl _ _)).at_ (i := 0) rfl
  have xxv_1 := (Txv_6.out w6 (Below.refl _ _)).at_ (i := 1) rfl
  have xxv_2 := (Txv_6.out w6 (Below.refl _ _)).at_ (i := 2) rfl
  have xxv_l : w1.heap.size < w6.heap.size := (Txv_6.out w6 (Below.refl _ _)).lt
  have xxg_0 := (Txg_6.out w6 (Below.refl _ _)).at_ (i := 0) rfl
  have xxg_1 := (Txg_6.out w6 (Below.refl _ _)).at_ (i := 1) rfl
  have xxg_2 := (Txg_6.out w6 (Below.refl _ _)).at_ (i := 2) rfl
  have xxg_l : w2.heap.size < w6.heap.size := (Txg_6.out w6 (Below.refl _ _)).lt
  go_wp2_with fail
  clear xxv_0 xxv_1 xxv_2 xxv_l xxg_0 xxg_1 xxg_2 xxg_l
  refine (eqScheme_any P Ah Av Oh Ov N ch cv MO dh dv LL MM FO _ (by omega) BL3.out (by omega) (Th_6.out _ (by first | exact Below.refl _ _ | go_grown | exact Below.drew (by go_grown))).mat (Tv_6.out _ (by first | exact Below.refl _ _ | go_grown | exact Below.drew (by go_grown))).mat (Th_6.out _ (by first | exact Below.refl _ _ | go_grown | exact Below.drew (by go_grown))).ints (Tv_6.out _ (by first | exact Below.refl _ _ | go_grown | exact Below.drew (by go_grown))).ints).mono ?_
  rintro e w7 ⟨rfl, hb7⟩
  have hc7 : Below w6.heap.size w6 w7 := up' (by first | exact Below.refl _ _ | go_grown | exact Below.drew (by go_grown)) hb7
  have B7 : Below w.heap.size w w7 := up' B6 hc7
  have z7 : w6.heap.size ≤ w7.heap.size := hc7.size
  have zz7 : w6.heap.size + 1 ≤ w7.heap.size := by have := hb7.size; simp at this; omega
  have Tv_7 := hide (fun (W : World) (hb : Below w7.heap.size w7 W) => Tv_6.out W (up' hc7 hb))
  clear Tv_6
  have Txv_7 := hide (fun (W : World) (hb : Below w7.heap.size w7 W) => Txv_6.out W (up' hc7 hb))
  clear Txv_6
  have Tg_7 := hide (fun (W : World) (hb : Below w7.heap.size w7 W) => Tg_6.out W (up' hc7 hb))
  clear Tg_6
  have Txg_7 := hide (fun (W : World) (hb : Below w7.heap.size w7 W) => Txg_6.out W (up' hc7 hb))
  clear Txg_6
  have Th_7 := hide (fun (W : World) (hb : Below w7.heap.size w7 W) => Th_6.out W (up' hc7 hb))
  clear Th_6
  have Xxh : Blk w7 (w6.heap.size) 44 #[.int .i64 P, .slice Ah N ch, .slice Oh MO dh] := Blk.below (Blk.newAt (by simp) 44 #[.int .i64 P, .slice Ah N ch, .slice Oh MO dh]) hb7 (by simp; try omega)
  have Txh_7 := hide (fun (W : World) (hb : Below w7.heap.size w7 W) => Blk.below (Xxh) hb (Blk.lt (Xxh)))
  clear Xxh
  have xxv_0 := (Txv_7.out w7 (Below.refl _ _)).at_ (i := 0) rfl
  have xxv_1 := (Txv_7.out w7 (Below.refl _ _)).at_ (i := 1) rfl
  have xxv_2 := (Txv_7.out w7 (Below.refl _ _)).at_ (i := 2) rfl
  have xxv_l : w1.heap.size < w7.heap.size := (Txv_7.out w7 (Below.refl _ _)).lt
  have xxg_0 := (Txg_7.out w7 (Below.refl _ _)).at_ (i := 0) rfl
  have xxg_1 := (Txg_7.out w7 (Below.refl _ _)).at_ (i := 1) rfl
  have xxg_2 := (Txg_7.out w7 (Below.refl _ _)).at_ (i := 2) rfl
  have xxg_l : w2.heap.size < w7.heap.size := (Txg_7.out w7 (Below.refl _ _)).lt
  have xxh_0 := (Txh_7.out w7 (Below.refl _ _)).at_ (i := 0) rfl
  have xxh_1 := (Txh_7.out w7 (Below.refl _ _)).at_ (i := 1) rfl
  have xxh_2 := (Txh_7.out w7 (Below.refl _ _)).at_ (i := 2) rfl
  have xxh_l : w6.heap.size < w7.heap.size := (Txh_7.out w7 (Below.refl _ _)).lt
  go_wp2_with fail
  clear xxv_0 xxv_1 xxv_2 xxv_l xxg_0 xxg_1 xxg_2 xxg_l xxh_0 xxh_1 xxh_2 xxh_l
  refine (heldScheme_any P Ag Og N cg MO dg LL 1 _ (by omega) BL.out (by omega) (by omega) (Tg_7.out _ (by first | exact Below.refl _ _ | go_grown | exact Below.drew (by go_grown))).mat (Tg_7.out _ (by first | exact Below.refl _ _ | go_grown | exact Below.drew (by go_grown))).ints).mono ?_
  rintro e w8 ⟨rfl, hb8⟩
  have hc8 : Below w7.heap.size w7 w8 := up' (by first | exact Below.refl _ _ | go_grown | exact Below.drew (by go_grown)) hb8
  have B8 : Below w.heap.size w w8 := up' B7 hc8
  have z8 : w7.heap.size ≤ w8.heap.size := hc8.size
  have Tv_8 := hide (fun (W : World) (hb : Below w8.heap.size w8 W) => Tv_7.out W (up' hc8 hb))
  clear Tv_7
  have Txv_8 := hide (fun (W : World) (hb : Below w8.heap.size w8 W) => Txv_7.out W (up' hc8 hb))
  clear Txv_7
  have Tg_8 := hide (fun (W : World) (hb : Below w8.heap.size w8 W) => Tg_7.out W (up' hc8 hb))
  clear Tg_7
  have Txg_8 := hide (fun (W : World) (hb : Below w8.heap.size w8 W) => Txg_7.out W (up' hc8 hb))
  clear Txg_7
  have Th_8 := hide (fun (W : World) (hb : Below w8.heap.size w8 W) => Th_7.out W (up' hc8 hb))
  clear Th_7
  have Txh_8 := hide (fun (W : World) (hb : Below w8.heap.size w8 W) => Txh_7.out W (up' hc8 hb))
  clear Txh_7
  have xxv_0 := (Txv_8.out w8 (Below.refl _ _)).at_ (i := 0) rfl
  have xxv_1 := (Txv_8.out w8 (Below.refl _ _)).at_ (i := 1) rfl
  have xxv_2 := (Txv_8.out w8 (Below.refl _ _)).at_ (i := 2) rfl
  have xxv_l : w1.heap.size < w8.heap.size := (Txv_8.out w8 (Below.refl _ _)).lt
  have xxg_0 := (Txg_8.out w8 (Below.refl _ _)).at_ (i := 0) rfl
  have xxg_1 := (Txg_8.out w8 (Below.refl _ _)).at_ (i := 1) rfl
  have xxg_2 := (Txg_8.out w8 (Below.refl _ _)).at_ (i := 2) rfl
  have xxg_l : w2.heap.size < w8.heap.size := (Txg_8.out w8 (Below.refl _ _)).lt
  have xxh_0 := (Txh_8.out w8 (Below.refl _ _)).at_ (i := 0) rfl
  have xxh_1 := (Txh_8.out w8 (Below.refl _ _)).at_ (i := 1) rfl
  have xxh_2 := (Txh_8.out w8 (Below.refl _ _)).at_ (i := 2) rfl
  have xxh_l : w6.heap.size < w8.heap.size := (Txh_8.out w8 (Below.refl _ _)).lt
  go_wp2_with fail
  clear xxv_0 xxv_1 xxv_2 xxv_l xxg_0 xxg_1 xxg_2 xxg_l xxh_0 xxh_1 xxh_2 xxh_l
  go_ret
  exact ⟨rfl, B8⟩
end Go.Proofs.Ythafmoofemfdmaa
