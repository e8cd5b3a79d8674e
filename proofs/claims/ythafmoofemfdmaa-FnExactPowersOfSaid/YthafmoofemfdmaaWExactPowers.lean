/-
  FnExactPowersOf returns true for all arguments: the walk. Conditions: none.
-/
import Derived.Test.YthafmoofemfdmaaPowersI
namespace Go.Proofs.Ythafmoofemfdmaa
open Go.RowKit

theorem pw_bdd (p : Int) (m : Nat) (f : Nat → Int) (k : Int) : pwN p m f k ≤ 1000 ∧ ∀ i, i < pwN p m f k → (fun _ : Nat => m) i ≤ 1000 := by
  unfold pwN
  cases h : pwOk p m f k
  · simp
  · have h2 := pw_ok h
    simp only [if_true]
    exact ⟨by omega, fun _ _ => by omega⟩
theorem PowXS (p : Int) (A0 : Option Addr) (m c0 : Nat) (f : Nat → Int) (k : Int) (w : World) (hm : m ≤ 1048576 ∧ m ≤ c0 ∧ c0 ≤ 9223372036854775807) (h : Ints w w.heap.size A0 m f) :
    Calls Try.prog 49 #[.int .i64 p, .slice A0 m c0, .int .i64 k] w fun e w' => ∃ A c, e = .returned (.tuple #[.agg #[.int .i64 (pwP p m f k), .slice A (pwN p m f k) c], .bool (pwOk p m f k)]) ∧ MT w' w.heap.size w'.heap.size A (pwN p m f k) (fun _ => m) (pwM p f) ∧ Below w.heap.size w w' :=
  (PowersOfS_any p A0 m c0 f k w hm h).mono fun _ _ h => h
theorem PowXI (p : Int) (A0 : Option Addr) (m c0 : Nat) (f : Nat → Int) (k : Int) (w : World) (hm : m ≤ 1048576 ∧ m ≤ c0 ∧ c0 ≤ 9223372036854775807) (h : Ints w w.heap.size A0 m f) :
    Calls Try.prog 51 #[.int .i64 p, .slice A0 m c0, .int .i64 k] w fun e w' => ∃ A c, e = .returned (.tuple #[.agg #[.int .i64 (pwP p m f k), .slice A (pwN p m f k) c], .bool (pwOk p m f k)]) ∧ MT w' w.heap.size w'.heap.size A (pwN p m f k) (fun _ => m) (pwM p f) ∧ Below w.heap.size w w' :=
  (PowersOfI_any p A0 m c0 f k w hm h).mono fun _ _ h => h
set_option maxHeartbeats 4000000 in
set_option maxRecDepth 100000 in
theorem fnExactPowersOf_walk (a0 : Int) (A1 : Option Addr) (n1 c1 : Nat) (z1 : List Int) (a2 : Int) (w : World) (_w0 : (Lit.int .i64 a0).wf = true) (h1 : IsRow .i64 w A1 n1 c1 z1) (_w2 : (Lit.int .i64 a2).wf = true) :
    Calls Try.prog 13 #[.int .i64 a0, .slice A1 n1 c1, .int .i64 a2] w fun e w' => e = .returned (.bool true) ∧ Below w.heap.size w w' := by
  clear _w0
  obtain ⟨r1, hn1⟩ := ints_in h1
  clear h1
  generalize (fun i => z1.getD i 0) = f1 at r1
  have R1 := hide (fun (W : World) (hb : Below w.heap.size w W) => r1.keep hb hb.size)
  clear r1
  clear _w2
  by_cases hs1 : 1048576 < n1
  · go_enter Try.func13, Try.ntmps13
    go_wp2_with fail
    go_ret
    exact ⟨rfl, by go_grown⟩
  have S := hide (fun (b1 : Option Addr) (W : World) (q1 : Ints W W.heap.size b1 n1 f1) => PowXS a0 b1 n1 n1 f1 a2 W (by omega) q1)
  have I := hide (fun (b1 : Option Addr) (W : World) (q1 : Ints W W.heap.size b1 n1 f1) => PowXI a0 b1 n1 n1 f1 a2 W (by omega) q1)
  obtain ⟨bN, bL⟩ := pw_bdd a0 n1 f1 a2
  generalize pwP a0 n1 f1 a2 = P at S I bN bL
  generalize pwN a0 n1 f1 a2 = N at S I bN bL
  generalize (fun _ : Nat => n1) = LL at S I bN bL
  generalize pwM a0 f1 = MM at S I bN bL
  have BL := hide (fun i (hi : i < N) => Nat.le_trans (bL i hi) (show 1000 ≤ 1048576 by omega))
  have BL3 := hide (fun i (hi : i < N) => Nat.le_trans (bL i hi) (show 1000 ≤ 9223372036854775807 by omega))
  clear bL
  have bT : offs LL N ≤ 1048576000 := by
    have h1 := offs_le BL.out N (Nat.le_refl N)
    omega
  have eP : (P != P) = false := by simp
  generalize pwOk a0 n1 f1 a2 = v1 at S I
  have ev1 : (v1 != v1) = false := by simp
  go_enter Try.func13, Try.ntmps13
  go_wp2_with fail
  refine (toIntS_any A1 n1 c1 f1 _ (by omega) (R1.out _ (up' (Below.refl w.heap.size w) (by first | exact Below.refl _ _ | go_grown | exact Below.drew (by go_grown))))).mono ?_
  rintro e w1 ⟨rfl, m1, hb1, y1⟩
  have hc1 : Below w.heap.size w w1 := up' (by first | exact Below.refl _ _ | go_grown | exact Below.drew (by go_grown)) hb1
  have B1 : Below w.heap.size w w1 := up' (Below.refl w.heap.size w) hc1
  have z1 : w.heap.size ≤ w1.heap.size := hc1.size
  have TM1 : IT w1 (w.heap.size) w1.heap.size (some ⟨w.heap.size, 0, none⟩) n1 f1 := (IT.of_rowIs m1).mono (Nat.le_refl _) m1.lt
  have Ts1_1 := hide (fun (W : World) (hb : Below w1.heap.size w1 W) => (TM1).keepB hb)
  clear m1 y1 TM1
  go_wp2_with fail
  refine (S.out (some ⟨w.heap.size, 0, none⟩) _ (Ts1_1.out _ (by first | exact Below.refl _ _ | go_grown | exact Below.drew (by go_grown))).ints).mono ?_
  rintro e w2 ⟨Av, cv, rfl, m2, hb2⟩
  have hc2 : Below w1.heap.size w1 w2 := up' (by first | exact Below.refl _ _ | go_grown | exact Below.drew (by go_grown)) hb2
  have B2 : Below w.heap.size w w2 := up' B1 hc2
  have z2 : w1.heap.size ≤ w2.heap.size := hc2.size
  have Ts1_2 := hide (fun (W : World) (hb : Below w2.heap.size w2 W) => Ts1_1.out W (up' hc2 hb))
  clear Ts1_1
  have Tv_2 := hide (fun (W : World) (hb : Below w2.heap.size w2 W) => (m2).keepB hb)
  clear m2
  go_wp2_with fail
  refine (toIntS_any A1 n1 c1 f1 _ (by omega) (R1.out _ (up' B2 (by first | exact Below.refl _ _ | go_grown | exact Below.drew (by go_grown))))).mono ?_
  rintro e w3 ⟨rfl, m3, hb3, y3⟩
  simp only [World.size_alloc] at m3
  have hc3 : Below w2.heap.size w2 w3 := up' (by first | exact Below.refl _ _ | go_grown | exact Below.drew (by go_grown)) hb3
  have B3 : Below w.heap.size w w3 := up' B2 hc3
  have z3 : w2.heap.size ≤ w3.heap.size := hc3.size
  have zz3 : w2.heap.size + 1 ≤ w3.heap.size := by have := hb3.size; simp at this; omega
  have Tv_3 := hide (fun (W : World) (hb : Below w3.heap.size w3 W) => Tv_2.out W (up' hc3 hb))
  clear Tv_2
  have Xxv : Blk w3 (w2.heap.size) 58 #[.int .i64 P, .slice Av N cv] := Blk.below (Blk.newAt (by simp) 58 #[.int .i64 P, .slice Av N cv]) hb3 (by simp; try omega)
  have Txv_3 := hide (fun (W : World) (hb : Below w3.heap.size w3 W) => Blk.below (Xxv) hb (Blk.lt (Xxv)))
  clear Xxv
  have TM3 : IT w3 (w2.heap.size + 1) w3.heap.size (some ⟨w2.heap.size + 1, 0, none⟩) n1 f1 := (IT.of_rowIs m3).mono (Nat.le_refl _) m3.lt
  have Tx1_3 := hide (fun (W : World) (hb : Below w3.heap.size w3 W) => (TM3).keepB hb)
  clear m3 y3 TM3
  have xxv_0 := (Txv_3.out w3 (Below.refl _ _)).at_ (i := 0) rfl
  have xxv_1 := (Txv_3.out w3 (Below.refl _ _)).at_ (i := 1) rfl
  have xxv_l : w2.heap.size < w3.heap.size := (Txv_3.out w3 (Below.refl _ _)).lt
  go_wp2_with fail
  clear xxv_0 xxv_1 xxv_l
  refine (I.out (some ⟨w2.heap.size + 1, 0, none⟩) _ (Tx1_3.out _ (by first | exact Below.refl _ _ | go_grown | exact Below.drew (by go_grown))).ints).mono ?_
  rintro e w4 ⟨Ag, cg, rfl, m4, hb4⟩
  have hc4 : Below w3.heap.size w3 w4 := up' (by first | exact Below.refl _ _ | go_grown | exact Below.drew (by go_grown)) hb4
  have B4 : Below w.heap.size w w4 := up' B3 hc4
  have z4 : w3.heap.size ≤ w4.heap.size := hc4.size
  have Tv_4 := hide (fun (W : World) (hb : Below w4.heap.size w4 W) => Tv_3.out W (up' hc4 hb))
  clear Tv_3
  have Txv_4 := hide (fun (W : World) (hb : Below w4.heap.size w4 W) => Txv_3.out W (up' hc4 hb))
  clear Txv_3
  have Tx1_4 := hide (fun (W : World) (hb : Below w4.heap.size w4 W) => Tx1_3.out W (up' hc4 hb))
  clear Tx1_3
  have Tg_4 := hide (fun (W : World) (hb : Below w4.heap.size w4 W) => (m4).keepB hb)
  clear m4
  have xxv_0 := (Txv_4.out w4 (Below.refl _ _)).at_ (i := 0) rfl
  have xxv_1 := (Txv_4.out w4 (Below.refl _ _)).at_ (i := 1) rfl
  have xxv_l : w2.heap.size < w4.heap.size := (Txv_4.out w4 (Below.refl _ _)).lt
  go_wp2_with fail
  clear xxv_0 xxv_1 xxv_l
  refine (eqCode_any P Ag Av N cg cv LL MM _ (by omega) BL3.out (Tg_4.out _ (by first | exact Below.refl _ _ | go_grown | exact Below.drew (by go_grown))).mat (Tv_4.out _ (by first | exact Below.refl _ _ | go_grown | exact Below.drew (by go_grown))).mat).mono ?_
  rintro e w5 ⟨rfl, hb5⟩
  have hc5 : Below w4.heap.size w4 w5 := up' (by first | exact Below.refl _ _ | go_grown | exact Below.drew (by go_grown)) hb5
  have B5 : Below w.heap.size w w5 := up' B4 hc5
  have z5 : w4.heap.size ≤ w5.heap.size := hc5.size
  have zz5 : w4.heap.size + 1 ≤ w5.heap.size := by have := hb5.size; simp at this; omega
  have Tv_5 := hide (fun (W : World) (hb : Below w5.heap.size w5 W) => Tv_4.out W (up' hc5 hb))
  clear Tv_4
  have Txv_5 := hide (fun (W : World) (hb : Below w5.heap.size w5 W) => Txv_4.out W (up' hc5 hb))
  clear Txv_4
  have Tx1_5 := hide (fun (W : World) (hb : Below w5.heap.size w5 W) => Tx1_4.out W (up' hc5 hb))
  clear Tx1_4
  have Tg_5 := hide (fun (W : World) (hb : Below w5.heap.size w5 W) => Tg_4.out W (up' hc5 hb))
  clear Tg_4
  have Xxg : Blk w5 (w4.heap.size) 58 #[.int .i64 P, .slice Ag N cg] := Blk.below (Blk.newAt (by simp) 58 #[.int .i64 P, .slice Ag N cg]) hb5 (by simp; try omega)
  have Txg_5 := hide (fun (W : World) (hb : Below w5.heap.size w5 W) => Blk.below (Xxg) hb (Blk.lt (Xxg)))
  clear Xxg
  have xxv_0 := (Txv_5.out w5 (Below.refl _ _)).at_ (i := 0) rfl
  have xxv_1 := (Txv_5.out w5 (Below.refl _ _)).at_ (i := 1) rfl
  have xxv_l : w2.heap.size < w5.heap.size := (Txv_5.out w5 (Below.refl _ _)).lt
  have xxg_0 := (Txg_5.out w5 (Below.refl _ _)).at_ (i := 0) rfl
  have xxg_1 := (Txg_5.out w5 (Below.refl _ _)).at_ (i := 1) rfl
  have xxg_l : w4.heap.size < w5.heap.size := (Txg_5.out w5 (Below.refl _ _)).lt
  go_wp2_with fail
  clear xxv_0 xxv_1 xxv_l xxg_0 xxg_1 xxg_l
  refine (toIntS_any A1 n1 c1 f1 _ (by omega) (R1.out _ (up' B5 (by first | exact Below.refl _ _ | go_grown | exact Below.drew (by go_grown))))).mono ?_
  rintro e w6 ⟨rfl, m6, hb6, y6⟩
  have hc6 : Below w5.heap.size w5 w6 := up' (by first | exact Below.refl _ _ | go_grown | exact Below.drew (by go_grown)) hb6
  have B6 : Below w.heap.size w w6 := up' B5 hc6
  have z6 : w5.heap.size ≤ w6.heap.size := hc6.size
  have Tv_6 := hide (fun (W : World) (hb : Below w6.heap.size w6 W) => Tv_5.out W (up' hc6 hb))
  clear Tv_5
  have Txv_6 := hide (fun (W : World) (hb : Below w6.heap.size w6 W) => Txv_5.out W (up' hc6 hb))
  clear Txv_5
  have Tx1_6 := hide (fun (W : World) (hb : Below w6.heap.size w6 W) => Tx1_5.out W (up' hc6 hb))
  clear Tx1_5
  have Tg_6 := hide (fun (W : World) (hb : Below w6.heap.size w6 W) => Tg_5.out W (up' hc6 hb))
  clear Tg_5
  have Txg_6 := hide (fun (W : World) (hb : Below w6.heap.size w6 W) => Txg_5.out W (up' hc6 hb))
  clear Txg_5
  have TM6 : IT w6 (w5.heap.size) w6.heap.size (some ⟨w5.heap.size, 0, none⟩) n1 f1 := (IT.of_rowIs m6).mono (Nat.le_refl _) m6.lt
  have Ty1_6 := hide (fun (W : World) (hb : Below w6.heap.size w6 W) => (TM6).keepB hb)
  clear m6 y6 TM6
  have xxv_0 := (Txv_6.out w6 (Below.refl _ _)).at_ (i := 0) rfl
  have xxv_1 := (Txv_6.out w6 (Below.refl _ _)).at_ (i := 1) rfl
  have xxv_l : w2.heap.size < w6.heap.size := (Txv_6.out w6 (Below.refl _ _)).lt
  have xxg_0 := (Txg_6.out w6 (Below.refl _ _)).at_ (i := 0) rfl
  have xxg_1 := (Txg_6.out w6 (Below.refl _ _)).at_ (i := 1) rfl
  have xxg_l : w4.heap.size < w6.heap.size := (Txg_6.out w6 (Below.refl _ _)).lt
  go_wp2_with fail
  clear xxv_0 xxv_1 xxv_l xxg_0 xxg_1 xxg_l
  refine (eqIntS_b (some ⟨w2.heap.size + 1, 0, none⟩) (some ⟨w5.heap.size, 0, none⟩) n1 n1 n1 f1 _ (by omega) (Tx1_6.out _ (by first | exact Below.refl _ _ | go_grown | exact Below.drew (by go_grown))).ints (Ty1_6.out _ (by first | exact Below.refl _ _ | go_grown | exact Below.drew (by go_grown))).ints).mono ?_
  rintro e w7 ⟨rfl, hb7⟩
  have hc7 : Below w6.heap.size w6 w7 := up' (by first | exact Below.refl _ _ | go_grown | exact Below.drew (by go_grown)) hb7
  have B7 : Below w.heap.size w w7 := up' B6 hc7
  have z7 : w6.heap.size ≤ w7.heap.size := hc7.size
  have Tv_7 := hide (fun (W : World) (hb : Below w7.heap.size w7 W) => Tv_6.out W (up' hc7 hb))
  clear Tv_6
  have Txv_7 := hide (fun (W : World) (hb : Below w7.heap.size w7 W) => Txv_6.out W (up' hc7 hb))
  clear Txv_6
  have Tx1_7 := hide (fun (W : World) (hb : Below w7.heap.size w7 W) => Tx1_6.out W (up' hc7 hb))
  clear Tx1_6
  have Tg_7 := hide (fun (W : World) (hb : Below w7.heap.size w7 W) => Tg_6.out W (up' hc7 hb))
  clear Tg_6
  have Txg_7 := hide (fun (W : World) (hb : Below w7.heap.size w7 W) => Txg_6.out W (up' hc7 hb))
  clear Txg_6
  have xxv_0 := (Txv_7.out w7 (Below.refl _ _)).at_ (i := 0) rfl
  have xxv_1 := (Txv_7.out w7 (Below.refl _ _)).at_ (i := 1) rfl
  have xxv_l : w2.heap.size < w7.heap.size := (Txv_7.out w7 (Below.refl _ _)).lt
  have xxg_0 := (Txg_7.out w7 (Below.refl _ _)).at_ (i := 0) rfl
  have xxg_1 := (Txg_7.out w7 (Below.refl _ _)).at_ (i := 1) rfl
  have xxg_l : w4.heap.size < w7.heap.size := (Txg_7.out w7 (Below.refl _ _)).lt
  go_wp2_with fail
  clear xxv_0 xxv_1 xxv_l xxg_0 xxg_1 xxg_l
  refine (markI_any (some ⟨w2.heap.size + 1, 0, none⟩) n1 n1 (w2.heap.size + 1) (w3.heap.size) f1 _ _ (by omega) (by omega) (Tx1_7.out _ (by first | exact Below.refl _ _ | go_grown | exact Below.drew (by go_grown)))).mono ?_
  rintro e w8 ⟨rfl, m8, oa8, y8⟩
  have ho8 : Outside (w2.heap.size + 1) (w3.heap.size) w7 w8 := oa8.outside (Tx1_7.out w7 (Below.refl _ _))
  clear oa8 y8 m8
  have z8 : w7.heap.size ≤ w8.heap.size := ho8.size
  have B8 : Below w.heap.size w w8 := B7.trans (ho8.below (by have := B7.size; omega) B7.size)
  have Yv := (Tv_7.out w7 (Below.refl _ _)).keep ho8 (by omega)
  have Tv_8 := hide (fun (W : World) (hb : Below w8.heap.size w8 W) => Yv.keepB hb)
  clear Yv Tv_7
  have Yxv := Blk.keepO (Txv_7.out w7 (Below.refl _ _)) ho8 (by omega)
  have Txv_8 := hide (fun (W : World) (hb : Below w8.heap.size w8 W) => Blk.below Yxv hb Yxv.lt)
  clear Yxv Txv_7
  clear Tx1_7
  have Yg := (Tg_7.out w7 (Below.refl _ _)).keep ho8 (by omega)
  have Tg_8 := hide (fun (W : World) (hb : Below w8.heap.size w8 W) => Yg.keepB hb)
  clear Yg Tg_7
  have Yxg := Blk.keepO (Txg_7.out w7 (Below.refl _ _)) ho8 (by omega)
  have Txg_8 := hide (fun (W : World) (hb : Below w8.heap.size w8 W) => Blk.below Yxg hb Yxg.lt)
  clear Yxg Txg_7
  have xxv_0 := (Txv_8.out w8 (Below.refl _ _)).at_ (i := 0) rfl
  have xxv_1 := (Txv_8.out w8 (Below.refl _ _)).at_ (i := 1) rfl
  have xxv_l : w2.heap.size < w8.heap.size := (Txv_8.out w8 (Below.refl _ _)).lt
  have xxg_0 := (Txg_8.out w8 (Below.refl _ _)).at_ (i := 0) rfl
  have xxg_1 := (Txg_8.out w8 (Below.refl _ _)).at_ (i := 1) rfl
  have xxg_l : w4.heap.size < w8.heap.size := (Txg_8.out w8 (Below.refl _ _)).lt
  go_wp2_with fail
  clear xxv_0 xxv_1 xxv_l xxg_0 xxg_1 xxg_l
  refine (eqCode_any P Ag Av N cg cv LL MM _ (by omega) BL3.out (Tg_8.out _ (by first | exact Below.refl _ _ | go_grown | exact Below.drew (by go_grown))).mat (Tv_8.out _ (by first | exact Below.refl _ _ | go_grown | exact Below.drew (by go_grown))).mat).mono ?_
  rintro e w9 ⟨rfl, hb9⟩
  have hc9 : Below w8.heap.size w8 w9 := up' (by first | exact Below.refl _ _ | go_grown | exact Below.drew (by go_grown)) hb9
  have B9 : Below w.heap.size w w9 := up' B8 hc9
  have z9 : w8.heap.size ≤ w9.heap.size := hc9.size
  have Tv_9 := hide (fun (W : World) (hb : Below w9.heap.size w9 W) => Tv_8.out W (up' hc9 hb))
  clear Tv_8
  have Txv_9 := hide (fun (W : World) (hb : Below w9.heap.size w9 W) => Txv_8.out W (up' hc9 hb))
  clear Txv_8
  have Tg_9 := hide (fun (W : World) (hb : Below w9.heap.size w9 W) => Tg_8.out W (up' hc9 hb))
  clear Tg_8
  have Txg_9 := hide (fun (W : World) (hb : Below w9.heap.size w9 W) => Txg_8.out W (up' hc9 hb))
  clear Txg_8
  have xxv_0 := (Txv_9.out w9 (Below.refl _ _)).at_ (i := 0) rfl
  have xxv_1 := (Txv_9.out w9 (Below.refl _ _)).at_ (i := 1) rfl
  have xxv_l : w2.heap.size < w9.heap.size := (Txv_9.out w9 (Below.refl _ _)).lt
  have xxg_0 := (Txg_9.out w9 (Below.refl _ _)).at_ (i := 0) rfl
  have xxg_1 := (Txg_9.out w9 (Below.refl _ _)).at_ (i := 1) rfl
  have xxg_l : w4.heap.size < w9.heap.size := (Txg_9.out w9 (Below.refl _ _)).lt
  go_wp2_with fail
  clear xxv_0 xxv_1 xxv_l xxg_0 xxg_1 xxg_l
  refine (markCode_any P Ag N cg (w3.heap.size) (w4.heap.size) LL MM _ _ (by omega) BL.out (by omega) (Tg_9.out _ (by first | exact Below.refl _ _ | go_grown | exact Below.drew (by go_grown)))).mono ?_
  rintro e w10 ⟨rfl, m10, ho10⟩
  have z10 : w9.heap.size ≤ w10.heap.size := ho10.size
  have B10 : Below w.heap.size w w10 := B9.trans (ho10.below (by have := B9.size; omega) B9.size)
  have Yv := (Tv_9.out w9 (Below.refl _ _)).keep ho10 (by omega)
  have Tv_10 := hide (fun (W : World) (hb : Below w10.heap.size w10 W) => Yv.keepB hb)
  clear Yv Tv_9
  have Yxv := Blk.keepO (Txv_9.out w9 (Below.refl _ _)) ho10 (by omega)
  have Txv_10 := hide (fun (W : World) (hb : Below w10.heap.size w10 W) => Blk.below Yxv hb Yxv.lt)
  clear Yxv Txv_9
  clear Tg_9
  have Yxg := Blk.keepO (Txg_9.out w9 (Below.refl _ _)) ho10 (by omega)
  have Txg_10 := hide (fun (W : World) (hb : Below w10.heap.size w10 W) => Blk.below Yxg hb Yxg.lt)
  clear Yxg Txg_9
  have Tg_10 := hide (fun (W : World) (hb : Below w10.heap.size w10 W) => (m10).keepB hb)
  clear m10
  have xxv_0 := (Txv_10.out w10 (Below.refl _ _)).at_ (i := 0) rfl
  have xxv_1 := (Txv_10.out w10 (Below.refl _ _)).at_ (i := 1) rfl
  have xxv_l : w2.heap.size < w10.heap.size := (Txv_10.out w10 (Below.refl _ _)).lt
  have xxg_0 := (Txg_10.out w10 (Below.refl _ _)).at_ (i := 0) rfl
  have xxg_1 := (Txg_10.out w10 (Below.refl _ _)).at_ (i := 1) rfl
  have xxg_l : w4.heap.size < w10.heap.size := (Txg_10.out w10 (Below.refl _ _)).lt
  go_wp2_with fail
  clear xxv_0 xxv_1 xxv_l xxg_0 xxg_1 xxg_l
  have hq : ((1 : Int) + (offs LL N : Int) != 1 + (offs LL N : Int)) = false := by simp
  refine (heldCode_any P Ag N cg LL 1 _ (by omega) BL.out (by omega) (Tg_10.out _ (by first | exact Below.refl _ _ | go_grown | exact Below.drew (by go_grown))).mat).mono ?_
  rintro e w11 ⟨rfl, hb11⟩
  have hc11 : Below w10.heap.size w10 w11 := up' (by first | exact Below.refl _ _ | go_grown | exact Below.drew (by go_grown)) hb11
  have B11 : Below w.heap.size w w11 := up' B10 hc11
  have z11 : w10.heap.size ≤ w11.heap.size := hc11.size
  have Tv_11 := hide (fun (W : World) (hb : Below w11.heap.size w11 W) => Tv_10.out W (up' hc11 hb))
  clear Tv_10
  have Txv_11 := hide (fun (W : World) (hb : Below w11.heap.size w11 W) => Txv_10.out W (up' hc11 hb))
  clear Txv_10
  have Tg_11 := hide (fun (W : World) (hb : Below w11.heap.size w11 W) => Tg_10.out W (up' hc11 hb))
  clear Tg_10
  have Txg_11 := hide (fun (W : World) (hb : Below w11.heap.size w11 W) => Txg_10.out W (up' hc11 hb))
  clear Txg_10
  have xxv_0 := (Txv_11.out w11 (Below.refl _ _)).at_ (i := 0) rfl
  have xxv_1 := (Txv_11.out w11 (Below.refl _ _)).at_ (i := 1) rfl
  have xxv_l : w2.heap.size < w11.heap.size := (Txv_11.out w11 (Below.refl _ _)).lt
  have xxg_0 := (Txg_11.out w11 (Below.refl _ _)).at_ (i := 0) rfl
  have xxg_1 := (Txg_11.out w11 (Below.refl _ _)).at_ (i := 1) rfl
  have xxg_l : w4.heap.size < w11.heap.size := (Txg_11.out w11 (Below.refl _ _)).lt
  go_wp2_with fail
  clear xxv_0 xxv_1 xxv_l xxg_0 xxg_1 xxg_l
  refine (toIntS_any A1 n1 c1 f1 _ (by omega) (R1.out _ (up' B11 (by first | exact Below.refl _ _ | go_grown | exact Below.drew (by go_grown))))).mono ?_
  rintro e w12 ⟨rfl, m12, hb12, y12⟩
  have hc12 : Below w11.heap.size w11 w12 := up' (by first | exact Below.refl _ _ | go_grown | exact Below.drew (by go_grown)) hb12
  have B12 : Below w.heap.size w w12 := up' B11 hc12
  have z12 : w11.heap.size ≤ w12.heap.size := hc12.size
  have Tv_12 := hide (fun (W : World) (hb : Below w12.heap.size w12 W) => Tv_11.out W (up' hc12 hb))
  clear Tv_11
  have Txv_12 := hide (fun (W : World) (hb : Below w12.heap.size w12 W) => Txv_11.out W (up' hc12 hb))
  clear Txv_11
  have Tg_12 := hide (fun (W : World) (hb : Below w12.heap.size w12 W) => Tg_11.out W (up' hc12 hb))
  clear Tg_11
  have Txg_12 := hide (fun (W : World) (hb : Below w12.heap.size w12 W) => Txg_11.out W (up' hc12 hb))
  clear Txg_11
  have TM12 : IT w12 (w11.heap.size) w12.heap.size (some ⟨w11.heap.size, 0, none⟩) n1 f1 := (IT.of_rowIs m12).mono (Nat.le_refl _) m12.lt
  have Tu1_12 := hide (fun (W : World) (hb : Below w12.heap.size w12 W) => (TM12).keepB hb)
  clear m12 y12 TM12
  have xxv_0 := (Txv_12.out w12 (Below.refl _ _)).at_ (i := 0) rfl
  have xxv_1 := (Txv_12.out w12 (Below.refl _ _)).at_ (i := 1) rfl
  have xxv_l : w2.heap.size < w12.heap.size := (Txv_12.out w12 (Below.refl _ _)).lt
  have xxg_0 := (Txg_12.out w12 (Below.refl _ _)).at_ (i := 0) rfl
  have xxg_1 := (Txg_12.out w12 (Below.refl _ _)).at_ (i := 1) rfl
  have xxg_l : w4.heap.size < w12.heap.size := (Txg_12.out w12 (Below.refl _ _)).lt
  go_wp2_with fail
  clear xxv_0 xxv_1 xxv_l xxg_0 xxg_1 xxg_l
  refine (I.out (some ⟨w11.heap.size, 0, none⟩) _ (Tu1_12.out _ (by first | exact Below.refl _ _ | go_grown | exact Below.drew (by go_grown))).ints).mono ?_
  rintro e w13 ⟨Ah, ch, rfl, m13, hb13⟩
  have hc13 : Below w12.heap.size w12 w13 := up' (by first | exact Below.refl _ _ | go_grown | exact Below.drew (by go_grown)) hb13
  have B13 : Below w.heap.size w w13 := up' B12 hc13
  have z13 : w12.heap.size ≤ w13.heap.size := hc13.size
  have Tv_13 := hide (fun (W : World) (hb : Below w13.heap.size w13 W) => Tv_12.out W (up' hc13 hb))
  clear Tv_12
  have Txv_13 := hide (fun (W : World) (hb : Below w13.heap.size w13 W) => Txv_12.out W (up' hc13 hb))
  clear Txv_12
  have Tg_13 := hide (fun (W : World) (hb : Below w13.heap.size w13 W) => Tg_12.out W (up' hc13 hb))
  clear Tg_12
  have Txg_13 := hide (fun (W : World) (hb : Below w13.heap.size w13 W) => Txg_12.out W (up' hc13 hb))
  clear Txg_12
  have Tu1_13 := hide (fun (W : World) (hb : Below w13.heap.size w13 W) => Tu1_12.out W (up' hc13 hb))
  clear Tu1_12
  have Th_13 := hide (fun (W : World) (hb : Below w13.heap.size w13 W) => (m13).keepB hb)
  clear m13
  have xxv_0 := (Txv_13.out w13 (Below.refl _ _)).at_ (i := 0) rfl
  have xxv_1 := (Txv_13.out w13 (Below.refl _ _)).at_ (i := 1) rfl
  have xxv_l : w2.heap.size < w13.heap.size := (Txv_13.out w13 (Below.refl _ _)).lt
  have xxg_0 := (Txg_13.out w13 (Below.refl _ _)).at_ (i := 0) rfl
  have xxg_1 := (Txg_13.out w13 (Below.refl _ _)).at_ (i := 1) rfl
  have xxg_l : w4.heap.size < w13.heap.size := (Txg_13.out w13 (Below.refl _ _)).lt
  go_wp2_with fail
  clear xxv_0 xxv_1 xxv_l xxg_0 xxg_1 xxg_l
  refine (eqCode_any P Ah Av N ch cv LL MM _ (by omega) BL3.out (Th_13.out _ (by first | exact Below.refl _ _ | go_grown | exact Below.drew (by go_grown))).mat (Tv_13.out _ (by first | exact Below.refl _ _ | go_grown | exact Below.drew (by go_grown))).mat).mono ?_
  rintro e w14 ⟨rfl, hb14⟩
  have hc14 : Below w13.heap.size w13 w14 := up' (by first | exact Below.refl _ _ | go_grown | exact Below.drew (by go_grown)) hb14
  have B14 : Below w.heap.size w w14 := up' B13 hc14
  have z14 : w13.heap.size ≤ w14.heap.size := hc14.size
  have zz14 : w13.heap.size + 1 ≤ w14.heap.size := by have := hb14.size; simp at this; omega
  have Tv_14 := hide (fun (W : World) (hb : Below w14.heap.size w14 W) => Tv_13.out W (up' hc14 hb))
  clear Tv_13
  have Txv_14 := hide (fun (W : World) (hb : Below w14.heap.size w14 W) => Txv_13.out W (up' hc14 hb))
  clear Txv_13
  have Tg_14 := hide (fun (W : World) (hb : Below w14.heap.size w14 W) => Tg_13.out W (up' hc14 hb))
  clear Tg_13
  have Txg_14 := hide (fun (W : World) (hb : Below w14.heap.size w14 W) => Txg_13.out W (up' hc14 hb))
  clear Txg_13
  have Tu1_14 := hide (fun (W : World) (hb : Below w14.heap.size w14 W) => Tu1_13.out W (up' hc14 hb))
  clear Tu1_13
  have Th_14 := hide (fun (W : World) (hb : Below w14.heap.size w14 W) => Th_13.out W (up' hc14 hb))
  clear Th_13
  have Xxh : Blk w14 (w13.heap.size) 58 #[.int .i64 P, .slice Ah N ch] := Blk.below (Blk.newAt (by simp) 58 #[.int .i64 P, .slice Ah N ch]) hb14 (by simp; try omega)
  have Txh_14 := hide (fun (W : World) (hb : Below w14.heap.size w14 W) => Blk.below (Xxh) hb (Blk.lt (Xxh)))
  clear Xxh
  have xxv_0 := (Txv_14.out w14 (Below.refl _ _)).at_ (i := 0) rfl
  have xxv_1 := (Txv_14.out w14 (Below.refl _ _)).at_ (i := 1) rfl
  have xxv_l : w2.heap.size < w14.heap.size := (Txv_14.out w14 (Below.refl _ _)).lt
  have xxg_0 := (Txg_14.out w14 (Below.refl _ _)).at_ (i := 0) rfl
  have xxg_1 := (Txg_14.out w14 (Below.refl _ _)).at_ (i := 1) rfl
  have xxg_l : w4.heap.size < w14.heap.size := (Txg_14.out w14 (Below.refl _ _)).lt
  have xxh_0 := (Txh_14.out w14 (Below.refl _ _)).at_ (i := 0) rfl
  have xxh_1 := (Txh_14.out w14 (Below.refl _ _)).at_ (i := 1) rfl
  have xxh_l : w13.heap.size < w14.heap.size := (Txh_14.out w14 (Below.refl _ _)).lt
  go_wp2_with fail
  clear xxv_0 xxv_1 xxv_l xxg_0 xxg_1 xxg_l xxh_0 xxh_1 xxh_l
  refine (heldCode_any P Ag N cg LL 1 _ (by omega) BL.out (by omega) (Tg_14.out _ (by first | exact Below.refl _ _ | go_grown | exact Below.drew (by go_grown))).mat).mono ?_
  rintro e w15 ⟨rfl, hb15⟩
  have hc15 : Below w14.heap.size w14 w15 := up' (by first | exact Below.refl _ _ | go_grown | exact Below.drew (by go_grown)) hb15
  have B15 : Below w.heap.size w w15 := up' B14 hc15
  have z15 : w14.heap.size ≤ w15.heap.size := hc15.size
  have Tv_15 := hide (fun (W : World) (hb : Below w15.heap.size w15 W) => Tv_14.out W (up' hc15 hb))
  clear Tv_14
  have Txv_15 := hide (fun (W : World) (hb : Below w15.heap.size w15 W) => Txv_14.out W (up' hc15 hb))
  clear Txv_14
  have Tg_15 := hide (fun (W : World) (hb : Below w15.heap.size w15 W) => Tg_14.out W (up' hc15 hb))
  clear Tg_14
  have Txg_15 := hide (fun (W : World) (hb : Below w15.heap.size w15 W) => Txg_14.out W (up' hc15 hb))
  clear Txg_14
  have Tu1_15 := hide (fun (W : World) (hb : Below w15.heap.size w15 W) => Tu1_14.out W (up' hc15 hb))
  clear Tu1_14
  have Th_15 := hide (fun (W : World) (hb : Below w15.heap.size w15 W) => Th_14.out W (up' hc15 hb))
  clear Th_14
  have Txh_15 := hide (fun (W : World) (hb : Below w15.heap.size w15 W) => Txh_14.out W (up' hc15 hb))
  clear Txh_14
  have xxv_0 := (Txv_15.out w15 (Below.refl _ _)).at_ (i := 0) rfl
  have xxv_1 := (Txv_15.out w15 (Below.refl _ _)).at_ (i := 1) rfl
  have xxv_l : w2.heap.size < w15.heap.size := (Txv_15.out w15 (Below.refl _ _)).lt
  have xxg_0 := (Txg_15.out w15 (Below.refl _ _)).at_ (i := 0) rfl
  have xxg_1 := (Txg_15.out w15 (Below.refl _ _)).at_ (i := 1) rfl
  have xxg_l : w4.heap.size < w15.heap.size := (Txg_15.out w15 (Below.refl _ _)).lt
  have xxh_0 := (Txh_15.out w15 (Below.refl _ _)).at_ (i := 0) rfl
  have xxh_1 := (Txh_15.out w15 (Below.refl _ _)).at_ (i := 1) rfl
  have xxh_l : w13.heap.size < w15.heap.size := (Txh_15.out w15 (Below.refl _ _)).lt
  go_wp2_with fail
  clear xxv_0 xxv_1 xxv_l xxg_0 xxg_1 xxg_l xxh_0 xxh_1 xxh_l
  go_ret
  exact ⟨rfl, B15⟩
end Go.Proofs.Ythafmoofemfdmaa
