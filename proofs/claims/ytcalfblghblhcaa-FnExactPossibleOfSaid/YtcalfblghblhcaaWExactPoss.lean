/-
  FnExactPossibleOf returns true for all arguments: the walk. Conditions: none.
-/
import Derived.Test.YtcalfblghblhcaaPossS
import Derived.Test.YtcalfblghblhcaaPossI
import Derived.Test.YtcalfblghblhcaaStruct2
namespace Go.Proofs.Ytcalfblghblhcaa
open Go.RowKit
theorem ps_bd (p : Int) (n : Nat) (L : Nat → Nat) (M : Nat → Nat → Int) (m : Nat) (f : Nat → Int) (n1 : Nat) (g : Nat → Int) (s : Int) : posN p n L M m f n1 g s ≤ 1000 := by
  unfold posN
  cases h : posB p n L M m f n1 g s
  · simp
  · have h2 := h
    simp only [posB, askB, Bool.and_eq_true] at h2
    have := (vSch_rows h2.1.1).1.2
    simp; omega
theorem psPost_to {p : Int} {n m n1 : Nat} {L : Nat → Nat} {M : Nat → Nat → Int} {f g : Nat → Int} {s : Int} {w w' : World} {e : Ending} (h : PsPost p n L M m f n1 g s w e w') : ∃ A c, e = .returned (.slice A (posN p n L M m f n1 g s) c) ∧ IT w' w.heap.size w'.heap.size A (posN p n L M m f n1 g s) (posF p n L M f g s) ∧ Below w.heap.size w w' := by
  obtain ⟨A, c, he, hr, hb⟩ := h
  exact ⟨A, c, he, (IT.of_row hr).congr (fun i hi => by simp [List.getD, listOf_get _ hi]), hb⟩
theorem PossS (p : Int) (A : Option Addr) (n c : Nat) (L : Nat → Nat) (M : Nat → Nat → Int) (O : Option Addr) (m e : Nat) (f : Nat → Int) (B : Option Addr) (n1 c1 : Nat) (g : Nat → Int) (s : Int) (w : World) (hn : n ≤ 1048576) (hL : ∀ i, i < n → L i ≤ 1048576) (hm : m ≤ 1048576) (h : Mat w w.heap.size A n L M) (h2 : Ints w w.heap.size O m f) (hn1 : n1 ≤ 1048576) (h3 : Ints w w.heap.size B n1 g) :
    Calls Try.prog 21 #[.agg #[.int .i64 p, .slice A n c, .slice O m e], .slice B n1 c1, .int .i64 s] w fun x w' => ∃ A' c', x = .returned (.slice A' (posN p n L M m f n1 g s) c') ∧ IT w' w.heap.size w'.heap.size A' (posN p n L M m f n1 g s) (posF p n L M f g s) ∧ Below w.heap.size w w' :=
  (PossibleOfS_any p A n c L M O m e f B n1 c1 g s w hn hL hm h h2 hn1 h3).mono fun _ _ h => psPost_to h
theorem PossI (p : Int) (A : Option Addr) (n c : Nat) (L : Nat → Nat) (M : Nat → Nat → Int) (O : Option Addr) (m e : Nat) (f : Nat → Int) (B : Option Addr) (n1 c1 : Nat) (g : Nat → Int) (s : Int) (w : World) (hn : n ≤ 1048576) (hL : ∀ i, i < n → L i ≤ 1048576) (hm : m ≤ 1048576) (h : Mat w w.heap.size A n L M) (h2 : Ints w w.heap.size O m f) (hn1 : n1 ≤ 1048576) (h3 : Ints w w.heap.size B n1 g) :
    Calls Try.prog 19 #[.agg #[.int .i64 p, .slice A n c, .slice O m e], .slice B n1 c1, .int .i64 s] w fun x w' => ∃ A' c', x = .returned (.slice A' (posN p n L M m f n1 g s) c') ∧ IT w' w.heap.size w'.heap.size A' (posN p n L M m f n1 g s) (posF p n L M f g s) ∧ Below w.heap.size w w' :=
  (PossibleOfI_any p A n c L M O m e f B n1 c1 g s w hn hL hm h h2 hn1 h3).mono fun _ _ h => psPost_to h
set_option maxHeartbeats 4000000 in
set_option maxRecDepth 100000 in
theorem fnExactPossibleOf_walk (sp : Int) (A0 : Option Addr) (n0 c0 : Nat) (O0 : Option Addr) (m0 e0 : Nat) (y0 : List Int) (R0 : Nat → Option Addr) (L0 D0 : Nat → Nat) (z0 : Nat → List Int) (A1 : Option Addr) (n1 c1 : Nat) (z1 : List Int) (a2 : Int) (w : World) (_wp : (Lit.int .i64 sp).wf = true) (h0 : IsRows w A0 n0 c0 R0 L0 D0 z0) (g0 : IsRow .i64 w O0 m0 e0 y0) (h1 : IsRow .i64 w A1 n1 c1 z1) (_w2 : (Lit.int .i64 a2).wf = true) :
    Calls Try.prog 5 #[.agg #[.int .i64 sp, .slice A0 n0 c0, .slice O0 m0 e0], .slice A1 n1 c1, .int .i64 a2] w fun e w' => e = .returned (.bool true) ∧ Below w.heap.size w w' := by
  obtain ⟨r0, hn0, hL0⟩ := mat_in h0
  clear h0
  generalize (fun i j => (z0 i).getD j 0) = M0 at r0
  have RR0 := hide (fun (W : World) (hb : Below w.heap.size w W) => r0.keep hb hb.size)
  have HL0 := hide hL0
  clear r0 hL0
  clear _wp
  obtain ⟨q0, hm0⟩ := ints_in g0
  clear g0
  generalize (fun i => y0.getD i 0) = f0 at q0
  have Q0 := hide (fun (W : World) (hb : Below w.heap.size w W) => q0.keep hb hb.size)
  clear q0
  have esp : (sp != sp) = false := by simp
  obtain ⟨r1, hn1⟩ := ints_in h1
  clear h1
  generalize (fun i => z1.getD i 0) = f1 at r1
  have R1 := hide (fun (W : World) (hb : Below w.heap.size w W) => r1.keep hb hb.size)
  clear r1
  clear _w2
  by_cases hs1 : 1048576 < n1
  · go_enter Try.func5, Try.ntmps5
    go_wp2_with fail
    go_ret
    exact ⟨rfl, by go_grown⟩
  go_enter Try.func5, Try.ntmps5
  go_wp2_with fail
  refine (szScheme_any sp A0 O0 n0 c0 m0 e0 L0 M0 _ _ hn0 HL0.out hm0 (by omega) (by omega) (RR0.out _ (up' (Below.refl w.heap.size w) (by first | exact Below.refl _ _ | go_grown | exact Below.drew (by go_grown))))).mono ?_
  rintro e w1 ⟨r, rfl, hr1, hr2, hb1⟩
  have hc1 : Below w.heap.size w w1 := up' (by first | exact Below.refl _ _ | go_grown | exact Below.drew (by go_grown)) hb1
  have B1 : Below w.heap.size w w1 := up' (Below.refl w.heap.size w) hc1
  have z1 : w.heap.size ≤ w1.heap.size := hc1.size
  have zz1 : w.heap.size + 1 ≤ w1.heap.size := by have := hb1.size; simp at this; omega
  have XaS : Blk w1 (w.heap.size) 25 #[.int .i64 sp, .slice A0 n0 c0, .slice O0 m0 e0] := Blk.below (Blk.newAt (by simp) 25 #[.int .i64 sp, .slice A0 n0 c0, .slice O0 m0 e0]) hb1 (by simp; try omega)
  have TaS_1 := hide (fun (W : World) (hb : Below w1.heap.size w1 W) => Blk.below (XaS) hb (Blk.lt (XaS)))
  clear XaS
  by_cases h0 : r < 0
  · clear hr2
    go_wp2_with fail
    go_ret
    exact ⟨rfl, B1⟩
  obtain ⟨hn0, hm0, hL0⟩ := hr2 (by omega)
  clear hr2
  have HL0 := hide hL0
  clear hL0
  have S := hide (fun (b0 : Option Addr × Option Addr) (b1 : Option Addr) (W : World) (q0 : Mat W W.heap.size b0.1 n0 L0 M0) (s0 : Ints W W.heap.size b0.2 m0 f0) (q1 : Ints W W.heap.size b1 n1 f1) => PossS sp b0.1 n0 n0 L0 M0 b0.2 m0 m0 f0 b1 n1 n1 f1 a2 W hn0 HL0.out hm0 q0 s0 (by omega) q1)
  have I := hide (fun (b0 : Option Addr × Option Addr) (b1 : Option Addr) (W : World) (q0 : Mat W W.heap.size b0.1 n0 L0 M0) (s0 : Ints W W.heap.size b0.2 m0 f0) (q1 : Ints W W.heap.size b1 n1 f1) => PossI sp b0.1 n0 n0 L0 M0 b0.2 m0 m0 f0 b1 n1 n1 f1 a2 W hn0 HL0.out hm0 q0 s0 (by omega) q1)
  obtain bN := ps_bd sp n0 L0 M0 m0 f0 n1 f1 a2
  generalize posN sp n0 L0 M0 m0 f0 n1 f1 a2 = N at S I bN
  generalize posF sp n0 L0 M0 f0 f1 a2 = F at S I bN
  have xaS_0 := (TaS_1.out w1 (Below.refl _ _)).at_ (i := 0) rfl
  have xaS_1 := (TaS_1.out w1 (Below.refl _ _)).at_ (i := 1) rfl
  have xaS_2 := (TaS_1.out w1 (Below.refl _ _)).at_ (i := 2) rfl
  have xaS_l : w.heap.size < w1.heap.size := (TaS_1.out w1 (Below.refl _ _)).lt
  go_wp2_with fail
  clear xaS_0 xaS_1 xaS_2 xaS_l
  refine (toScheme_any sp A0 O0 n0 c0 m0 e0 L0 M0 f0 _ hn0 HL0.out hm0 (RR0.out _ (up' B1 (by first | exact Below.refl _ _ | go_grown | exact Below.drew (by go_grown)))) (Q0.out _ (up' B1 (by first | exact Below.refl _ _ | go_grown | exact Below.drew (by go_grown))))).mono ?_
  rintro e w2 ⟨Ps0, Ys0, rfl, m2, hb2⟩
  have hc2 : Below w1.heap.size w1 w2 := up' (by first | exact Below.refl _ _ | go_grown | exact Below.drew (by go_grown)) hb2
  have B2 : Below w.heap.size w w2 := up' B1 hc2
  have z2 : w1.heap.size ≤ w2.heap.size := hc2.size
  have TaS_2 := hide (fun (W : World) (hb : Below w2.heap.size w2 W) => TaS_1.out W (up' hc2 hb))
  clear TaS_1
  have Ts0_2 := hide (fun (W : World) (hb : Below w2.heap.size w2 W) => (m2).keepB hb)
  clear m2
  have xaS_0 := (TaS_2.out w2 (Below.refl _ _)).at_ (i := 0) rfl
  have xaS_1 := (TaS_2.out w2 (Below.refl _ _)).at_ (i := 1) rfl
  have xaS_2 := (TaS_2.out w2 (Below.refl _ _)).at_ (i := 2) rfl
  have xaS_l : w.heap.size < w2.heap.size := (TaS_2.out w2 (Below.refl _ _)).lt
  go_wp2_with fail
  clear xaS_0 xaS_1 xaS_2 xaS_l
  refine (toIntS_any A1 n1 c1 f1 _ (by omega) (R1.out _ (up' B2 (by first | exact Below.refl _ _ | go_grown | exact Below.drew (by go_grown))))).mono ?_
  rintro e w3 ⟨rfl, m3, hb3, y3⟩
  have hc3 : Below w2.heap.size w2 w3 := up' (by first | exact Below.refl _ _ | go_grown | exact Below.drew (by go_grown)) hb3
  have B3 : Below w.heap.size w w3 := up' B2 hc3
  have z3 : w2.heap.size ≤ w3.heap.size := hc3.size
  have TaS_3 := hide (fun (W : World) (hb : Below w3.heap.size w3 W) => TaS_2.out W (up' hc3 hb))
  clear TaS_2
  have Ts0_3 := hide (fun (W : World) (hb : Below w3.heap.size w3 W) => Ts0_2.out W (up' hc3 hb))
  clear Ts0_2
  have TM3 : IT w3 (w2.heap.size) w3.heap.size (some ⟨w2.heap.size, 0, none⟩) n1 f1 := (IT.of_rowIs m3).mono (Nat.le_refl _) m3.lt
  have Ts1_3 := hide (fun (W : World) (hb : Below w3.heap.size w3 W) => (TM3).keepB hb)
  clear m3 y3 TM3
  have xaS_0 := (TaS_3.out w3 (Below.refl _ _)).at_ (i := 0) rfl
  have xaS_1 := (TaS_3.out w3 (Below.refl _ _)).at_ (i := 1) rfl
  have xaS_2 := (TaS_3.out w3 (Below.refl _ _)).at_ (i := 2) rfl
  have xaS_l : w.heap.size < w3.heap.size := (TaS_3.out w3 (Below.refl _ _)).lt
  go_wp2_with fail
  clear xaS_0 xaS_1 xaS_2 xaS_l
  refine (S.out (Ps0, Ys0) (some ⟨w2.heap.size, 0, none⟩) _ (Ts0_3.out _ (by first | exact Below.refl _ _ | go_grown | exact Below.drew (by go_grown))).mat (Ts0_3.out _ (by first | exact Below.refl _ _ | go_grown | exact Below.drew (by go_grown))).ints (Ts1_3.out _ (by first | exact Below.refl _ _ | go_grown | exact Below.drew (by go_grown))).ints).mono ?_
  rintro e w4 ⟨Av, cv, rfl, m4, hb4⟩
  have hc4 : Below w3.heap.size w3 w4 := up' (by first | exact Below.refl _ _ | go_grown | exact Below.drew (by go_grown)) hb4
  have B4 : Below w.heap.size w w4 := up' B3 hc4
  have z4 : w3.heap.size ≤ w4.heap.size := hc4.size
  have TaS_4 := hide (fun (W : World) (hb : Below w4.heap.size w4 W) => TaS_3.out W (up' hc4 hb))
  clear TaS_3
  have Ts0_4 := hide (fun (W : World) (hb : Below w4.heap.size w4 W) => Ts0_3.out W (up' hc4 hb))
  clear Ts0_3
  have Ts1_4 := hide (fun (W : World) (hb : Below w4.heap.size w4 W) => Ts1_3.out W (up' hc4 hb))
  clear Ts1_3
  have Tv_4 := hide (fun (W : World) (hb : Below w4.heap.size w4 W) => (m4).keepB hb)
  clear m4
  have xaS_0 := (TaS_4.out w4 (Below.refl _ _)).at_ (i := 0) rfl
  have xaS_1 := (TaS_4.out w4 (Below.refl _ _)).at_ (i := 1) rfl
  have xaS_2 := (TaS_4.out w4 (Below.refl _ _)).at_ (i := 2) rfl
  have xaS_l : w.heap.size < w4.heap.size := (TaS_4.out w4 (Below.refl _ _)).lt
  go_wp2_with fail
  clear xaS_0 xaS_1 xaS_2 xaS_l
  refine (toScheme_any sp A0 O0 n0 c0 m0 e0 L0 M0 f0 _ hn0 HL0.out hm0 (RR0.out _ (up' B4 (by first | exact Below.refl _ _ | go_grown | exact Below.drew (by go_grown)))) (Q0.out _ (up' B4 (by first | exact Below.refl _ _ | go_grown | exact Below.drew (by go_grown))))).mono ?_
  rintro e w5 ⟨Px0, Yx0, rfl, m5, hb5⟩
  have hc5 : Below w4.heap.size w4 w5 := up' (by first | exact Below.refl _ _ | go_grown | exact Below.drew (by go_grown)) hb5
  have B5 : Below w.heap.size w w5 := up' B4 hc5
  have z5 : w4.heap.size ≤ w5.heap.size := hc5.size
  have TaS_5 := hide (fun (W : World) (hb : Below w5.heap.size w5 W) => TaS_4.out W (up' hc5 hb))
  clear TaS_4
  have Tv_5 := hide (fun (W : World) (hb : Below w5.heap.size w5 W) => Tv_4.out W (up' hc5 hb))
  clear Tv_4
  have Tx0_5 := hide (fun (W : World) (hb : Below w5.heap.size w5 W) => (m5).keepB hb)
  clear m5
  have xaS_0 := (TaS_5.out w5 (Below.refl _ _)).at_ (i := 0) rfl
  have xaS_1 := (TaS_5.out w5 (Below.refl _ _)).at_ (i := 1) rfl
  have xaS_2 := (TaS_5.out w5 (Below.refl _ _)).at_ (i := 2) rfl
  have xaS_l : w.heap.size < w5.heap.size := (TaS_5.out w5 (Below.refl _ _)).lt
  go_wp2_with fail
  clear xaS_0 xaS_1 xaS_2 xaS_l
  refine (toIntS_any A1 n1 c1 f1 _ (by omega) (R1.out _ (up' B5 (by first | exact Below.refl _ _ | go_grown | exact Below.drew (by go_grown))))).mono ?_
  rintro e w6 ⟨rfl, m6, hb6, y6⟩
  simp only [World.size_alloc] at m6
  have hc6 : Below w5.heap.size w5 w6 := up' (by first | exact Below.refl _ _ | go_grown | exact Below.drew (by go_grown)) hb6
  have B6 : Below w.heap.size w w6 := up' B5 hc6
  have z6 : w5.heap.size ≤ w6.heap.size := hc6.size
  have zz6 : w5.heap.size + 1 ≤ w6.heap.size := by have := hb6.size; simp at this; omega
  have TaS_6 := hide (fun (W : World) (hb : Below w6.heap.size w6 W) => TaS_5.out W (up' hc6 hb))
  clear TaS_5
  have Tv_6 := hide (fun (W : World) (hb : Below w6.heap.size w6 W) => Tv_5.out W (up' hc6 hb))
  clear Tv_5
  have Tx0_6 := hide (fun (W : World) (hb : Below w6.heap.size w6 W) => Tx0_5.out W (up' hc6 hb))
  clear Tx0_5
  have Xbx0 : Blk w6 (w5.heap.size) 29 #[.int .i64 sp, .slice Px0 n0 n0, .slice Yx0 m0 m0] := Blk.below (Blk.newAt (by simp) 29 #[.int .i64 sp, .slice Px0 n0 n0, .slice Yx0 m0 m0]) hb6 (by simp; try omega)
  have Tbx0_6 := hide (fun (W : World) (hb : Below w6.heap.size w6 W) => Blk.below (Xbx0) hb (Blk.lt (Xbx0)))
  clear Xbx0
  have TM6 : IT w6 (w5.heap.size + 1) w6.heap.size (some ⟨w5.heap.size + 1, 0, none⟩) n1 f1 := (IT.of_rowIs m6).mono (Nat.le_refl _) m6.lt
  have Tx1_6 := hide (fun (W : World) (hb : Below w6.heap.size w6 W) => (TM6).keepB hb)
  clear m6 y6 TM6
  have xaS_0 := (TaS_6.out w6 (Below.refl _ _)).at_ (i := 0) rfl
  have xaS_1 := (TaS_6.out w6 (Below.refl _ _)).at_ (i := 1) rfl
  have xaS_2 := (TaS_6.out w6 (Below.refl _ _)).at_ (i := 2) rfl
  have xaS_l : w.heap.size < w6.heap.size := (TaS_6.out w6 (Below.refl _ _)).lt
  have xbx0_0 := (Tbx0_6.out w6 (Below.refl _ _)).at_ (i := 0) rfl
  have xbx0_1 := (Tbx0_6.out w6 (Below.refl _ _)).at_ (i := 1) rfl
  have xbx0_2 := (Tbx0_6.out w6 (Below.refl _ _)).at_ (i := 2) rfl
  have xbx0_l : w5.heap.size < w6.heap.size := (Tbx0_6.out w6 (Below.refl _ _)).lt
  go_wp2_with fail
  clear xaS_0 xaS_1 xaS_2 xaS_l xbx0_0 xbx0_1 xbx0_2 xbx0_l
  refine (I.out (Px0, Yx0) (some ⟨w5.heap.size + 1, 0, none⟩) _ (Tx0_6.out _ (by first | exact Below.refl _ _ | go_grown | exact Below.drew (by go_grown))).mat (Tx0_6.out _ (by first | exact Below.refl _ _ | go_grown | exact Below.drew (by go_grown))).ints (Tx1_6.out _ (by first | exact Below.refl _ _ | go_grown | exact Below.drew (by go_grown))).ints).mono ?_
  rintro e w7 ⟨Ag, cg, rfl, m7, hb7⟩
  have hc7 : Below w6.heap.size w6 w7 := up' (by first | exact Below.refl _ _ | go_grown | exact Below.drew (by go_grown)) hb7
  have B7 : Below w.heap.size w w7 := up' B6 hc7
  have z7 : w6.heap.size ≤ w7.heap.size := hc7.size
  have TaS_7 := hide (fun (W : World) (hb : Below w7.heap.size w7 W) => TaS_6.out W (up' hc7 hb))
  clear TaS_6
  have Tv_7 := hide (fun (W : World) (hb : Below w7.heap.size w7 W) => Tv_6.out W (up' hc7 hb))
  clear Tv_6
  have Tx0_7 := hide (fun (W : World) (hb : Below w7.heap.size w7 W) => Tx0_6.out W (up' hc7 hb))
  clear Tx0_6
  have Tbx0_7 := hide (fun (W : World) (hb : Below w7.heap.size w7 W) => Tbx0_6.out W (up' hc7 hb))
  clear Tbx0_6
  have Tx1_7 := hide (fun (W : World) (hb : Below w7.heap.size w7 W) => Tx1_6.out W (up' hc7 hb))
  clear Tx1_6
  have Tg_7 := hide (fun (W : World) (hb : Below w7.heap.size w7 W) => (m7).keepB hb)
  clear m7
  have xaS_0 := (TaS_7.out w7 (Below.refl _ _)).at_ (i := 0) rfl
  have xaS_1 := (TaS_7.out w7 (Below.refl _ _)).at_ (i := 1) rfl
  have xaS_2 := (TaS_7.out w7 (Below.refl _ _)).at_ (i := 2) rfl
  have xaS_l : w.heap.size < w7.heap.size := (TaS_7.out w7 (Below.refl _ _)).lt
  have xbx0_0 := (Tbx0_7.out w7 (Below.refl _ _)).at_ (i := 0) rfl
  have xbx0_1 := (Tbx0_7.out w7 (Below.refl _ _)).at_ (i := 1) rfl
  have xbx0_2 := (Tbx0_7.out w7 (Below.refl _ _)).at_ (i := 2) rfl
  have xbx0_l : w5.heap.size < w7.heap.size := (Tbx0_7.out w7 (Below.refl _ _)).lt
  go_wp2_with fail
  clear xaS_0 xaS_1 xaS_2 xaS_l xbx0_0 xbx0_1 xbx0_2 xbx0_l
  refine (eqIntS_b Ag Av N cg cv F _ (by omega) (Tg_7.out _ (by first | exact Below.refl _ _ | go_grown | exact Below.drew (by go_grown))).ints (Tv_7.out _ (by first | exact Below.refl _ _ | go_grown | exact Below.drew (by go_grown))).ints).mono ?_
  rintro e w8 ⟨rfl, hb8⟩
  have hc8 : Below w7.heap.size w7 w8 := up' (by first | exact Below.refl _ _ | go_grown | exact Below.drew (by go_grown)) hb8
  have B8 : Below w.heap.size w w8 := up' B7 hc8
  have z8 : w7.heap.size ≤ w8.heap.size := hc8.size
  have TaS_8 := hide (fun (W : World) (hb : Below w8.heap.size w8 W) => TaS_7.out W (up' hc8 hb))
  clear TaS_7
  have Tv_8 := hide (fun (W : World) (hb : Below w8.heap.size w8 W) => Tv_7.out W (up' hc8 hb))
  clear Tv_7
  have Tx0_8 := hide (fun (W : World) (hb : Below w8.heap.size w8 W) => Tx0_7.out W (up' hc8 hb))
  clear Tx0_7
  have Tbx0_8 := hide (fun (W : World) (hb : Below w8.heap.size w8 W) => Tbx0_7.out W (up' hc8 hb))
  clear Tbx0_7
  have Tx1_8 := hide (fun (W : World) (hb : Below w8.heap.size w8 W) => Tx1_7.out W (up' hc8 hb))
  clear Tx1_7
  have Tg_8 := hide (fun (W : World) (hb : Below w8.heap.size w8 W) => Tg_7.out W (up' hc8 hb))
  clear Tg_7
  have xaS_0 := (TaS_8.out w8 (Below.refl _ _)).at_ (i := 0) rfl
  have xaS_1 := (TaS_8.out w8 (Below.refl _ _)).at_ (i := 1) rfl
  have xaS_2 := (TaS_8.out w8 (Below.refl _ _)).at_ (i := 2) rfl
  have xaS_l : w.heap.size < w8.heap.size := (TaS_8.out w8 (Below.refl _ _)).lt
  have xbx0_0 := (Tbx0_8.out w8 (Below.refl _ _)).at_ (i := 0) rfl
  have xbx0_1 := (Tbx0_8.out w8 (Below.refl _ _)).at_ (i := 1) rfl
  have xbx0_2 := (Tbx0_8.out w8 (Below.refl _ _)).at_ (i := 2) rfl
  have xbx0_l : w5.heap.size < w8.heap.size := (Tbx0_8.out w8 (Below.refl _ _)).lt
  go_wp2_with fail
  clear xaS_0 xaS_1 xaS_2 xaS_l xbx0_0 xbx0_1 xbx0_2 xbx0_l
  go_cut [46] (fun v wx => v = .bool false ∧ Below w8.heap.size w8 wx)
  case first =>
    have qaS_0 := (TaS_8.out w8 (Below.refl _ _)).at_ (i := 0) rfl
    have qaS_1 := (TaS_8.out w8 (Below.refl _ _)).at_ (i := 1) rfl
    have qaS_2 := (TaS_8.out w8 (Below.refl _ _)).at_ (i := 2) rfl
    have qbx0_0 := (Tbx0_8.out w8 (Below.refl _ _)).at_ (i := 0) rfl
    have qbx0_1 := (Tbx0_8.out w8 (Below.refl _ _)).at_ (i := 1) rfl
    have qbx0_2 := (Tbx0_8.out w8 (Below.refl _ _)).at_ (i := 2) rfl
    go_region_with (first | (go_at_call 13; refine (toScheme_any sp A0 O0 n0 c0 m0 e0 L0 M0 f0 _ hn0 HL0.out hm0 (RR0.out _ (up' B8 (by first | exact Below.refl _ _ | go_grown | exact Below.drew (by go_grown)))) (Q0.out _ (up' B8 (by first | exact Below.refl _ _ | go_grown | exact Below.drew (by go_grown))))).mono ?_; rintro e wr ⟨PY, YY, rfl, my, hby⟩; have hcy : Below w8.heap.size w8 wr := up' (by first | exact Below.refl _ _ | go_grown | exact Below.drew (by go_grown)) hby; have r0 := (Tbx0_8.out wr hcy).at_ (i := 0) rfl; have r1 := (Tbx0_8.out wr hcy).at_ (i := 1) rfl; have r2 := (Tbx0_8.out wr hcy).at_ (i := 2) rfl) | (go_at_call 16; refine (eqScheme_any sp Px0 PY Yx0 YY n0 n0 n0 m0 m0 m0 L0 M0 f0 _ (by omega) (fun i hi => Nat.le_trans (HL0.out i hi) (by omega)) (by omega) (Tx0_8.out _ (by first | exact hcy | exact hcy.drew | exact hcy.drew.drew | exact Below.refl _ _ | exact (Below.refl _ _).drew)).mat my.mat (Tx0_8.out _ (by first | exact hcy | exact hcy.drew | exact hcy.drew.drew | exact Below.refl _ _ | exact (Below.refl _ _).drew)).ints my.ints).mono ?_; rintro e wz ⟨rfl, hbz⟩))
    all_goals (go_wp2_with fail; go_meet; exact ⟨rfl, by first | exact up' hcy hbz | exact (up' hcy hbz).drew | exact up' hcy.drew hbz | exact (up' hcy.drew hbz).drew⟩)
  case rest =>
    obtain ⟨w9, rfl⟩ : ∃ x, x = wc := ⟨_, rfl⟩
    obtain ⟨rfl, hb9⟩ := hcut
    have hc9 : Below w8.heap.size w8 w9 := up' (by first | exact Below.refl _ _ | go_grown | exact Below.drew (by go_grown)) hb9
    have B9 : Below w.heap.size w w9 := up' B8 hc9
    have z9 : w8.heap.size ≤ w9.heap.size := hc9.size
    have TaS_9 := hide (fun (W : World) (hb : Below w9.heap.size w9 W) => TaS_8.out W (up' hc9 hb))
    clear TaS_8
    have Tv_9 := hide (fun (W : World) (hb : Below w9.heap.size w9 W) => Tv_8.out W (up' hc9 hb))
    clear Tv_8
    have Tx0_9 := hide (fun (W : World) (hb : Below w9.heap.size w9 W) => Tx0_8.out W (up' hc9 hb))
    clear Tx0_8
    have Tbx0_9 := hide (fun (W : World) (hb : Below w9.heap.size w9 W) => Tbx0_8.out W (up' hc9 hb))
    clear Tbx0_8
    have Tx1_9 := hide (fun (W : World) (hb : Below w9.heap.size w9 W) => Tx1_8.out W (up' hc9 hb))
    clear Tx1_8
    have Tg_9 := hide (fun (W : World) (hb : Below w9.heap.size w9 W) => Tg_8.out W (up' hc9 hb))
    clear Tg_8
    have xaS_0 := (TaS_9.out w9 (Below.refl _ _)).at_ (i := 0) rfl
    have xaS_1 := (TaS_9.out w9 (Below.refl _ _)).at_ (i := 1) rfl
    have xaS_2 := (TaS_9.out w9 (Below.refl _ _)).at_ (i := 2) rfl
    have xaS_l : w.heap.size < w9.heap.size := (TaS_9.out w9 (Below.refl _ _)).lt
    have xbx0_0 := (Tbx0_9.out w9 (Below.refl _ _)).at_ (i := 0) rfl
    have xbx0_1 := (Tbx0_9.out w9 (Below.refl _ _)).at_ (i := 1) rfl
    have xbx0_2 := (Tbx0_9.out w9 (Below.refl _ _)).at_ (i := 2) rfl
    have xbx0_l : w5.heap.size < w9.heap.size := (Tbx0_9.out w9 (Below.refl _ _)).lt
    go_wp2_with fail
    clear xaS_0 xaS_1 xaS_2 xaS_l xbx0_0 xbx0_1 xbx0_2 xbx0_l
    refine (toIntS_any A1 n1 c1 f1 _ (by omega) (R1.out _ (up' B9 (by first | exact Below.refl _ _ | go_grown | exact Below.drew (by go_grown))))).mono ?_
    rintro e w10 ⟨rfl, m10, hb10, y10⟩
    have hc10 : Below w9.heap.size w9 w10 := up' (by first | exact Below.refl _ _ | go_grown | exact Below.drew (by go_grown)) hb10
    have B10 : Below w.heap.size w w10 := up' B9 hc10
    have z10 : w9.heap.size ≤ w10.heap.size := hc10.size
    have TaS_10 := hide (fun (W : World) (hb : Below w10.heap.size w10 W) => TaS_9.out W (up' hc10 hb))
    clear TaS_9
    have Tv_10 := hide (fun (W : World) (hb : Below w10.heap.size w10 W) => Tv_9.out W (up' hc10 hb))
    clear Tv_9
    have Tx0_10 := hide (fun (W : World) (hb : Below w10.heap.size w10 W) => Tx0_9.out W (up' hc10 hb))
    clear Tx0_9
    have Tbx0_10 := hide (fun (W : World) (hb : Below w10.heap.size w10 W) => Tbx0_9.out W (up' hc10 hb))
    clear Tbx0_9
    have Tx1_10 := hide (fun (W : World) (hb : Below w10.heap.size w10 W) => Tx1_9.out W (up' hc10 hb))
    clear Tx1_9
    have Tg_10 := hide (fun (W : World) (hb : Below w10.heap.size w10 W) => Tg_9.out W (up' hc10 hb))
    clear Tg_9
    have TM10 : IT w10 (w9.heap.size) w10.heap.size (some ⟨w9.heap.size, 0, none⟩) n1 f1 := (IT.of_rowIs m10).mono (Nat.le_refl _) m10.lt
    have Ty1_10 := hide (fun (W : World) (hb : Below w10.heap.size w10 W) => (TM10).keepB hb)
    clear m10 y10 TM10
    have xaS_0 := (TaS_10.out w10 (Below.refl _ _)).at_ (i := 0) rfl
    have xaS_1 := (TaS_10.out w10 (Below.refl _ _)).at_ (i := 1) rfl
    have xaS_2 := (TaS_10.out w10 (Below.refl _ _)).at_ (i := 2) rfl
    have xaS_l : w.heap.size < w10.heap.size := (TaS_10.out w10 (Below.refl _ _)).lt
    have xbx0_0 := (Tbx0_10.out w10 (Below.refl _ _)).at_ (i := 0) rfl
    have xbx0_1 := (Tbx0_10.out w10 (Below.refl _ _)).at_ (i := 1) rfl
    have xbx0_2 := (Tbx0_10.out w10 (Below.refl _ _)).at_ (i := 2) rfl
    have xbx0_l : w5.heap.size < w10.heap.size := (Tbx0_10.out w10 (Below.refl _ _)).lt
    go_wp2_with fail
    clear xaS_0 xaS_1 xaS_2 xaS_l xbx0_0 xbx0_1 xbx0_2 xbx0_l
    refine (eqIntS_b (some ⟨w5.heap.size + 1, 0, none⟩) (some ⟨w9.heap.size, 0, none⟩) n1 n1 n1 f1 _ (by omega) (Tx1_10.out _ (by first | exact Below.refl _ _ | go_grown | exact Below.drew (by go_grown))).ints (Ty1_10.out _ (by first | exact Below.refl _ _ | go_grown | exact Below.drew (by go_grown))).ints).mono ?_
    rintro e w11 ⟨rfl, hb11⟩
    have hc11 : Below w10.heap.size w10 w11 := up' (by first | exact Below.refl _ _ | go_grown | exact Below.drew (by go_grown)) hb11
    have B11 : Below w.heap.size w w11 := up' B10 hc11
    have z11 : w10.heap.size ≤ w11.heap.size := hc11.size
    have TaS_11 := hide (fun (W : World) (hb : Below w11.heap.size w11 W) => TaS_10.out W (up' hc11 hb))
    clear TaS_10
    have Tv_11 := hide (fun (W : World) (hb : Below w11.heap.size w11 W) => Tv_10.out W (up' hc11 hb))
    clear Tv_10
    have Tx0_11 := hide (fun (W : World) (hb : Below w11.heap.size w11 W) => Tx0_10.out W (up' hc11 hb))
    clear Tx0_10
    have Tbx0_11 := hide (fun (W : World) (hb : Below w11.heap.size w11 W) => Tbx0_10.out W (up' hc11 hb))
    clear Tbx0_10
    have Tx1_11 := hide (fun (W : World) (hb : Below w11.heap.size w11 W) => Tx1_10.out W (up' hc11 hb))
    clear Tx1_10
    have Tg_11 := hide (fun (W : World) (hb : Below w11.heap.size w11 W) => Tg_10.out W (up' hc11 hb))
    clear Tg_10
    have xaS_0 := (TaS_11.out w11 (Below.refl _ _)).at_ (i := 0) rfl
    have xaS_1 := (TaS_11.out w11 (Below.refl _ _)).at_ (i := 1) rfl
    have xaS_2 := (TaS_11.out w11 (Below.refl _ _)).at_ (i := 2) rfl
    have xaS_l : w.heap.size < w11.heap.size := (TaS_11.out w11 (Below.refl _ _)).lt
    have xbx0_0 := (Tbx0_11.out w11 (Below.refl _ _)).at_ (i := 0) rfl
    have xbx0_1 := (Tbx0_11.out w11 (Below.refl _ _)).at_ (i := 1) rfl
    have xbx0_2 := (Tbx0_11.out w11 (Below.refl _ _)).at_ (i := 2) rfl
    have xbx0_l : w5.heap.size < w11.heap.size := (Tbx0_11.out w11 (Below.refl _ _)).lt
    go_wp2_with fail
    clear xaS_0 xaS_1 xaS_2 xaS_l xbx0_0 xbx0_1 xbx0_2 xbx0_l
    have bo0 := offs_le HL0.out n0 (Nat.le_refl n0)
    refine (markScheme_any sp Px0 Yx0 n0 n0 m0 m0 (w4.heap.size) (w5.heap.size) L0 M0 f0 _ _ (by omega) HL0.out hm0 (by omega) (Tx0_11.out _ (by first | exact Below.refl _ _ | go_grown | exact Below.drew (by go_grown)))).mono ?_
    rintro e w12 ⟨rfl, m12, ho12⟩
    clear m12
    have z12 : w11.heap.size ≤ w12.heap.size := ho12.size
    have B12 : Below w.heap.size w w12 := B11.trans (ho12.below (by have := B11.size; omega) B11.size)
    have YaS := Blk.keepO (TaS_11.out w11 (Below.refl _ _)) ho12 (by omega)
    have TaS_12 := hide (fun (W : World) (hb : Below w12.heap.size w12 W) => Blk.below YaS hb YaS.lt)
    clear YaS TaS_11
    have Yv := (Tv_11.out w11 (Below.refl _ _)).keep ho12 (by omega)
    have Tv_12 := hide (fun (W : World) (hb : Below w12.heap.size w12 W) => Yv.keepB hb)
    clear Yv Tv_11
    clear Tx0_11
    have Ybx0 := Blk.keepO (Tbx0_11.out w11 (Below.refl _ _)) ho12 (by omega)
    have Tbx0_12 := hide (fun (W : World) (hb : Below w12.heap.size w12 W) => Blk.below Ybx0 hb Ybx0.lt)
    clear Ybx0 Tbx0_11
    have Yx1 := (Tx1_11.out w11 (Below.refl _ _)).keep ho12 (by omega)
    have Tx1_12 := hide (fun (W : World) (hb : Below w12.heap.size w12 W) => Yx1.keepB hb)
    clear Yx1 Tx1_11
    have Yg := (Tg_11.out w11 (Below.refl _ _)).keep ho12 (by omega)
    have Tg_12 := hide (fun (W : World) (hb : Below w12.heap.size w12 W) => Yg.keepB hb)
    clear Yg Tg_11
    have xaS_0 := (TaS_12.out w12 (Below.refl _ _)).at_ (i := 0) rfl
    have xaS_1 := (TaS_12.out w12 (Below.refl _ _)).at_ (i := 1) rfl
    have xaS_2 := (TaS_12.out w12 (Below.refl _ _)).at_ (i := 2) rfl
    have xaS_l : w.heap.size < w12.heap.size := (TaS_12.out w12 (Below.refl _ _)).lt
    have xbx0_0 := (Tbx0_12.out w12 (Below.refl _ _)).at_ (i := 0) rfl
    have xbx0_1 := (Tbx0_12.out w12 (Below.refl _ _)).at_ (i := 1) rfl
    have xbx0_2 := (Tbx0_12.out w12 (Below.refl _ _)).at_ (i := 2) rfl
    have xbx0_l : w5.heap.size < w12.heap.size := (Tbx0_12.out w12 (Below.refl _ _)).lt
    go_wp2_with fail
    clear xaS_0 xaS_1 xaS_2 xaS_l xbx0_0 xbx0_1 xbx0_2 xbx0_l
    refine (markI_any (some ⟨w5.heap.size + 1, 0, none⟩) n1 n1 (w5.heap.size + 1) (w6.heap.size) f1 _ _ (by omega) (by omega) (Tx1_12.out _ (by first | exact Below.refl _ _ | go_grown | exact Below.drew (by go_grown)))).mono ?_
    rintro e w13 ⟨rfl, m13, oa13, y13⟩
    have ho13 : Outside (w5.heap.size + 1) (w6.heap.size) w12 w13 := oa13.outside (Tx1_12.out w12 (Below.refl _ _))
    clear oa13 y13 m13
    have z13 : w12.heap.size ≤ w13.heap.size := ho13.size
    have B13 : Below w.heap.size w w13 := B12.trans (ho13.below (by have := B12.size; omega) B12.size)
    have YaS := Blk.keepO (TaS_12.out w12 (Below.refl _ _)) ho13 (by omega)
    have TaS_13 := hide (fun (W : World) (hb : Below w13.heap.size w13 W) => Blk.below YaS hb YaS.lt)
    clear YaS TaS_12
    have Yv := (Tv_12.out w12 (Below.refl _ _)).keep ho13 (by omega)
    have Tv_13 := hide (fun (W : World) (hb : Below w13.heap.size w13 W) => Yv.keepB hb)
    clear Yv Tv_12
    have Ybx0 := Blk.keepO (Tbx0_12.out w12 (Below.refl _ _)) ho13 (by omega)
    have Tbx0_13 := hide (fun (W : World) (hb : Below w13.heap.size w13 W) => Blk.below Ybx0 hb Ybx0.lt)
    clear Ybx0 Tbx0_12
    clear Tx1_12
    have Yg := (Tg_12.out w12 (Below.refl _ _)).keep ho13 (by omega)
    have Tg_13 := hide (fun (W : World) (hb : Below w13.heap.size w13 W) => Yg.keepB hb)
    clear Yg Tg_12
    have xaS_0 := (TaS_13.out w13 (Below.refl _ _)).at_ (i := 0) rfl
    have xaS_1 := (TaS_13.out w13 (Below.refl _ _)).at_ (i := 1) rfl
    have xaS_2 := (TaS_13.out w13 (Below.refl _ _)).at_ (i := 2) rfl
    have xaS_l : w.heap.size < w13.heap.size := (TaS_13.out w13 (Below.refl _ _)).lt
    have xbx0_0 := (Tbx0_13.out w13 (Below.refl _ _)).at_ (i := 0) rfl
    have xbx0_1 := (Tbx0_13.out w13 (Below.refl _ _)).at_ (i := 1) rfl
    have xbx0_2 := (Tbx0_13.out w13 (Below.refl _ _)).at_ (i := 2) rfl
    have xbx0_l : w5.heap.size < w13.heap.size := (Tbx0_13.out w13 (Below.refl _ _)).lt
    go_wp2_with fail
    clear xaS_0 xaS_1 xaS_2 xaS_l xbx0_0 xbx0_1 xbx0_2 xbx0_l
    refine (eqIntS_b Ag Av N cg cv F _ (by omega) (Tg_13.out _ (by first | exact Below.refl _ _ | go_grown | exact Below.drew (by go_grown))).ints (Tv_13.out _ (by first | exact Below.refl _ _ | go_grown | exact Below.drew (by go_grown))).ints).mono ?_
    rintro e w14 ⟨rfl, hb14⟩
    have hc14 : Below w13.heap.size w13 w14 := up' (by first | exact Below.refl _ _ | go_grown | exact Below.drew (by go_grown)) hb14
    have B14 : Below w.heap.size w w14 := up' B13 hc14
    have z14 : w13.heap.size ≤ w14.heap.size := hc14.size
    have TaS_14 := hide (fun (W : World) (hb : Below w14.heap.size w14 W) => TaS_13.out W (up' hc14 hb))
    clear TaS_13
    have Tv_14 := hide (fun (W : World) (hb : Below w14.heap.size w14 W) => Tv_13.out W (up' hc14 hb))
    clear Tv_13
    have Tbx0_14 := hide (fun (W : World) (hb : Below w14.heap.size w14 W) => Tbx0_13.out W (up' hc14 hb))
    clear Tbx0_13
    have Tg_14 := hide (fun (W : World) (hb : Below w14.heap.size w14 W) => Tg_13.out W (up' hc14 hb))
    clear Tg_13
    have xaS_0 := (TaS_14.out w14 (Below.refl _ _)).at_ (i := 0) rfl
    have xaS_1 := (TaS_14.out w14 (Below.refl _ _)).at_ (i := 1) rfl
    have xaS_2 := (TaS_14.out w14 (Below.refl _ _)).at_ (i := 2) rfl
    have xaS_l : w.heap.size < w14.heap.size := (TaS_14.out w14 (Below.refl _ _)).lt
    have xbx0_0 := (Tbx0_14.out w14 (Below.refl _ _)).at_ (i := 0) rfl
    have xbx0_1 := (Tbx0_14.out w14 (Below.refl _ _)).at_ (i := 1) rfl
    have xbx0_2 := (Tbx0_14.out w14 (Below.refl _ _)).at_ (i := 2) rfl
    have xbx0_l : w5.heap.size < w14.heap.size := (Tbx0_14.out w14 (Below.refl _ _)).lt
    go_wp2_with fail
    clear xaS_0 xaS_1 xaS_2 xaS_l xbx0_0 xbx0_1 xbx0_2 xbx0_l
    refine (markI_any Ag N cg (w6.heap.size) (w7.heap.size) F _ _ (by omega) (by omega) (Tg_14.out _ (by first | exact Below.refl _ _ | go_grown | exact Below.drew (by go_grown)))).mono ?_
    rintro e w15 ⟨rfl, m15, oa15, y15⟩
    have ho15 : Outside (w6.heap.size) (w7.heap.size) w14 w15 := oa15.outside (Tg_14.out w14 (Below.refl _ _))
    clear oa15 y15
    have z15 : w14.heap.size ≤ w15.heap.size := ho15.size
    have B15 : Below w.heap.size w w15 := B14.trans (ho15.below (by have := B14.size; omega) B14.size)
    have YaS := Blk.keepO (TaS_14.out w14 (Below.refl _ _)) ho15 (by omega)
    have TaS_15 := hide (fun (W : World) (hb : Below w15.heap.size w15 W) => Blk.below YaS hb YaS.lt)
    clear YaS TaS_14
    have Yv := (Tv_14.out w14 (Below.refl _ _)).keep ho15 (by omega)
    have Tv_15 := hide (fun (W : World) (hb : Below w15.heap.size w15 W) => Yv.keepB hb)
    clear Yv Tv_14
    have Ybx0 := Blk.keepO (Tbx0_14.out w14 (Below.refl _ _)) ho15 (by omega)
    have Tbx0_15 := hide (fun (W : World) (hb : Below w15.heap.size w15 W) => Blk.below Ybx0 hb Ybx0.lt)
    clear Ybx0 Tbx0_14
    clear Tg_14
    have Tg_15 := hide (fun (W : World) (hb : Below w15.heap.size w15 W) => (m15).keepB hb)
    clear m15
    have xaS_0 := (TaS_15.out w15 (Below.refl _ _)).at_ (i := 0) rfl
    have xaS_1 := (TaS_15.out w15 (Below.refl _ _)).at_ (i := 1) rfl
    have xaS_2 := (TaS_15.out w15 (Below.refl _ _)).at_ (i := 2) rfl
    have xaS_l : w.heap.size < w15.heap.size := (TaS_15.out w15 (Below.refl _ _)).lt
    have xbx0_0 := (Tbx0_15.out w15 (Below.refl _ _)).at_ (i := 0) rfl
    have xbx0_1 := (Tbx0_15.out w15 (Below.refl _ _)).at_ (i := 1) rfl
    have xbx0_2 := (Tbx0_15.out w15 (Below.refl _ _)).at_ (i := 2) rfl
    have xbx0_l : w5.heap.size < w15.heap.size := (Tbx0_15.out w15 (Below.refl _ _)).lt
    go_wp2_with fail
    clear xaS_0 xaS_1 xaS_2 xaS_l xbx0_0 xbx0_1 xbx0_2 xbx0_l
    have hq : ((1 : Int) + (N : Int) != 1 + (N : Int)) = false := by simp
    refine (heldIntS_any Ag N cg 1 _ (by omega) (by omega) (Tg_15.out _ (by first | exact Below.refl _ _ | go_grown | exact Below.drew (by go_grown))).ints).mono ?_
    rintro e w16 ⟨rfl, hb16⟩
    have hc16 : Below w15.heap.size w15 w16 := up' (by first | exact Below.refl _ _ | go_grown | exact Below.drew (by go_grown)) hb16
    have B16 : Below w.heap.size w w16 := up' B15 hc16
    have z16 : w15.heap.size ≤ w16.heap.size := hc16.size
    have TaS_16 := hide (fun (W : World) (hb : Below w16.heap.size w16 W) => TaS_15.out W (up' hc16 hb))
    clear TaS_15
    have Tv_16 := hide (fun (W : World) (hb : Below w16.heap.size w16 W) => Tv_15.out W (up' hc16 hb))
    clear Tv_15
    have Tbx0_16 := hide (fun (W : World) (hb : Below w16.heap.size w16 W) => Tbx0_15.out W (up' hc16 hb))
    clear Tbx0_15
    have Tg_16 := hide (fun (W : World) (hb : Below w16.heap.size w16 W) => Tg_15.out W (up' hc16 hb))
    clear Tg_15
    have xaS_0 := (TaS_16.out w16 (Below.refl _ _)).at_ (i := 0) rfl
    have xaS_1 := (TaS_16.out w16 (Below.refl _ _)).at_ (i := 1) rfl
    have xaS_2 := (TaS_16.out w16 (Below.refl _ _)).at_ (i := 2) rfl
    have xaS_l : w.heap.size < w16.heap.size := (TaS_16.out w16 (Below.refl _ _)).lt
    have xbx0_0 := (Tbx0_16.out w16 (Below.refl _ _)).at_ (i := 0) rfl
    have xbx0_1 := (Tbx0_16.out w16 (Below.refl _ _)).at_ (i := 1) rfl
    have xbx0_2 := (Tbx0_16.out w16 (Below.refl _ _)).at_ (i := 2) rfl
    have xbx0_l : w5.heap.size < w16.heap.size := (Tbx0_16.out w16 (Below.refl _ _)).lt
    go_wp2_with fail
    clear xaS_0 xaS_1 xaS_2 xaS_l xbx0_0 xbx0_1 xbx0_2 xbx0_l
    refine (toScheme_any sp A0 O0 n0 c0 m0 e0 L0 M0 f0 _ hn0 HL0.out hm0 (RR0.out _ (up' B16 (by first | exact Below.refl _ _ | go_grown | exact Below.drew (by go_grown)))) (Q0.out _ (up' B16 (by first | exact Below.refl _ _ | go_grown | exact Below.drew (by go_grown))))).mono ?_
    rintro e w17 ⟨Pu0, Yu0, rfl, m17, hb17⟩
    have hc17 : Below w16.heap.size w16 w17 := up' (by first | exact Below.refl _ _ | go_grown | exact Below.drew (by go_grown)) hb17
    have B17 : Below w.heap.size w w17 := up' B16 hc17
    have z17 : w16.heap.size ≤ w17.heap.size := hc17.size
    have TaS_17 := hide (fun (W : World) (hb : Below w17.heap.size w17 W) => TaS_16.out W (up' hc17 hb))
    clear TaS_16
    have Tv_17 := hide (fun (W : World) (hb : Below w17.heap.size w17 W) => Tv_16.out W (up' hc17 hb))
    clear Tv_16
    have Tbx0_17 := hide (fun (W : World) (hb : Below w17.heap.size w17 W) => Tbx0_16.out W (up' hc17 hb))
    clear Tbx0_16
    have Tg_17 := hide (fun (W : World) (hb : Below w17.heap.size w17 W) => Tg_16.out W (up' hc17 hb))
    clear Tg_16
    have Tu0_17 := hide (fun (W : World) (hb : Below w17.heap.size w17 W) => (m17).keepB hb)
    clear m17
    have xaS_0 := (TaS_17.out w17 (Below.refl _ _)).at_ (i := 0) rfl
    have xaS_1 := (TaS_17.out w17 (Below.refl _ _)).at_ (i := 1) rfl
    have xaS_2 := (TaS_17.out w17 (Below.refl _ _)).at_ (i := 2) rfl
    have xaS_l : w.heap.size < w17.heap.size := (TaS_17.out w17 (Below.refl _ _)).lt
    have xbx0_0 := (Tbx0_17.out w17 (Below.refl _ _)).at_ (i := 0) rfl
    have xbx0_1 := (Tbx0_17.out w17 (Below.refl _ _)).at_ (i := 1) rfl
    have xbx0_2 := (Tbx0_17.out w17 (Below.refl _ _)).at_ (i := 2) rfl
    have xbx0_l : w5.heap.size < w17.heap.size := (Tbx0_17.out w17 (Below.refl _ _)).lt
    go_wp2_with fail
    clear xaS_0 xaS_1 xaS_2 xaS_l xbx0_0 xbx0_1 xbx0_2 xbx0_l
    refine (toIntS_any A1 n1 c1 f1 _ (by omega) (R1.out _ (up' B17 (by first | exact Below.refl _ _ | go_grown | exact Below.drew (by go_grown))))).mono ?_
    rintro e w18 ⟨rfl, m18, hb18, y18⟩
    have hc18 : Below w17.heap.size w17 w18 := up' (by first | exact Below.refl _ _ | go_grown | exact Below.drew (by go_grown)) hb18
    have B18 : Below w.heap.size w w18 := up' B17 hc18
    have z18 : w17.heap.size ≤ w18.heap.size := hc18.size
    have TaS_18 := hide (fun (W : World) (hb : Below w18.heap.size w18 W) => TaS_17.out W (up' hc18 hb))
    clear TaS_17
    have Tv_18 := hide (fun (W : World) (hb : Below w18.heap.size w18 W) => Tv_17.out W (up' hc18 hb))
    clear Tv_17
    have Tbx0_18 := hide (fun (W : World) (hb : Below w18.heap.size w18 W) => Tbx0_17.out W (up' hc18 hb))
    clear Tbx0_17
    have Tg_18 := hide (fun (W : World) (hb : Below w18.heap.size w18 W) => Tg_17.out W (up' hc18 hb))
    clear Tg_17
    have Tu0_18 := hide (fun (W : World) (hb : Below w18.heap.size w18 W) => Tu0_17.out W (up' hc18 hb))
    clear Tu0_17
    have TM18 : IT w18 (w17.heap.size) w18.heap.size (some ⟨w17.heap.size, 0, none⟩) n1 f1 := (IT.of_rowIs m18).mono (Nat.le_refl _) m18.lt
    have Tu1_18 := hide (fun (W : World) (hb : Below w18.heap.size w18 W) => (TM18).keepB hb)
    clear m18 y18 TM18
    have xaS_0 := (TaS_18.out w18 (Below.refl _ _)).at_ (i := 0) rfl
    have xaS_1 := (TaS_18.out w18 (Below.refl _ _)).at_ (i := 1) rfl
    have xaS_2 := (TaS_18.out w18 (Below.refl _ _)).at_ (i := 2) rfl
    have xaS_l : w.heap.size < w18.heap.size := (TaS_18.out w18 (Below.refl _ _)).lt
    have xbx0_0 := (Tbx0_18.out w18 (Below.refl _ _)).at_ (i := 0) rfl
    have xbx0_1 := (Tbx0_18.out w18 (Below.refl _ _)).at_ (i := 1) rfl
    have xbx0_2 := (Tbx0_18.out w18 (Below.refl _ _)).at_ (i := 2) rfl
    have xbx0_l : w5.heap.size < w18.heap.size := (Tbx0_18.out w18 (Below.refl _ _)).lt
    go_wp2_with fail
    clear xaS_0 xaS_1 xaS_2 xaS_l xbx0_0 xbx0_1 xbx0_2 xbx0_l
    refine (I.out (Pu0, Yu0) (some ⟨w17.heap.size, 0, none⟩) _ (Tu0_18.out _ (by first | exact Below.refl _ _ | go_grown | exact Below.drew (by go_grown))).mat (Tu0_18.out _ (by first | exact Below.refl _ _ | go_grown | exact Below.drew (by go_grown))).ints (Tu1_18.out _ (by first | exact Below.refl _ _ | go_grown | exact Below.drew (by go_grown))).ints).mono ?_
    rintro e w19 ⟨Ah, ch, rfl, m19, hb19⟩
    have hc19 : Below w18.heap.size w18 w19 := up' (by first | exact Below.refl _ _ | go_grown | exact Below.drew (by go_grown)) hb19
    have B19 : Below w.heap.size w w19 := up' B18 hc19
    have z19 : w18.heap.size ≤ w19.heap.size := hc19.size
    have TaS_19 := hide (fun (W : World) (hb : Below w19.heap.size w19 W) => TaS_18.out W (up' hc19 hb))
    clear TaS_18
    have Tv_19 := hide (fun (W : World) (hb : Below w19.heap.size w19 W) => Tv_18.out W (up' hc19 hb))
    clear Tv_18
    have Tbx0_19 := hide (fun (W : World) (hb : Below w19.heap.size w19 W) => Tbx0_18.out W (up' hc19 hb))
    clear Tbx0_18
    have Tg_19 := hide (fun (W : World) (hb : Below w19.heap.size w19 W) => Tg_18.out W (up' hc19 hb))
    clear Tg_18
    have Tu0_19 := hide (fun (W : World) (hb : Below w19.heap.size w19 W) => Tu0_18.out W (up' hc19 hb))
    clear Tu0_18
    have Tu1_19 := hide (fun (W : World) (hb : Below w19.heap.size w19 W) => Tu1_18.out W (up' hc19 hb))
    clear Tu1_18
    have Th_19 := hide (fun (W : World) (hb : Below w19.heap.size w19 W) => (m19).keepB hb)
    clear m19
    have xaS_0 := (TaS_19.out w19 (Below.refl _ _)).at_ (i := 0) rfl
    have xaS_1 := (TaS_19.out w19 (Below.refl _ _)).at_ (i := 1) rfl
    have xaS_2 := (TaS_19.out w19 (Below.refl _ _)).at_ (i := 2) rfl
    have xaS_l : w.heap.size < w19.heap.size := (TaS_19.out w19 (Below.refl _ _)).lt
    have xbx0_0 := (Tbx0_19.out w19 (Below.refl _ _)).at_ (i := 0) rfl
    have xbx0_1 := (Tbx0_19.out w19 (Below.refl _ _)).at_ (i := 1) rfl
    have xbx0_2 := (Tbx0_19.out w19 (Below.refl _ _)).at_ (i := 2) rfl
    have xbx0_l : w5.heap.size < w19.heap.size := (Tbx0_19.out w19 (Below.refl _ _)).lt
    go_wp2_with fail
    clear xaS_0 xaS_1 xaS_2 xaS_l xbx0_0 xbx0_1 xbx0_2 xbx0_l
    refine (eqIntS_b Ah Av N ch cv F _ (by omega) (Th_19.out _ (by first | exact Below.refl _ _ | go_grown | exact Below.drew (by go_grown))).ints (Tv_19.out _ (by first | exact Below.refl _ _ | go_grown | exact Below.drew (by go_grown))).ints).mono ?_
    rintro e w20 ⟨rfl, hb20⟩
    have hc20 : Below w19.heap.size w19 w20 := up' (by first | exact Below.refl _ _ | go_grown | exact Below.drew (by go_grown)) hb20
    have B20 : Below w.heap.size w w20 := up' B19 hc20
    have z20 : w19.heap.size ≤ w20.heap.size := hc20.size
    have TaS_20 := hide (fun (W : World) (hb : Below w20.heap.size w20 W) => TaS_19.out W (up' hc20 hb))
    clear TaS_19
    have Tv_20 := hide (fun (W : World) (hb : Below w20.heap.size w20 W) => Tv_19.out W (up' hc20 hb))
    clear Tv_19
    have Tbx0_20 := hide (fun (W : World) (hb : Below w20.heap.size w20 W) => Tbx0_19.out W (up' hc20 hb))
    clear Tbx0_19
    have Tg_20 := hide (fun (W : World) (hb : Below w20.heap.size w20 W) => Tg_19.out W (up' hc20 hb))
    clear Tg_19
    have Tu0_20 := hide (fun (W : World) (hb : Below w20.heap.size w20 W) => Tu0_19.out W (up' hc20 hb))
    clear Tu0_19
    have Tu1_20 := hide (fun (W : World) (hb : Below w20.heap.size w20 W) => Tu1_19.out W (up' hc20 hb))
    clear Tu1_19
    have Th_20 := hide (fun (W : World) (hb : Below w20.heap.size w20 W) => Th_19.out W (up' hc20 hb))
    clear Th_19
    have xaS_0 := (TaS_20.out w20 (Below.refl _ _)).at_ (i := 0) rfl
    have xaS_1 := (TaS_20.out w20 (Below.refl _ _)).at_ (i := 1) rfl
    have xaS_2 := (TaS_20.out w20 (Below.refl _ _)).at_ (i := 2) rfl
    have xaS_l : w.heap.size < w20.heap.size := (TaS_20.out w20 (Below.refl _ _)).lt
    have xbx0_0 := (Tbx0_20.out w20 (Below.refl _ _)).at_ (i := 0) rfl
    have xbx0_1 := (Tbx0_20.out w20 (Below.refl _ _)).at_ (i := 1) rfl
    have xbx0_2 := (Tbx0_20.out w20 (Below.refl _ _)).at_ (i := 2) rfl
    have xbx0_l : w5.heap.size < w20.heap.size := (Tbx0_20.out w20 (Below.refl _ _)).lt
    go_wp2_with fail
    clear xaS_0 xaS_1 xaS_2 xaS_l xbx0_0 xbx0_1 xbx0_2 xbx0_l
    refine (heldIntS_any Ag N cg 1 _ (by omega) (by omega) (Tg_20.out _ (by first | exact Below.refl _ _ | go_grown | exact Below.drew (by go_grown))).ints).mono ?_
    rintro e w21 ⟨rfl, hb21⟩
    have hc21 : Below w20.heap.size w20 w21 := up' (by first | exact Below.refl _ _ | go_grown | exact Below.drew (by go_grown)) hb21
    have B21 : Below w.heap.size w w21 := up' B20 hc21
    have z21 : w20.heap.size ≤ w21.heap.size := hc21.size
    have TaS_21 := hide (fun (W : World) (hb : Below w21.heap.size w21 W) => TaS_20.out W (up' hc21 hb))
    clear TaS_20
    have Tv_21 := hide (fun (W : World) (hb : Below w21.heap.size w21 W) => Tv_20.out W (up' hc21 hb))
    clear Tv_20
    have Tbx0_21 := hide (fun (W : World) (hb : Below w21.heap.size w21 W) => Tbx0_20.out W (up' hc21 hb))
    clear Tbx0_20
    have Tg_21 := hide (fun (W : World) (hb : Below w21.heap.size w21 W) => Tg_20.out W (up' hc21 hb))
    clear Tg_20
    have Tu0_21 := hide (fun (W : World) (hb : Below w21.heap.size w21 W) => Tu0_20.out W (up' hc21 hb))
    clear Tu0_20
    have Tu1_21 := hide (fun (W : World) (hb : Below w21.heap.size w21 W) => Tu1_20.out W (up' hc21 hb))
    clear Tu1_20
    have Th_21 := hide (fun (W : World) (hb : Below w21.heap.size w21 W) => Th_20.out W (up' hc21 hb))
    clear Th_20
    have xaS_0 := (TaS_21.out w21 (Below.refl _ _)).at_ (i := 0) rfl
    have xaS_1 := (TaS_21.out w21 (Below.refl _ _)).at_ (i := 1) rfl
    have xaS_2 := (TaS_21.out w21 (Below.refl _ _)).at_ (i := 2) rfl
    have xaS_l : w.heap.size < w21.heap.size := (TaS_21.out w21 (Below.refl _ _)).lt
    have xbx0_0 := (Tbx0_21.out w21 (Below.refl _ _)).at_ (i := 0) rfl
    have xbx0_1 := (Tbx0_21.out w21 (Below.refl _ _)).at_ (i := 1) rfl
    have xbx0_2 := (Tbx0_21.out w21 (Below.refl _ _)).at_ (i := 2) rfl
    have xbx0_l : w5.heap.size < w21.heap.size := (Tbx0_21.out w21 (Below.refl _ _)).lt
    go_wp2_with fail
    clear xaS_0 xaS_1 xaS_2 xaS_l xbx0_0 xbx0_1 xbx0_2 xbx0_l
    go_ret
    exact ⟨rfl, B21⟩
end Go.Proofs.Ytcalfblghblhcaa
