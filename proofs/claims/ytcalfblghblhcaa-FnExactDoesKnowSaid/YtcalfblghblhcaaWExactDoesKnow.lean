/-
  FnExactDoesKnow returns true for all arguments: the walk. Conditions: none.
-/
import Derived.Test.YtcalfblghblhcaaDoesKnow
import Derived.Test.YtcalfblghblhcaaStruct2
namespace Go.Proofs.Ytcalfblghblhcaa
open Go.RowKit

set_option maxHeartbeats 4000000 in
set_option maxRecDepth 100000 in
theorem fnExactDoesKnow_walk (sp : Int) (A0 : Option Addr) (n0 c0 : Nat) (O0 : Option Addr) (m0 e0 : Nat) (y0 : List Int) (R0 : Nat → Option Addr) (L0 D0 : Nat → Nat) (z0 : Nat → List Int) (a1 : Int) (w : World) (_wp : (Lit.int .i64 sp).wf = true) (h0 : IsRows w A0 n0 c0 R0 L0 D0 z0) (g0 : IsRow .i64 w O0 m0 e0 y0) (_w1 : (Lit.int .i64 a1).wf = true) :
    Calls Try.prog 7 #[.agg #[.int .i64 sp, .slice A0 n0 c0, .slice O0 m0 e0], .int .i64 a1] w fun e w' => e = .returned (.bool true) ∧ Below w.heap.size w w' := by
  obtain ⟨r0, hn0, hL0⟩ := mat_in h0
  clear h0
  generalize (fun i j => (z0 i).getD j 0) = M0 at r0
  have RR0 := hide (fun (W : World) (hb : Below w.heap.size w W) => r0.keep hb hb.size)
  have HL0 := hide hL0
  clear r0 hL0
  clear _wp
  obtain ⟨q0, hm0⟩ := ints_in g0
  clear g0
  generalize (fun i => y0.getD i 0) = f0 at q0
  have Q0 := hide (fun (W : World) (hb : Below w.heap.size w W) => q0.keep hb hb.size)
  clear q0
  have esp : (sp != sp) = false := by simp
  clear _w1
  go_enter Try.func7, Try.ntmps7
  go_wp2_with fail
  refine (szScheme_any sp A0 O0 n0 c0 m0 e0 L0 M0 _ _ hn0 HL0.out hm0 (by omega) (by omega) (RR0.out _ (up' (Below.refl w.heap.size w) (by first | exact Below.refl _ _ | go_grown | exact Below.drew (by go_grown))))).mono ?_
  rintro e w1 ⟨r, rfl, hr1, hr2, hb1⟩
  have hc1 : Below w.heap.size w w1 := up' (by first | exact Below.refl _ _ | go_grown | exact Below.drew (by go_grown)) hb1
  have B1 : Below w.heap.size w w1 := up' (Below.refl w.heap.size w) hc1
  have z1 : w.heap.size ≤ w1.heap.size := hc1.size
  have zz1 : w.heap.size + 1 ≤ w1.heap.size := by have := hb1.size; simp at this; omega
  have XaS : Blk w1 (w.heap.size) 25 #[.int .i64 sp, .slice A0 n0 c0, .slice O0 m0 e0] := Blk.below (Blk.newAt (by simp) 25 #[.int .i64 sp, .slice A0 n0 c0, .slice O0 m0 e0]) hb1 (by simp; try omega)
  have TaS_1 := hide (fun (W : World) (hb : Below w1.heap.size w1 W) => Blk.below (XaS) hb (Blk.lt (XaS)))
  clear XaS
  by_cases h0 : r < 0
  · clear hr2
    go_wp2_with fail
    go_ret
    exact ⟨rfl, B1⟩
  obtain ⟨hn0, hm0, hL0⟩ := hr2 (by omega)
  clear hr2
  have HL0 := hide hL0
  clear hL0
  have S := hide (fun (b0 : Option Addr × Option Addr) (W : World) (q0 : Mat W W.heap.size b0.1 n0 L0 M0) (s0 : Ints W W.heap.size b0.2 m0 f0) => DoesKnowS_any sp b0.1 n0 n0 L0 M0 b0.2 m0 m0 f0 a1 W hn0 HL0.out hm0 q0 s0)
  have I := hide (fun (b0 : Option Addr × Option Addr) (W : World) (q0 : Mat W W.heap.size b0.1 n0 L0 M0) (s0 : Ints W W.heap.size b0.2 m0 f0) => DoesKnowI_any sp b0.1 n0 n0 L0 M0 b0.2 m0 m0 f0 a1 W hn0 HL0.out hm0 q0 s0)
  generalize dkV sp n0 L0 M0 m0 f0 a1 = v0 at S I
  have ev0 : (v0 != v0) = false := by simp
  have xaS_0 := (TaS_1.out w1 (Below.refl _ _)).at_ (i := 0) rfl
  have xaS_1 := (TaS_1.out w1 (Below.refl _ _)).at_ (i := 1) rfl
  have xaS_2 := (TaS_1.out w1 (Below.refl _ _)).at_ (i := 2) rfl
  have xaS_l : w.heap.size < w1.heap.size := (TaS_1.out w1 (Below.refl _ _)).lt
  go_wp2_with fail
  clear xaS_0 xaS_1 xaS_2 xaS_l
  refine (toScheme_any sp A0 O0 n0 c0 m0 e0 L0 M0 f0 _ hn0 HL0.out hm0 (RR0.out _ (up' B1 (by first | exact Below.refl _ _ | go_grown | exact Below.drew (by go_grown)))) (Q0.out _ (up' B1 (by first | exact Below.refl _ _ | go_grown | exact Below.drew (by go_grown))))).mono ?_
  rintro e w2 ⟨Ps0, Ys0, rfl, m2, hb2⟩
  have hc2 : Below w1.heap.size w1 w2 := up' (by first | exact Below.refl _ _ | go_grown | exact Below.drew (by go_grown)) hb2
  have B2 : Below w.heap.size w w2 := up' B1 hc2
  have z2 : w1.heap.size ≤ w2.heap.size := hc2.size
  have TaS_2 := hide (fun (W : World) (hb : Below w2.heap.size w2 W) => TaS_1.out W (up' hc2 hb))
  clear TaS_1
  have Ts0_2 := hide (fun (W : World) (hb : Below w2.heap.size w2 W) => (m2).keepB hb)
  clear m2
  have xaS_0 := (TaS_2.out w2 (Below.refl _ _)).at_ (i := 0) rfl
  have xaS_1 := (TaS_2.out w2 (Below.refl _ _)).at_ (i := 1) rfl
  have xaS_2 := (TaS_2.out w2 (Below.refl _ _)).at_ (i := 2) rfl
  have xaS_l : w.heap.size < w2.heap.size := (TaS_2.out w2 (Below.refl _ _)).lt
  go_wp2_with fail
  clear xaS_0 xaS_1 xaS_2 xaS_l
  refine (S.out (Ps0, Ys0) _ (Ts0_2.out _ (by first | exact Below.refl _ _ | go_grown | exact Below.drew (by go_grown))).mat (Ts0_2.out _ (by first | exact Below.refl _ _ | go_grown | exact Below.drew (by go_grown))).ints).mono ?_
  rintro e w3 ⟨rfl, hb3⟩
  have hc3 : Below w2.heap.size w2 w3 := up' (by first | exact Below.refl _ _ | go_grown | exact Below.drew (by go_grown)) hb3
  have B3 : Below w.heap.size w w3 := up' B2 hc3
  have z3 : w2.heap.size ≤ w3.heap.size := hc3.size
  have TaS_3 := hide (fun (W : World) (hb : Below w3.heap.size w3 W) => TaS_2.out W (up' hc3 hb))
  clear TaS_2
  have Ts0_3 := hide (fun (W : World) (hb : Below w3.heap.size w3 W) => Ts0_2.out W (up' hc3 hb))
  clear Ts0_2
  have xaS_0 := (TaS_3.out w3 (Below.refl _ _)).at_ (i := 0) rfl
  have xaS_1 := (TaS_3.out w3 (Below.refl _ _)).at_ (i := 1) rfl
  have xaS_2 := (TaS_3.out w3 (Below.refl _ _)).at_ (i := 2) rfl
  have xaS_l : w.heap.size < w3.heap.size := (TaS_3.out w3 (Below.refl _ _)).lt
  go_wp2_with fail
  clear xaS_0 xaS_1 xaS_2 xaS_l
  refine (toScheme_any sp A0 O0 n0 c0 m0 e0 L0 M0 f0 _ hn0 HL0.out hm0 (RR0.out _ (up' B3 (by first | exact Below.refl _ _ | go_grown | exact Below.drew (by go_grown)))) (Q0.out _ (up' B3 (by first | exact Below.refl _ _ | go_grown | exact Below.drew (by go_grown))))).mono ?_
  rintro e w4 ⟨Px0, Yx0, rfl, m4, hb4⟩
  have hc4 : Below w3.heap.size w3 w4 := up' (by first | exact Below.refl _ _ | go_grown | exact Below.drew (by go_grown)) hb4
  have B4 : Below w.heap.size w w4 := up' B3 hc4
  have z4 : w3.heap.size ≤ w4.heap.size := hc4.size
  have TaS_4 := hide (fun (W : World) (hb : Below w4.heap.size w4 W) => TaS_3.out W (up' hc4 hb))
  clear TaS_3
  have Tx0_4 := hide (fun (W : World) (hb : Below w4.heap.size w4 W) => (m4).keepB hb)
  clear m4
  have xaS_0 := (TaS_4.out w4 (Below.refl _ _)).at_ (i := 0) rfl
  have xaS_1 := (TaS_4.out w4 (Below.refl _ _)).at_ (i := 1) rfl
  have xaS_2 := (TaS_4.out w4 (Below.refl _ _)).at_ (i := 2) rfl
  have xaS_l : w.heap.size < w4.heap.size := (TaS_4.out w4 (Below.refl _ _)).lt
  go_wp2_with fail
  clear xaS_0 xaS_1 xaS_2 xaS_l
  refine (I.out (Px0, Yx0) _ (Tx0_4.out _ (by first | exact Below.refl _ _ | go_grown | exact Below.drew (by go_grown))).mat (Tx0_4.out _ (by first | exact Below.refl _ _ | go_grown | exact Below.drew (by go_grown))).ints).mono ?_
  rintro e w5 ⟨rfl, hb5⟩
  have hc5 : Below w4.heap.size w4 w5 := up' (by first | exact Below.refl _ _ | go_grown | exact Below.drew (by go_grown)) hb5
  have B5 : Below w.heap.size w w5 := up' B4 hc5
  have z5 : w4.heap.size ≤ w5.heap.size := hc5.size
  have zz5 : w4.heap.size + 1 ≤ w5.heap.size := by have := hb5.size; simp at this; omega
  have TaS_5 := hide (fun (W : World) (hb : Below w5.heap.size w5 W) => TaS_4.out W (up' hc5 hb))
  clear TaS_4
  have Tx0_5 := hide (fun (W : World) (hb : Below w5.heap.size w5 W) => Tx0_4.out W (up' hc5 hb))
  clear Tx0_4
  have Xbx0 : Blk w5 (w4.heap.size) 29 #[.int .i64 sp, .slice Px0 n0 n0, .slice Yx0 m0 m0] := Blk.below (Blk.newAt (by simp) 29 #[.int .i64 sp, .slice Px0 n0 n0, .slice Yx0 m0 m0]) hb5 (by simp; try omega)
  have Tbx0_5 := hide (fun (W : World) (hb : Below w5.heap.size w5 W) => Blk.below (Xbx0) hb (Blk.lt (Xbx0)))
  clear Xbx0
  have xaS_0 := (TaS_5.out w5 (Below.refl _ _)).at_ (i := 0) rfl
  have xaS_1 := (TaS_5.out w5 (Below.refl _ _)).at_ (i := 1) rfl
  have xaS_2 := (TaS_5.out w5 (Below.refl _ _)).at_ (i := 2) rfl
  have xaS_l : w.heap.size < w5.heap.size := (TaS_5.out w5 (Below.refl _ _)).lt
  have xbx0_0 := (Tbx0_5.out w5 (Below.refl _ _)).at_ (i := 0) rfl
  have xbx0_1 := (Tbx0_5.out w5 (Below.refl _ _)).at_ (i := 1) rfl
  have xbx0_2 := (Tbx0_5.out w5 (Below.refl _ _)).at_ (i := 2) rfl
  have xbx0_l : w4.heap.size < w5.heap.size := (Tbx0_5.out w5 (Below.refl _ _)).lt
  go_wp2_with fail
  clear xaS_0 xaS_1 xaS_2 xaS_l xbx0_0 xbx0_1 xbx0_2 xbx0_l
  go_cut [30] (fun v wx => v = .bool false ∧ Below w5.heap.size w5 wx)
  case first =>
    have qaS_0 := (TaS_5.out w5 (Below.refl _ _)).at_ (i := 0) rfl
    have qaS_1 := (TaS_5.out w5 (Below.refl _ _)).at_ (i := 1) rfl
    have qaS_2 := (TaS_5.out w5 (Below.refl _ _)).at_ (i := 2) rfl
    have qbx0_0 := (Tbx0_5.out w5 (Below.refl _ _)).at_ (i := 0) rfl
    have qbx0_1 := (Tbx0_5.out w5 (Below.refl _ _)).at_ (i := 1) rfl
    have qbx0_2 := (Tbx0_5.out w5 (Below.refl _ _)).at_ (i := 2) rfl
    go_region_with (first | (go_at_call 13; refine (toScheme_any sp A0 O0 n0 c0 m0 e0 L0 M0 f0 _ hn0 HL0.out hm0 (RR0.out _ (up' B5 (by first | exact Below.refl _ _ | go_grown | exact Below.drew (by go_grown)))) (Q0.out _ (up' B5 (by first | exact Below.refl _ _ | go_grown | exact Below.drew (by go_grown))))).mono ?_; rintro e wr ⟨PY, YY, rfl, my, hby⟩; have hcy : Below w5.heap.size w5 wr := up' (by first | exact Below.refl _ _ | go_grown | exact Below.drew (by go_grown)) hby; have r0 := (Tbx0_5.out wr hcy).at_ (i := 0) rfl; have r1 := (Tbx0_5.out wr hcy).at_ (i := 1) rfl; have r2 := (Tbx0_5.out wr hcy).at_ (i := 2) rfl) | (go_at_call 16; refine (eqScheme_any sp Px0 PY Yx0 YY n0 n0 n0 m0 m0 m0 L0 M0 f0 _ (by omega) (fun i hi => Nat.le_trans (HL0.out i hi) (by omega)) (by omega) (Tx0_5.out _ (by first | exact hcy | exact hcy.drew | exact hcy.drew.drew | exact Below.refl _ _ | exact (Below.refl _ _).drew)).mat my.mat (Tx0_5.out _ (by first | exact hcy | exact hcy.drew | exact hcy.drew.drew | exact Below.refl _ _ | exact (Below.refl _ _).drew)).ints my.ints).mono ?_; rintro e wz ⟨rfl, hbz⟩))
    all_goals (go_wp2_with fail; go_meet; exact ⟨rfl, by first | exact up' hcy hbz | exact (up' hcy hbz).drew | exact up' hcy.drew hbz | exact (up' hcy.drew hbz).drew⟩)
  case rest =>
    obtain ⟨w6, rfl⟩ : ∃ x, x = wc := ⟨_, rfl⟩
    obtain ⟨rfl, hb6⟩ := hcut
    have hc6 : Below w5.heap.size w5 w6 := up' (by first | exact Below.refl _ _ | go_grown | exact Below.drew (by go_grown)) hb6
    have B6 : Below w.heap.size w w6 := up' B5 hc6
    have z6 : w5.heap.size ≤ w6.heap.size := hc6.size
    have TaS_6 := hide (fun (W : World) (hb : Below w6.heap.size w6 W) => TaS_5.out W (up' hc6 hb))
    clear TaS_5
    have Tx0_6 := hide (fun (W : World) (hb : Below w6.heap.size w6 W) => Tx0_5.out W (up' hc6 hb))
    clear Tx0_5
    have Tbx0_6 := hide (fun (W : World) (hb : Below w6.heap.size w6 W) => Tbx0_5.out W (up' hc6 hb))
    clear Tbx0_5
    have xaS_0 := (TaS_6.out w6 (Below.refl _ _)).at_ (i := 0) rfl
    have xaS_1 := (TaS_6.out w6 (Below.refl _ _)).at_ (i := 1) rfl
    have xaS_2 := (TaS_6.out w6 (Below.refl _ _)).at_ (i := 2) rfl
    have xaS_l : w.heap.size < w6.heap.size := (TaS_6.out w6 (Below.refl _ _)).lt
    have xbx0_0 := (Tbx0_6.out w6 (Below.refl _ _)).at_ (i := 0) rfl
    have xbx0_1 := (Tbx0_6.out w6 (Below.refl _ _)).at_ (i := 1) rfl
    have xbx0_2 := (Tbx0_6.out w6 (Below.refl _ _)).at_ (i := 2) rfl
    have xbx0_l : w4.heap.size < w6.heap.size := (Tbx0_6.out w6 (Below.refl _ _)).lt
    go_wp2_with fail
    clear xaS_0 xaS_1 xaS_2 xaS_l xbx0_0 xbx0_1 xbx0_2 xbx0_l
    go_ret
    exact ⟨rfl, B6⟩
end Go.Proofs.Ytcalfblghblhcaa
