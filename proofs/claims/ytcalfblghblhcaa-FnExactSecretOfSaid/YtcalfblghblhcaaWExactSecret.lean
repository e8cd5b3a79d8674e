/-
  FnExactSecretOf returns true for all arguments: the walk. Conditions: none.
-/
import Derived.Test.YtcalfblghblhcaaSecretS
import Derived.Test.YtcalfblghblhcaaSecretI
import Derived.Test.YtcalfblghblhcaaStruct2
namespace Go.Proofs.Ytcalfblghblhcaa
open Go.RowKit

theorem SecXS (p : Int) (A : Option Addr) (n c : Nat) (L : Nat → Nat) (M : Nat → Nat → Int) (O : Option Addr) (m e : Nat) (f : Nat → Int) (B : Option Addr) (n1 c1 : Nat) (g : Nat → Int) (s : Int) (w : World) (hn : n ≤ 1048576) (hL : ∀ i, i < n → L i ≤ 1048576) (hm : m ≤ 1048576) (h : Mat w w.heap.size A n L M) (h2 : Ints w w.heap.size O m f) (hn1 : n1 ≤ 1048576) (h3 : Ints w w.heap.size B n1 g) :
    Calls Try.prog 12 #[.agg #[.int .i64 p, .slice A n c, .slice O m e], .slice B n1 c1, .int .i64 s] w fun x w' => x = .returned (.tuple #[.int .i64 (secI p n L M m f n1 g s), .bool (secB p n L M m f n1 g s)]) ∧ Below w.heap.size w w' :=
  (SecretOfS_any p A n c L M O m e f B n1 c1 g s w hn hL hm h h2 hn1 h3).mono fun _ _ h => h
theorem SecXI (p : Int) (A : Option Addr) (n c : Nat) (L : Nat → Nat) (M : Nat → Nat → Int) (O : Option Addr) (m e : Nat) (f : Nat → Int) (B : Option Addr) (n1 c1 : Nat) (g : Nat → Int) (s : Int) (w : World) (hn : n ≤ 1048576) (hL : ∀ i, i < n → L i ≤ 1048576) (hm : m ≤ 1048576) (h : Mat w w.heap.size A n L M) (h2 : Ints w w.heap.size O m f) (hn1 : n1 ≤ 1048576) (h3 : Ints w w.heap.size B n1 g) :
    Calls Try.prog 15 #[.agg #[.int .i64 p, .slice A n c, .slice O m e], .slice B n1 c1, .int .i64 s] w fun x w' => x = .returned (.tuple #[.int .i64 (secI p n L M m f n1 g s), .bool (secB p n L M m f n1 g s)]) ∧ Below w.heap.size w w' :=
  (SecretOfI_any p A n c L M O m e f B n1 c1 g s w hn hL hm h h2 hn1 h3).mono fun _ _ h => h
set_option maxHeartbeats 4000000 in
set_option maxRecDepth 100000 in
theorem fnExactSecretOf_walk (sp : Int) (A0 : Option Addr) (n0 c0 : Nat) (O0 : Option Addr) (m0 e0 : Nat) (y0 : List Int) (R0 : Nat → Option Addr) (L0 D0 : Nat → Nat) (z0 : Nat → List Int) (A1 : Option Addr) (n1 c1 : Nat) (z1 : List Int) (a2 : Int) (w : World) (_wp : (Lit.int .i64 sp).wf = true) (h0 : IsRows w A0 n0 c0 R0 L0 D0 z0) (g0 : IsRow .i64 w O0 m0 e0 y0) (h1 : IsRow .i64 w A1 n1 c1 z1) (_w2 : (Lit.int .i64 a2).wf = true) :
    Calls Try.prog 3 #[.agg #[.int .i64 sp, .slice A0 n0 c0, .slice O0 m0 e0], .slice A1 n1 c1, .int .i64 a2] w fun e w' => e = .returned (.bool true) ∧ Below w.heap.size w w' := by
  obtain ⟨r0, hn0, hL0⟩ := mat_in h0
  clear h0
  generalize (fun i j => (z0 i).getD j 0) = M0 at r0
  have RR0 := hide (fun (W : World) (hb : Below w.heap.size w W) => r0.keep hb hb.size)
  have HL0 := hide hL0
  clear r0 hL0
  clear _wp
  obtain ⟨q0, hm0⟩ := ints_in g0
  clear g0
  generalize (fun i => y0.getD i 0) = f0 at q0
  have Q0 := hide (fun (W : World) (hb : Below w.heap.size w W) => q0.keep hb hb.size)
  clear q0
  have esp : (sp != sp) = false := by simp
  obtain ⟨r1, hn1⟩ := ints_in h1
  clear h1
  generalize (fun i => z1.getD i 0) = f1 at r1
  have R1 := hide (fun (W : World) (hb : Below w.heap.size w W) => r1.keep hb hb.size)
  clear r1
  clear _w2
  by_cases hs1 : 1048576 < n1
  · go_enter Try.func3, Try.ntmps3
    go_wp2_with fail
    go_ret
    exact ⟨rfl, by go_grown⟩
  go_enter Try.func3, Try.ntmps3
  go_wp2_with fail
  refine (szScheme_any sp A0 O0 n0 c0 m0 e0 L0 M0 _ _ hn0 HL0.out hm0 (by omega) (by omega) (RR0.out _ (up' (Below.refl w.heap.size w) (by first | exact Below.refl _ _ | go_grown | exact Below.drew (by go_grown))))).mono ?_
  rintro e w1 ⟨r, rfl, hr1, hr2, hb1⟩
  have hc1 : Below w.heap.size w w1 := up' (by first | exact Below.refl _ _ | go_grown | exact Below.drew (by go_grown)) hb1
  have B1 : Below w.heap.size w w1 := up' (Below.refl w.heap.size w) hc1
  have z1 : w.heap.size ≤ w1.heap.size := hc1.size
  have zz1 : w.heap.size + 1 ≤ w1.heap.size := by have := hb1.size; simp at this; omega
  have XaS : Blk w1 (w.heap.size) 25 #[.int .i64 sp, .slice A0 n0 c0, .slice O0 m0 e0] := Blk.below (Blk.newAt (by simp) 25 #[.int .i64 sp, .slice A0 n0 c0, .slice O0 m0 e0]) hb1 (by simp; try omega)
  have TaS_1 := hide (fun (W : World) (hb : Below w1.heap.size w1 W) => Blk.below (XaS) hb (Blk.lt (XaS)))
  clear XaS
  by_cases h0 : r < 0
  · clear hr2
    go_wp2_with fail
    go_ret
    exact ⟨rfl, B1⟩
  obtain ⟨hn0, hm0, hL0⟩ := hr2 (by omega)
  clear hr2
  have HL0 := hide hL0
  clear hL0
  have S := hide (fun (b0 : Option Addr × Option Addr) (b1 : Option Addr) (W : World) (q0 : Mat W W.heap.size b0.1 n0 L0 M0) (s0 : Ints W W.heap.size b0.2 m0 f0) (q1 : Ints W W.heap.size b1 n1 f1) => SecXS sp b0.1 n0 n0 L0 M0 b0.2 m0 m0 f0 b1 n1 n1 f1 a2 W hn0 HL0.out hm0 q0 s0 (by omega) q1)
  have I := hide (fun (b0 : Option Addr × Option Addr) (b1 : Option Addr) (W : World) (q0 : Mat W W.heap.size b0.1 n0 L0 M0) (s0 : Ints W W.heap.size b0.2 m0 f0) (q1 : Ints W W.heap.size b1 n1 f1) => SecXI sp b0.1 n0 n0 L0 M0 b0.2 m0 m0 f0 b1 n1 n1 f1 a2 W hn0 HL0.out hm0 q0 s0 (by omega) q1)
  generalize secI sp n0 L0 M0 m0 f0 n1 f1 a2 = v0 at S I
  have ev0 : (v0 != v0) = false := by simp
  generalize secB sp n0 L0 M0 m0 f0 n1 f1 a2 = v1 at S I
  have ev1 : (v1 != v1) = false := by simp
  have xaS_0 := (TaS_1.out w1 (Below.refl _ _)).at_ (i := 0) rfl
  have xaS_1 := (TaS_1.out w1 (Below.refl _ _)).at_ (i := 1) rfl
  have xaS_2 := (TaS_1.out w1 (Below.refl _ _)).at_ (i := 2) rfl
  have xaS_l : w.heap.size < w1.heap.size := (TaS_1.out w1 (Below.refl _ _)).lt
  go_wp2_with fail
  clear xaS_0 xaS_1 xaS_2 xaS_l
  refine (toScheme_any sp A0 O0 n0 c0 m0 e0 L0 M0 f0 _ hn0 HL0.out hm0 (RR0.out _ (up' B1 (by first | exact Below.refl _ _ | go_grown | exact Below.drew (by go_grown)))) (Q0.out _ (up' B1 (by first | exact Below.refl _ _ | go_grown | exact Below.drew (by go_grown))))).mono ?_
  rintro e w2 ⟨Ps0, Ys0, rfl, m2, hb2⟩
  have hc2 : Below w1.heap.size w1 w2 := up' (by first | exact Below.refl _ _ | go_grown | exact Below.drew (by go_grown)) hb2
  have B2 : Below w.heap.size w w2 := up' B1 hc2
  have z2 : w1.heap.size ≤ w2.heap.size := hc2.size
  have TaS_2 := hide (fun (W : World) (hb : Below w2.heap.size w2 W) => TaS_1.out W (up' hc2 hb))
  clear TaS_1
  have Ts0_2 := hide (fun (W : World) (hb : Below w2.heap.size w2 W) => (m2).keepB hb)
  clear m2
  have xaS_0 := (TaS_2.out w2 (Below.refl _ _)).at_ (i := 0) rfl
  have xaS_1 := (TaS_2.out w2 (Below.refl _ _)).at_ (i := 1) rfl
  have xaS_2 := (TaS_2.out w2 (Below.refl _ _)).at_ (i := 2) rfl
  have xaS_l : w.heap.size < w2.heap.size := (TaS_2.out w2 (Below.refl _ _)).lt
  go_wp2_with fail
  clear xaS_0 xaS_1 xaS_2 xaS_l
  refine (toIntS_any A1 n1 c1 f1 _ (by omega) (R1.out _ (up' B2 (by first | exact Below.refl _ _ | go_grown | exact Below.drew (by go_grown))))).mono ?_
  rintro e w3 ⟨rfl, m3, hb3, y3⟩
  have hc3 : Below w2.heap.size w2 w3 := up' (by first | exact Below.refl _ _ | go_grown | exact Below.drew (by go_grown)) hb3
  have B3 : Below w.heap.size w w3 := up' B2 hc3
  have z3 : w2.heap.size ≤ w3.heap.size := hc3.size
  have TaS_3 := hide (fun (W : World) (hb : Below w3.heap.size w3 W) => TaS_2.out W (up' hc3 hb))
  clear TaS_2
  have Ts0_3 := hide (fun (W : World) (hb : Below w3.heap.size w3 W) => Ts0_2.out W (up' hc3 hb))
  clear Ts0_2
  have TM3 : IT w3 (w2.heap.size) w3.heap.size (some ⟨w2.heap.size, 0, none⟩) n1 f1 := (IT.of_rowIs m3).mono (Nat.le_refl _) m3.lt
  have Ts1_3 := hide (fun (W : World) (hb : Below w3.heap.size w3 W) => (TM3).keepB hb)
  clear m3 y3 TM3
  have xaS_0 := (TaS_3.out w3 (Below.refl _ _)).at_ (i := 0) rfl
  have xaS_1 := (TaS_3.out w3 (Below.refl _ _)).at_ (i := 1) rfl
  have xaS_2 := (TaS_3.out w3 (Below.refl _ _)).at_ (i := 2) rfl
  have xaS_l : w.heap.size < w3.heap.size := (TaS_3.out w3 (Below.refl _ _)).lt
  go_wp2_with fail
  clear xaS_0 xaS_1 xaS_2 xaS_l
  refine (S.out (Ps0, Ys0) (some ⟨w2.heap.size, 0, none⟩) _ (Ts0_3.out _ (by first | exact Below.refl _ _ | go_grown | exact Below.drew (by go_grown))).mat (Ts0_3.out _ (by first | exact Below.refl _ _ | go_grown | exact Below.drew (by go_grown))).ints (Ts1_3.out _ (by first | exact Below.refl _ _ | go_grown | exact Below.drew (by go_grown))).ints).mono ?_
  rintro e w4 ⟨rfl, hb4⟩
  have hc4 : Below w3.heap.size w3 w4 := up' (by first | exact Below.refl _ _ | go_grown | exact Below.drew (by go_grown)) hb4
  have B4 : Below w.heap.size w w4 := up' B3 hc4
  have z4 : w3.heap.size ≤ w4.heap.size := hc4.size
  have TaS_4 := hide (fun (W : World) (hb : Below w4.heap.size w4 W) => TaS_3.out W (up' hc4 hb))
  clear TaS_3
  have Ts0_4 := hide (fun (W : World) (hb : Below w4.heap.size w4 W) => Ts0_3.out W (up' hc4 hb))
  clear Ts0_3
  have Ts1_4 := hide (fun (W : World) (hb : Below w4.heap.size w4 W) => Ts1_3.out W (up' hc4 hb))
  clear Ts1_3
  have xaS_0 := (TaS_4.out w4 (Below.refl _ _)).at_ (i := 0) rfl
  have xaS_1 := (TaS_4.out w4 (Below.refl _ _)).at_ (i := 1) rfl
  have xaS_2 := (TaS_4.out w4 (Below.refl _ _)).at_ (i := 2) rfl
  have xaS_l : w.heap.size < w4.heap.size := (TaS_4.out w4 (Below.refl _ _)).lt
  go_wp2_with fail
  clear xaS_0 xaS_1 xaS_2 xaS_l
  refine (toScheme_any sp A0 O0 n0 c0 m0 e0 L0 M0 f0 _ hn0 HL0.out hm0 (RR0.out _ (up' B4 (by first | exact Below.refl _ _ | go_grown | exact Below.drew (by go_grown)))) (Q0.out _ (up' B4 (by first | exact Below.refl _ _ | go_grown | exact Below.drew (by go_grown))))).mono ?_
  rintro e w5 ⟨Px0, Yx0, rfl, m5, hb5⟩
  have hc5 : Below w4.heap.size w4 w5 := up' (by first | exact Below.refl _ _ | go_grown | exact Below.drew (by go_grown)) hb5
  have B5 : Below w.heap.size w w5 := up' B4 hc5
  have z5 : w4.heap.size ≤ w5.heap.size := hc5.size
  have TaS_5 := hide (fun (W : World) (hb : Below w5.heap.size w5 W) => TaS_4.out W (up' hc5 hb))
  clear TaS_4
  have Tx0_5 := hide (fun (W : World) (hb : Below w5.heap.size w5 W) => (m5).keepB hb)
  clear m5
  have xaS_0 := (TaS_5.out w5 (Below.refl _ _)).at_ (i := 0) rfl
  have xaS_1 := (TaS_5.out w5 (Below.refl _ _)).at_ (i := 1) rfl
  have xaS_2 := (TaS_5.out w5 (Below.refl _ _)).at_ (i := 2) rfl
  have xaS_l : w.heap.size < w5.heap.size := (TaS_5.out w5 (Below.refl _ _)).lt
  go_wp2_with fail
  clear xaS_0 xaS_1 xaS_2 xaS_l
  refine (toIntS_any A1 n1 c1 f1 _ (by omega) (R1.out _ (up' B5 (by first | exact Below.refl _ _ | go_grown | exact Below.drew (by go_grown))))).mono ?_
  rintro e w6 ⟨rfl, m6, hb6, y6⟩
  simp only [World.size_alloc] at m6
  have hc6 : Below w5.heap.size w5 w6 := up' (by first | exact Below.refl _ _ | go_grown | exact Below.drew (by go_grown)) hb6
  have B6 : Below w.heap.size w w6 := up' B5 hc6
  have z6 : w5.heap.size ≤ w6.heap.size := hc6.size
  have zz6 : w5.heap.size + 1 ≤ w6.heap.size := by have := hb6.size; simp at this; omega
  have TaS_6 := hide (fun (W : World) (hb : Below w6.heap.size w6 W) => TaS_5.out W (up' hc6 hb))
  clear TaS_5
  have Tx0_6 := hide (fun (W : World) (hb : Below w6.heap.size w6 W) => Tx0_5.out W (up' hc6 hb))
  clear Tx0_5
  have Xbx0 : Blk w6 (w5.heap.size) 29 #[.int .i64 sp, .slice Px0 n0 n0, .slice Yx0 m0 m0] := Blk.below (Blk.newAt (by simp) 29 #[.int .i64 sp, .slice Px0 n0 n0, .slice Yx0 m0 m0]) hb6 (by simp; try omega)
  have Tbx0_6 := hide (fun (W : World) (hb : Below w6.heap.size w6 W) => Blk.below (Xbx0) hb (Blk.lt (Xbx0)))
  clear Xbx0
  have TM6 : IT w6 (w5.heap.size + 1) w6.heap.size (some ⟨w5.heap.size + 1, 0, none⟩) n1 f1 := (IT.of_rowIs m6).mono (Nat.le_refl _) m6.lt
  have Tx1_6 := hide (fun (W : World) (hb : Below w6.heap.size w6 W) => (TM6).keepB hb)
  clear m6 y6 TM6
  have xaS_0 := (TaS_6.out w6 (Below.refl _ _)).at_ (i := 0) rfl
  have xaS_1 := (TaS_6.out w6 (Below.refl _ _)).at_ (i := 1) rfl
  have xaS_2 := (TaS_6.out w6 (Below.refl _ _)).at_ (i := 2) rfl
  have xaS_l : w.heap.size < w6.heap.size := (TaS_6.out w6 (Below.refl _ _)).lt
  have xbx0_0 := (Tbx0_6.out w6 (Below.refl _ _)).at_ (i := 0) rfl
  have xbx0_1 := (Tbx0_6.out w6 (Below.refl _ _)).at_ (i := 1) rfl
  have xbx0_2 := (Tbx0_6.out w6 (Below.refl _ _)).at_ (i := 2) rfl
  have xbx0_l : w5.heap.size < w6.heap.size := (Tbx0_6.out w6 (Below.refl _ _)).lt
  go_wp2_with fail
  clear xaS_0 xaS_1 xaS_2 xaS_l xbx0_0 xbx0_1 xbx0_2 xbx0_l
  refine (I.out (Px0, Yx0) (some ⟨w5.heap.size + 1, 0, none⟩) _ (Tx0_6.out _ (by first | exact Below.refl _ _ | go_grown | exact Below.drew (by go_grown))).mat (Tx0_6.out _ (by first | exact Below.refl _ _ | go_grown | exact Below.drew (by go_grown))).ints (Tx1_6.out _ (by first | exact Below.refl _ _ | go_grown | exact Below.drew (by go_grown))).ints).mono ?_
  rintro e w7 ⟨rfl, hb7⟩
  have hc7 : Below w6.heap.size w6 w7 := up' (by first | exact Below.refl _ _ | go_grown | exact Below.drew (by go_grown)) hb7
  have B7 : Below w.heap.size w w7 := up' B6 hc7
  have z7 : w6.heap.size ≤ w7.heap.size := hc7.size
  have TaS_7 := hide (fun (W : World) (hb : Below w7.heap.size w7 W) => TaS_6.out W (up' hc7 hb))
  clear TaS_6
  have Tx0_7 := hide (fun (W : World) (hb : Below w7.heap.size w7 W) => Tx0_6.out W (up' hc7 hb))
  clear Tx0_6
  have Tbx0_7 := hide (fun (W : World) (hb : Below w7.heap.size w7 W) => Tbx0_6.out W (up' hc7 hb))
  clear Tbx0_6
  have Tx1_7 := hide (fun (W : World) (hb : Below w7.heap.size w7 W) => Tx1_6.out W (up' hc7 hb))
  clear Tx1_6
  have xaS_0 := (TaS_7.out w7 (Below.refl _ _)).at_ (i := 0) rfl
  have xaS_1 := (TaS_7.out w7 (Below.refl _ _)).at_ (i := 1) rfl
  have xaS_2 := (TaS_7.out w7 (Below.refl _ _)).at_ (i := 2) rfl
  have xaS_l : w.heap.size < w7.heap.size := (TaS_7.out w7 (Below.refl _ _)).lt
  have xbx0_0 := (Tbx0_7.out w7 (Below.refl _ _)).at_ (i := 0) rfl
  have xbx0_1 := (Tbx0_7.out w7 (Below.refl _ _)).at_ (i := 1) rfl
  have xbx0_2 := (Tbx0_7.out w7 (Below.refl _ _)).at_ (i := 2) rfl
  have xbx0_l : w5.heap.size < w7.heap.size := (Tbx0_7.out w7 (Below.refl _ _)).lt
  go_wp2_with fail
  clear xaS_0 xaS_1 xaS_2 xaS_l xbx0_0 xbx0_1 xbx0_2 xbx0_l
  go_cut [54] (fun v wx => v = .bool false ∧ Below w7.heap.size w7 wx)
  case first =>
    have qaS_0 := (TaS_7.out w7 (Below.refl _ _)).at_ (i := 0) rfl
    have qaS_1 := (TaS_7.out w7 (Below.refl _ _)).at_ (i := 1) rfl
    have qaS_2 := (TaS_7.out w7 (Below.refl _ _)).at_ (i := 2) rfl
    have qbx0_0 := (Tbx0_7.out w7 (Below.refl _ _)).at_ (i := 0) rfl
    have qbx0_1 := (Tbx0_7.out w7 (Below.refl _ _)).at_ (i := 1) rfl
    have qbx0_2 := (Tbx0_7.out w7 (Below.refl _ _)).at_ (i := 2) rfl
    go_region_with (first | (go_at_call 13; refine (toScheme_any sp A0 O0 n0 c0 m0 e0 L0 M0 f0 _ hn0 HL0.out hm0 (RR0.out _ (up' B7 (by first | exact Below.refl _ _ | go_grown | exact Below.drew (by go_grown)))) (Q0.out _ (up' B7 (by first | exact Below.refl _ _ | go_grown | exact Below.drew (by go_grown))))).mono ?_; rintro e wr ⟨PY, YY, rfl, my, hby⟩; have hcy : Below w7.heap.size w7 wr := up' (by first | exact Below.refl _ _ | go_grown | exact Below.drew (by go_grown)) hby; have r0 := (Tbx0_7.out wr hcy).at_ (i := 0) rfl; have r1 := (Tbx0_7.out wr hcy).at_ (i := 1) rfl; have r2 := (Tbx0_7.out wr hcy).at_ (i := 2) rfl) | (go_at_call 16; refine (eqScheme_any sp Px0 PY Yx0 YY n0 n0 n0 m0 m0 m0 L0 M0 f0 _ (by omega) (fun i hi => Nat.le_trans (HL0.out i hi) (by omega)) (by omega) (Tx0_7.out _ (by first | exact hcy | exact hcy.drew | exact hcy.drew.drew | exact Below.refl _ _ | exact (Below.refl _ _).drew)).mat my.mat (Tx0_7.out _ (by first | exact hcy | exact hcy.drew | exact hcy.drew.drew | exact Below.refl _ _ | exact (Below.refl _ _).drew)).ints my.ints).mono ?_; rintro e wz ⟨rfl, hbz⟩))
    all_goals (go_wp2_with fail; go_meet; exact ⟨rfl, by first | exact up' hcy hbz | exact (up' hcy hbz).drew | exact up' hcy.drew hbz | exact (up' hcy.drew hbz).drew⟩)
  case rest =>
    obtain ⟨w8, rfl⟩ : ∃ x, x = wc := ⟨_, rfl⟩
    obtain ⟨rfl, hb8⟩ := hcut
    have hc8 : Below w7.heap.size w7 w8 := up' (by first | exact Below.refl _ _ | go_grown | exact Below.drew (by go_grown)) hb8
    have B8 : Below w.heap.size w w8 := up' B7 hc8
    have z8 : w7.heap.size ≤ w8.heap.size := hc8.size
    have TaS_8 := hide (fun (W : World) (hb : Below w8.heap.size w8 W) => TaS_7.out W (up' hc8 hb))
    clear TaS_7
    have Tx0_8 := hide (fun (W : World) (hb : Below w8.heap.size w8 W) => Tx0_7.out W (up' hc8 hb))
    clear Tx0_7
    have Tbx0_8 := hide (fun (W : World) (hb : Below w8.heap.size w8 W) => Tbx0_7.out W (up' hc8 hb))
    clear Tbx0_7
    have Tx1_8 := hide (fun (W : World) (hb : Below w8.heap.size w8 W) => Tx1_7.out W (up' hc8 hb))
    clear Tx1_7
    have xaS_0 := (TaS_8.out w8 (Below.refl _ _)).at_ (i := 0) rfl
    have xaS_1 := (TaS_8.out w8 (Below.refl _ _)).at_ (i := 1) rfl
    have xaS_2 := (TaS_8.out w8 (Below.refl _ _)).at_ (i := 2) rfl
    have xaS_l : w.heap.size < w8.heap.size := (TaS_8.out w8 (Below.refl _ _)).lt
    have xbx0_0 := (Tbx0_8.out w8 (Below.refl _ _)).at_ (i := 0) rfl
    have xbx0_1 := (Tbx0_8.out w8 (Below.refl _ _)).at_ (i := 1) rfl
    have xbx0_2 := (Tbx0_8.out w8 (Below.refl _ _)).at_ (i := 2) rfl
    have xbx0_l : w5.heap.size < w8.heap.size := (Tbx0_8.out w8 (Below.refl _ _)).lt
    go_wp2_with fail
    clear xaS_0 xaS_1 xaS_2 xaS_l xbx0_0 xbx0_1 xbx0_2 xbx0_l
    refine (toIntS_any A1 n1 c1 f1 _ (by omega) (R1.out _ (up' B8 (by first | exact Below.refl _ _ | go_grown | exact Below.drew (by go_grown))))).mono ?_
    rintro e w9 ⟨rfl, m9, hb9, y9⟩
    have hc9 : Below w8.heap.size w8 w9 := up' (by first | exact Below.refl _ _ | go_grown | exact Below.drew (by go_grown)) hb9
    have B9 : Below w.heap.size w w9 := up' B8 hc9
    have z9 : w8.heap.size ≤ w9.heap.size := hc9.size
    have TaS_9 := hide (fun (W : World) (hb : Below w9.heap.size w9 W) => TaS_8.out W (up' hc9 hb))
    clear TaS_8
    have Tx0_9 := hide (fun (W : World) (hb : Below w9.heap.size w9 W) => Tx0_8.out W (up' hc9 hb))
    clear Tx0_8
    have Tbx0_9 := hide (fun (W : World) (hb : Below w9.heap.size w9 W) => Tbx0_8.out W (up' hc9 hb))
    clear Tbx0_8
    have Tx1_9 := hide (fun (W : World) (hb : Below w9.heap.size w9 W) => Tx1_8.out W (up' hc9 hb))
    clear Tx1_8
    have TM9 : IT w9 (w8.heap.size) w9.heap.size (some ⟨w8.heap.size, 0, none⟩) n1 f1 := (IT.of_rowIs m9).mono (Nat.le_refl _) m9.lt
    have Ty1_9 := hide (fun (W : World) (hb : Below w9.heap.size w9 W) => (TM9).keepB hb)
    clear m9 y9 TM9
    have xaS_0 := (TaS_9.out w9 (Below.refl _ _)).at_ (i := 0) rfl
    have xaS_1 := (TaS_9.out w9 (Below.refl _ _)).at_ (i := 1) rfl
    have xaS_2 := (TaS_9.out w9 (Below.refl _ _)).at_ (i := 2) rfl
    have xaS_l : w.heap.size < w9.heap.size := (TaS_9.out w9 (Below.refl _ _)).lt
    have xbx0_0 := (Tbx0_9.out w9 (Below.refl _ _)).at_ (i := 0) rfl
    have xbx0_1 := (Tbx0_9.out w9 (Below.refl _ _)).at_ (i := 1) rfl
    have xbx0_2 := (Tbx0_9.out w9 (Below.refl _ _)).at_ (i := 2) rfl
    have xbx0_l : w5.heap.size < w9.heap.size := (Tbx0_9.out w9 (Below.refl _ _)).lt
    go_wp2_with fail
    clear xaS_0 xaS_1 xaS_2 xaS_l xbx0_0 xbx0_1 xbx0_2 xbx0_l
    refine (eqIntS_b (some ⟨w5.heap.size + 1, 0, none⟩) (some ⟨w8.heap.size, 0, none⟩) n1 n1 n1 f1 _ (by omega) (Tx1_9.out _ (by first | exact Below.refl _ _ | go_grown | exact Below.drew (by go_grown))).ints (Ty1_9.out _ (by first | exact Below.refl _ _ | go_grown | exact Below.drew (by go_grown))).ints).mono ?_
    rintro e w10 ⟨rfl, hb10⟩
    have hc10 : Below w9.heap.size w9 w10 := up' (by first | exact Below.refl _ _ | go_grown | exact Below.drew (by go_grown)) hb10
    have B10 : Below w.heap.size w w10 := up' B9 hc10
    have z10 : w9.heap.size ≤ w10.heap.size := hc10.size
    have TaS_10 := hide (fun (W : World) (hb : Below w10.heap.size w10 W) => TaS_9.out W (up' hc10 hb))
    clear TaS_9
    have Tx0_10 := hide (fun (W : World) (hb : Below w10.heap.size w10 W) => Tx0_9.out W (up' hc10 hb))
    clear Tx0_9
    have Tbx0_10 := hide (fun (W : World) (hb : Below w10.heap.size w10 W) => Tbx0_9.out W (up' hc10 hb))
    clear Tbx0_9
    have Tx1_10 := hide (fun (W : World) (hb : Below w10.heap.size w10 W) => Tx1_9.out W (up' hc10 hb))
    clear Tx1_9
    have xaS_0 := (TaS_10.out w10 (Below.refl _ _)).at_ (i := 0) rfl
    have xaS_1 := (TaS_10.out w10 (Below.refl _ _)).at_ (i := 1) rfl
    have xaS_2 := (TaS_10.out w10 (Below.refl _ _)).at_ (i := 2) rfl
    have xaS_l : w.heap.size < w10.heap.size := (TaS_10.out w10 (Below.refl _ _)).lt
    have xbx0_0 := (Tbx0_10.out w10 (Below.refl _ _)).at_ (i := 0) rfl
    have xbx0_1 := (Tbx0_10.out w10 (Below.refl _ _)).at_ (i := 1) rfl
    have xbx0_2 := (Tbx0_10.out w10 (Below.refl _ _)).at_ (i := 2) rfl
    have xbx0_l : w5.heap.size < w10.heap.size := (Tbx0_10.out w10 (Below.refl _ _)).lt
    go_wp2_with fail
    clear xaS_0 xaS_1 xaS_2 xaS_l xbx0_0 xbx0_1 xbx0_2 xbx0_l
    go_ret
    exact ⟨rfl, B10⟩
end Go.Proofs.Ytcalfblghblhcaa
