/-
  FnExactFlowOf returns true for all arguments: the walk. Conditions: none.
-/
import Derived.Test.YtecmihmopiepfaaFlowS
namespace Go.Proofs.Ytecmihmopiepfaa
open Go.RowKit

/-- the net, 0 beyond its points -/
def netC (n : Nat) (M : Nat → Nat → Int) (a b : Nat) : Int := if a < n ∧ b < n then M a b else 0
theorem Mat.congr2 {w : World} {B n : Nat} {A : Option Addr} {L : Nat → Nat} {M N : Nat → Nat → Int} (h : Mat w B A n L M) (hh : ∀ i j, i < n → j < L i → M i j = N i j) : Mat w B A n L N := fun h0 => by
  obtain ⟨b, off, e, hb, hc⟩ := h h0
  refine ⟨b, off, e, hb, fun i hi => ?_⟩
  obtain ⟨R, C, h1, h2⟩ := hc i hi
  exact ⟨R, C, h1, h2.congr (fun j hj => hh i j hi hj)⟩
theorem net_inv {n to : Nat} {L : Nat → Nat} {M : Nat → Nat → Int} (hv : vNet n L M = true) : FlInv n to (netC n M) 0 (flowV n to (netC n M)) := by
  obtain ⟨h1, h2, h3, h4⟩ := vNet_cut hv
  have hb : ∀ a b, 0 ≤ netC n M a b ∧ netC n M a b ≤ 20 := fun a b => by
    unfold netC
    split
    · rename_i h; exact h3 a b h.1 h.2
    · omega
  have hN : Net n (netC n M) := ⟨fun a b => (hb a b).1, fun a b => by have := hb a b; have := hb b a; omega⟩
  have hc := ct_bd 1 h1.2 (fun a b _ _ => hb a b) n (Nat.le_refl n)
  exact ⟨hN, by omega, by omega, rfl⟩

theorem FlowOfS_any (A : Option Addr) (n c : Nat) (L : Nat → Nat) (M : Nat → Nat → Int) (to : Int) (w : World) (hn : n ≤ 1048576) (hL : ∀ i, i < n → L i ≤ 1048576) (h : Mat w w.heap.size A n L M) :
    Calls Try.prog 30 #[.slice A n c, .int .i64 to] w fun e w' => e = .returned (.int .i64 (flowOfV n L M to)) ∧ Below w.heap.size w w' := by
  by_cases hok : (vNet n L M && inR to 1 ((n : Int) - 1)) = true
  · have hok2 := hok
    rw [Bool.and_eq_true] at hok2
    obtain ⟨hv, hr⟩ := hok2
    obtain ⟨h1, h2, h3, h4⟩ := vNet_cut hv
    have ht := inR_true.1 hr
    obtain ⟨to, rfl⟩ := Int.eq_ofNat_of_zero_le (show 0 ≤ to by omega)
    have e : flowOfV n L M to = flowV n to (netC n M) := by rw [flowOfV, if_pos hok]; rfl
    rw [e]
    have hM : Mat w w.heap.size A n L (netC n M) := h.congr2 (fun i j hi hj => by rw [netC, if_pos ⟨hi, by rw [← h2 i hi]; exact hj⟩])
    exact flowS_go A n c L (netC n M) to w h1 (by omega) _ (net_inv hv) ((validNetS_b A n c L M w hn hL h).mono fun _ _ ⟨he, hb⟩ => ⟨by rw [he, hv], hb⟩) hr h2 hM
  · have e : flowOfV n L M to = -1 := by rw [flowOfV, if_neg hok]
    rw [e]
    clear e

    have HV := hide (validNetS_b A n c L M w hn hL h)
    clear h hL
    cases hv : vNet n L M
    · rw [hv] at HV
      go_enter Try.func30, Try.ntmps30
      go_wp2_with fail
      refine (HV.out).mono ?_
      rintro e w1 ⟨rfl, hb⟩
      go_wp2_with fail
      go_ret
      exact ⟨rfl, hb⟩
    · have hr : inR to 1 ((n : Int) - 1) = false := by
        rw [hv] at hok; simpa using hok
      rw [hv] at HV
      have HR := hide (fun W => (hr ▸ inRange_any to 1 ((n : Int) - 1) W : Calls Try.prog 47 #[.int .i64 to, .int .i64 1, .int .i64 ((n : Int) - 1)] W fun e w' => e = .returned (.bool false) ∧ W = w'))
      clear hok hr
      go_enter Try.func30, Try.ntmps30
      go_wp2_with fail
      refine (HV.out).mono ?_
      rintro e w1 ⟨rfl, hb⟩
      go_wp2_with fail
      refine (HR.out _).mono ?_
      rintro e _ ⟨rfl, rfl⟩
      go_wp2_with fail
      go_ret
      exact ⟨rfl, hb⟩

theorem FlowOfI_any (A : Option Addr) (n c : Nat) (L : Nat → Nat) (M : Nat → Nat → Int) (to : Int) (w : World) (hn : n ≤ 1048576) (hL : ∀ i, i < n → L i ≤ 1048576) (h : Mat w w.heap.size A n L M) :
    Calls Try.prog 24 #[.slice A n c, .int .i64 to] w fun e w' => e = .returned (.int .i64 (flowOfV n L M to)) ∧ Below w.heap.size w w' := by
  by_cases hok : (vNet n L M && inR to 1 ((n : Int) - 1)) = true
  · have hok2 := hok
    rw [Bool.and_eq_true] at hok2
    obtain ⟨hv, hr⟩ := hok2
    obtain ⟨h1, h2, h3, h4⟩ := vNet_cut hv
    have ht := inR_true.1 hr
    obtain ⟨to, rfl⟩ := Int.eq_ofNat_of_zero_le (show 0 ≤ to by omega)
    have e : flowOfV n L M to = flowV n to (netC n M) := by rw [flowOfV, if_pos hok]; rfl
    rw [e]
    have hM : Mat w w.heap.size A n L (netC n M) := h.congr2 (fun i j hi hj => by rw [netC, if_pos ⟨hi, by rw [← h2 i hi]; exact hj⟩])
    exact flowI_go A n c L (netC n M) to w h1 (by omega) _ (net_inv hv) ((goalIn_any A n c L M to w hn hL h).mono fun _ _ ⟨he, hb⟩ => ⟨by rw [he, hv, hr]; rfl, hb⟩) h2 hM
  · have e : flowOfV n L M to = -1 := by rw [flowOfV, if_neg hok]
    rw [e]
    clear e

    have HG := hide (goalIn_any A n c L M to w hn hL h)
    rw [show (vNet n L M && inR to 1 ((n : Int) - 1)) = false by simpa using hok] at HG
    clear h hL hok
    go_enter Try.func24, Try.ntmps24
    go_wp2_with fail
    refine (HG.out).mono ?_
    rintro e w1 ⟨rfl, hb⟩
    go_wp2_with fail
    go_ret
    exact ⟨rfl, hb⟩

set_option maxHeartbeats 4000000 in
set_option maxRecDepth 100000 in
theorem fnExactFlowOf_walk (A0 : Option Addr) (n0 c0 : Nat) (R0 : Nat → Option Addr) (L0 D0 : Nat → Nat) (z0 : Nat → List Int) (a1 : Int) (w : World) (h0 : IsRows w A0 n0 c0 R0 L0 D0 z0) (_w1 : (Lit.int .i64 a1).wf = true) :
    Calls Try.prog 9 #[.slice A0 n0 c0, .int .i64 a1] w fun e w' => e = .returned (.bool true) ∧ Below w.heap.size w w' := by
  obtain ⟨r0, hn0, hL0⟩ := mat_in h0
  clear h0
  generalize (fun i j => (z0 i).getD j 0) = M0 at r0
  have RR0 := hide (fun (W : World) (hb : Below w.heap.size w W) => r0.keep hb hb.size)
  have HL0 := hide hL0
  clear r0 hL0
  clear _w1
  go_enter Try.func9, Try.ntmps9
  go_wp2_with fail
  refine (szIntSS_any A0 n0 c0 L0 M0 _ _ hn0 HL0.out (by omega) (by omega) (RR0.out _ (up' (Below.refl w.heap.size w) (by first | exact Below.refl _ _ | go_grown | exact Below.drew (by go_grown))))).mono ?_
  rintro e w1 ⟨r, rfl, hr1, hr2, hb1⟩
  have hc1 : Below w.heap.size w w1 := up' (by first | exact Below.refl _ _ | go_grown | exact Below.drew (by go_grown)) hb1
  have B1 : Below w.heap.size w w1 := up' (Below.refl w.heap.size w) hc1
  have z1 : w.heap.size ≤ w1.heap.size := hc1.size
  by_cases h0 : r < 0
  · clear hr2
    go_wp2_with fail
    go_ret
    exact ⟨rfl, B1⟩
  obtain ⟨hn0, hL0⟩ := hr2 (by omega)
  clear hr2
  have HL0 := hide hL0
  clear hL0
  have S := hide (fun (b0 : Option Addr) (W : World) (q0 : Mat W W.heap.size b0 n0 L0 M0) => FlowOfS_any b0 n0 n0 L0 M0 a1 W hn0 HL0.out q0)
  have I := hide (fun (b0 : Option Addr) (W : World) (q0 : Mat W W.heap.size b0 n0 L0 M0) => FlowOfI_any b0 n0 n0 L0 M0 a1 W hn0 HL0.out q0)
  generalize flowOfV n0 L0 M0 a1 = v0 at S I
  have ev0 : (v0 != v0) = false := by simp
  go_wp2_with fail
  refine (toIntSS_any A0 n0 c0 L0 M0 _ hn0 HL0.out (RR0.out _ (up' B1 (by first | exact Below.refl _ _ | go_grown | exact Below.drew (by go_grown))))).mono ?_
  rintro e w2 ⟨rfl, m2, hb2, y2⟩
  have hc2 : Below w1.heap.size w1 w2 := up' (by first | exact Below.refl _ _ | go_grown | exact Below.drew (by go_grown)) hb2
  have B2 : Below w.heap.size w w2 := up' B1 hc2
  have z2 : w1.heap.size ≤ w2.heap.size := hc2.size
  have TM2 : MT w2 (w1.heap.size) w2.heap.size (some ⟨w1.heap.size, 0, none⟩) n0 L0 M0 := (MT.of_ownMat m2).mono (Nat.le_refl _) (by omega)
  have Ts0_2 := hide (fun (W : World) (hb : Below w2.heap.size w2 W) => (TM2).keepB hb)
  clear m2 y2 TM2
  go_wp2_with fail
  refine (S.out (some ⟨w1.heap.size, 0, none⟩) _ (Ts0_2.out _ (by first | exact Below.refl _ _ | go_grown | exact Below.drew (by go_grown))).mat).mono ?_
  rintro e w3 ⟨rfl, hb3⟩
  have hc3 : Below w2.heap.size w2 w3 := up' (by first | exact Below.refl _ _ | go_grown | exact Below.drew (by go_grown)) hb3
  have B3 : Below w.heap.size w w3 := up' B2 hc3
  have z3 : w2.heap.size ≤ w3.heap.size := hc3.size
  have Ts0_3 := hide (fun (W : World) (hb : Below w3.heap.size w3 W) => Ts0_2.out W (up' hc3 hb))
  clear Ts0_2
  go_wp2_with fail
  refine (toIntSS_any A0 n0 c0 L0 M0 _ hn0 HL0.out (RR0.out _ (up' B3 (by first | exact Below.refl _ _ | go_grown | exact Below.drew (by go_grown))))).mono ?_
  rintro e w4 ⟨rfl, m4, hb4, y4⟩
  have hc4 : Below w3.heap.size w3 w4 := up' (by first | exact Below.refl _ _ | go_grown | exact Below.drew (by go_grown)) hb4
  have B4 : Below w.heap.size w w4 := up' B3 hc4
  have z4 : w3.heap.size ≤ w4.heap.size := hc4.size
  have TM4 : MT w4 (w3.heap.size) w4.heap.size (some ⟨w3.heap.size, 0, none⟩) n0 L0 M0 := (MT.of_ownMat m4).mono (Nat.le_refl _) (by omega)
  have Tx0_4 := hide (fun (W : World) (hb : Below w4.heap.size w4 W) => (TM4).keepB hb)
  clear m4 y4 TM4
  go_wp2_with fail
  refine (I.out (some ⟨w3.heap.size, 0, none⟩) _ (Tx0_4.out _ (by first | exact Below.refl _ _ | go_grown | exact Below.drew (by go_grown))).mat).mono ?_
  rintro e w5 ⟨rfl, hb5⟩
  have hc5 : Below w4.heap.size w4 w5 := up' (by first | exact Below.refl _ _ | go_grown | exact Below.drew (by go_grown)) hb5
  have B5 : Below w.heap.size w w5 := up' B4 hc5
  have z5 : w4.heap.size ≤ w5.heap.size := hc5.size
  have Tx0_5 := hide (fun (W : World) (hb : Below w5.heap.size w5 W) => Tx0_4.out W (up' hc5 hb))
  clear Tx0_4
  go_wp2_with fail
  refine (toIntSS_any A0 n0 c0 L0 M0 _ hn0 HL0.out (RR0.out _ (up' B5 (by first | exact Below.refl _ _ | go_grown | exact Below.drew (by go_grown))))).mono ?_
  rintro e w6 ⟨rfl, m6, hb6, y6⟩
  have hc6 : Below w5.heap.size w5 w6 := up' (by first | exact Below.refl _ _ | go_grown | exact Below.drew (by go_grown)) hb6
  have B6 : Below w.heap.size w w6 := up' B5 hc6
  have z6 : w5.heap.size ≤ w6.heap.size := hc6.size
  have Tx0_6 := hide (fun (W : World) (hb : Below w6.heap.size w6 W) => Tx0_5.out W (up' hc6 hb))
  clear Tx0_5
  have TM6 : MT w6 (w5.heap.size) w6.heap.size (some ⟨w5.heap.size, 0, none⟩) n0 L0 M0 := (MT.of_ownMat m6).mono (Nat.le_refl _) (by omega)
  have Ty0_6 := hide (fun (W : World) (hb : Below w6.heap.size w6 W) => (TM6).keepB hb)
  clear m6 y6 TM6
  go_wp2_with fail
  refine (eqIntSS_b (some ⟨w3.heap.size, 0, none⟩) (some ⟨w5.heap.size, 0, none⟩) n0 n0 n0 L0 M0 _ (by omega) (fun i hi => Nat.le_trans (HL0.out i hi) (by omega)) (Tx0_6.out _ (by first | exact Below.refl _ _ | go_grown | exact Below.drew (by go_grown))).mat (Ty0_6.out _ (by first | exact Below.refl _ _ | go_grown | exact Below.drew (by go_grown))).mat).mono ?_
  rintro e w7 ⟨rfl, hb7⟩
  have hc7 : Below w6.heap.size w6 w7 := up' (by first | exact Below.refl _ _ | go_grown | exact Below.drew (by go_grown)) hb7
  have B7 : Below w.heap.size w w7 := up' B6 hc7
  have z7 : w6.heap.size ≤ w7.heap.size := hc7.size
  have Tx0_7 := hide (fun (W : World) (hb : Below w7.heap.size w7 W) => Tx0_6.out W (up' hc7 hb))
  clear Tx0_6
  go_wp2_with fail
  go_ret
  exact ⟨rfl, B7⟩
end Go.Proofs.Ytecmihmopiepfaa
