/-
  FnMendTwo returns true for every code: the walk. Conditions: none.
-/
import Derived.Test.YtkalecdjcdgodaaMendDraw
import Derived.Test.YtkalecdjcdgodaaMendUniq
import Derived.Test.YtkalecdjcdgodaaLawHelp2
import Derived.Test.YtkalecdjcdgodaaWExactMend
import Derived.Test.YtkalecdjcdgodaaWExactRows
namespace Go.Proofs.Ytkalecdjcdgodaa
open Go.RowKit

theorem quietW {P : Program} {f : FuncId} {args : Array Value} {w : World} {a n : Nat} {v : Value}
    (h : Calls P f args (w.drewN (a + n)) fun e w' => e = .returned v ∧ w.drewN (a + n) = w') :
    Calls P f args (w.drewN (a + n)) fun e w'' => e = .returned v ∧ ∃ m, w'' = w.drewN (a + m) :=
  h.mono fun _ _ ⟨he, hm⟩ => ⟨he, n, hm.symm⟩
theorem mdL_at {p : Int} {n : Nat} (h : (p = 3 ∧ n = 2) ∨ (p = 5 ∧ n = 4)) (i : Nat) : mdL p i = n := by
  rw [mdL]; omega
theorem md_some {p : Int} {n : Nat} {L : Nat → Nat} {M : Nat → Nat → Int} {lost : Int} (h : mdB p n L M lost = true) :
    ∃ s : Nat, lost = s ∧ s < 2 ^ (n + 2) ∧ ((p = 3 ∧ n = 2) ∨ (p = 5 ∧ n = 4)) ∧ (∀ i, i < n → L i = n + 2) ∧ mdN p n L M lost = n ∧ Bin n n (mdM p n L M lost) ∧ ∀ i, i < n → ∀ k, k < n + 2 → bt s k = false → plusF p.toNat (mdM p n L M lost) i k = M i k := by
  have hN : mdN p n L M lost = n := by rw [mdN, if_pos h]
  rw [mdB] at h
  cases hv : mdV p n L M lost with
  | none => rw [hv] at h; cases h
  | some g =>
    have hw : widB p n L M lost = true := by
      cases hw : widB p n L M lost
      · rw [mdV, hw] at hv; cases hv
      · rfl
    obtain ⟨hpn, hl, hbin, s, rfl, hs, _⟩ := wid_ok hw
    rw [mdV, if_pos hw] at hv
    have hok : okT p.toNat s M (fillA p.toNat s g M) = true := by
      have := List.find?_some hv
      exact this
    have hM : mdM p n L M (s : Nat) = fillA p.toNat s g M := by rw [mdM, mdV, if_pos hw, hv]; rfl
    have hp1 : p.toNat - 1 = n := by omega
    refine ⟨s, rfl, hs, hpn, hl, hN, ?_, fun i hi k hk hb => ?_⟩
    · rw [hM, fillA]
      have := fillT_bin (q := n) (m := n) (cs := clT (p.toNat - 1) s ((p.toNat - 1) * (p.toNat - 1))) (g := g) (M := M) (fun i j hi hj => hbin i j hi (by omega))
      exact this _
    · rw [hM]
      exact okT_true.1 hok i (by omega) k (by omega) hb
theorem arr_mk {p : Int} {n : Nat} {L : Nat → Nat} {M : Nat → Nat → Int} (h : (p = 3 ∧ n = 2) ∨ (p = 5 ∧ n = 4)) (hl : ∀ i, i < n → L i = n) (hb : Bin n n M) : arrB p n L M = true := by
  rw [arrB, Bool.and_eq_true, isA_true, bitsB_true]
  refine ⟨by omega, by omega, fun i hi => ⟨by rw [hl i hi]; omega, allR_true.2 fun j hj => inR_true.2 ?_⟩⟩
  rw [hl i hi] at hj
  have := hb i j hi hj
  omega
theorem wid_two {P q x : Nat} {M : Nat → Nat → Int} (h : (P = 3 ∧ q = 2) ∨ (P = 5 ∧ q = 4)) (hx : x < P + 1) (hM : Bin q q M) : widB P q (fun _ => q + 2) (plusF P M) (lo2 P x : Nat) = true := by
  have hb : Bin q (q + 2) (plusF P M) := by
    have e : P = q + 1 := by omega
    subst e
    exact W2_bin (W1_bin (by rw [Nat.add_sub_cancel]; exact hM) _) _
  have hbit : bitsB q (fun _ => q + 2) (plusF P M) ((P : Int) - 1) ((P : Int) + 1) = true := by
    rw [bitsB_true]
    refine ⟨by omega, fun i hi => ⟨by push_cast; omega, allR_true.2 fun j hj => inR_true.2 ?_⟩⟩
    have := hb i j hi hj
    omega
  obtain ⟨l1, l2, _⟩ := lo2_ok (by omega : P = 3 ∨ P = 5) hx
  rw [widB, hbit, isA_true.2 (by omega), Int.toNat_natCast]
  have l3 : inR (lo2 P x : Nat) 0 (2 ^ ((P : Int) + 1).toNat - 1) = true := inR_true.2 ⟨by omega, by
    have e : ((P : Int) + 1).toNat = P + 1 := by omega
    rw [e]
    have : ((lo2 P x : Nat) : Int) < ((2 ^ (P + 1) : Nat) : Int) := by exact_mod_cast l1
    push_cast at this
    omega⟩
  rw [l3]
  simp [l2]
theorem md_two {P q x : Nat} {M : Nat → Nat → Int} (h : (P = 3 ∧ q = 2) ∨ (P = 5 ∧ q = 4)) (hx : x < P + 1) (hM : Bin q q M) :
    mdB P q (fun _ => q + 2) (plusF P M) (lo2 P x : Nat) = true ∧ mdN P q (fun _ => q + 2) (plusF P M) (lo2 P x : Nat) = q ∧ (∀ i, mdL P i = q) ∧ ∀ i j, i < q → j < q → mdM P q (fun _ => q + 2) (plusF P M) (lo2 P x : Nat) i j = M i j := by
  obtain ⟨g, hg, hf⟩ := mend_back (by omega : P = 3 ∨ P = 5) hx (N := M) (by rw [show P - 1 = q by omega]; exact hM)
  rw [show P - 1 = q by omega] at hf
  have hv : mdV P q (fun _ => q + 2) (plusF P M) (lo2 P x : Nat) = some g := by
    rw [mdV, if_pos (wid_two h hx hM), Int.toNat_natCast, Int.toNat_natCast]
    exact hg
  have hb : mdB P q (fun _ => q + 2) (plusF P M) (lo2 P x : Nat) = true := by rw [mdB, hv]; rfl
  refine ⟨hb, by rw [mdN, if_pos hb], fun i => by rw [mdL, Int.toNat_natCast]; omega, fun i j hi hj => ?_⟩
  rw [mdM, hv, Int.toNat_natCast, Int.toNat_natCast]
  exact hf i j hi hj
theorem powerNL_any (n : Nat) (w : World) (hn : n ≤ 62) :
    Calls Try.prog 25 #[.int .i64 n] w fun e w' => e = .returned (.int .i64 ((2 ^ n : Nat) : Int)) ∧ w = w' :=
  (powerL_any n w hn).mono fun _ _ ⟨he, hw⟩ => ⟨by rw [he]; simp, hw⟩

set_option maxRecDepth 100000 in
set_option maxHeartbeats 4000000 in
theorem fnMendTwo_walk (a : Option Addr) (len cap : Nat) (zs : List Int) (w : World) (h : IsRow .u8 w a len cap zs) :
    Calls Try.prog 13 #[.slice a len cap] w fun e w' => e = .returned (.bool true) ∧ Below w.heap.size w w' := by
  have hlen : len ≤ 9223372036854775807 := by obtain ⟨h1, h2, _⟩ := bytes_in h; unfold maxLen at h2; omega
  have Hh := hide h
  clear h
  by_cases hl : 1048576 < len
  · go_enter Try.func13, Try.ntmps13
    go_wp2_with fail
    go_ret
    exact ⟨rfl, by go_grown⟩
  go_enter Try.func13, Try.ntmps13
  go_wp2_with fail
  refine (DrawMendTwo_any a len cap zs w _ Hh.out (by go_grown)).mono ?_
  rintro e w1 ⟨p, A, n, c, L, M, lost, rfl, hm1, hL, hn, B1⟩
  have HB1 := hide B1
  have HM := hide (fun (W : World) (hb : Below w1.heap.size w1 W) => hm1.keep hb hb.size)
  have I := hide (fun (W : World) (hb : Below w1.heap.size w1 W) => MendTwoI_any p A n c L M lost W (by omega) (fun i hi => Nat.le_trans (hL i hi) (by omega)) (HM.out W hb))
  have S := hide (fun (W : World) (hb : Below w1.heap.size w1 W) => MendTwoS_any p A n c L M lost W (by omega) (fun i hi => Nat.le_trans (hL i hi) (by omega)) (HM.out W hb))
  obtain ⟨hbd, hbl⟩ := md_bd p n L M lost
  have HBL := hide hbl
  have HSM := hide (fun h => md_some (p := p) (n := n) (L := L) (M := M) (lost := lost) h)
  have HN0 := hide (show mdB p n L M lost = false → mdN p n L M lost = 0 from fun h => by simp [mdN, h])
  clear hm1 hL B1 hbl
  go_wp2_with fail
  refine (I.out _ (Below.refl _ _)).mono ?_
  rintro e w2 ⟨A1, c1, rfl, hm2, hb2⟩
  have HM2 := hide hm2
  have HB2 := hide hb2
  clear hm2 hb2
  generalize hNN : mdN p n L M lost = N at *
  generalize hBB : mdB p n L M lost = ok at *
  generalize hFF : mdM p n L M lost = F at *
  have HNN := hide hNN
  have HBB := hide hBB
  have HFF := hide hFF
  clear hNN hBB hFF
  go_wp2_with fail
  refine (S.out _ HB2.out).mono ?_
  rintro e w3 ⟨A2, c2, rfl, hm3, hb3⟩
  rw [HNN.out] at hm3
  rw [HFF.out] at hm3
  rw [HNN.out, HBB.out]
  have HB3 := hide (up hb3 HB2.out HB2.out.size)
  have HT3 := hide (HM2.out.keepB hb3)
  have hLb : ∀ i, i < N → mdL p i ≤ 9223372036854775807 := fun i hi => by have := HBL.out i hi; omega
  have HLB := hide hLb
  clear hLb
  have E1 := hide (fun (W : World) (hb : Below w3.heap.size w3 W) => equalLists_b A1 A2 N c1 c2 (mdL p) (mdL p) F F W (by omega) HLB.out (HT3.out.keepB hb).mat (hm3.keepB hb).mat (fun i _ => ⟨rfl, fun j _ => rfl⟩))
  clear hm3 hb3 HM2
  have hz3 : w1.heap.size ≤ w3.heap.size := HB3.out.size
  cases ok
  · obtain rfl := HN0.out rfl
    go_wp2_with fail
    refine (E1.out _ (Below.refl _ _)).mono ?_
    rintro e w4 ⟨rfl, hb4⟩
    have HB4 := hide hb4
    clear hb4
    go_wp2_with fail
    refine (E1.out _ HB4.out).mono ?_
    rintro e w5 ⟨rfl, hb5⟩
    go_wp2_with fail
    go_ret
    exact ⟨rfl, up (up (up hb5 HB4.out HB4.out.size) HB3.out hz3) HB1.out HB1.out.size⟩
  go_wp2_with fail
  refine (E1.out _ (Below.refl _ _)).mono ?_
  rintro e w4 ⟨rfl, hb4⟩
  have HB4 := hide (up hb4 HB3.out hz3)
  have HT4 := hide (HT3.out.keepB hb4)
  clear E1 hb4 HT3
  obtain ⟨s, hlo, hs, hpn, hle, hNm, hbin, hok⟩ := HSM.out (by first | rfl | trivial)
  obtain rfl : n = N := hNm.symm
  subst hlo
  have HM4 := hide (Mat.const2 (HM.out w4 HB4.out).mat hle)
  have HBIN := hide hbin
  have HOK := hide hok
  have HT5 := hide (show MT w4 w1.heap.size w2.heap.size A1 n (mdL p) F from HT4.out)
  have harr := arr_mk hpn (fun i _ => mdL_at hpn i) hbin
  have hrpn : rpN p n (mdL p) F = n := by rw [rpN, if_pos harr]
  have HRP := hide ((RowsPlusTwoI_any p A1 n c1 (mdL p) F w4 (by omega) (fun i hi => by have := HBL.out i hi; omega) HT4.out.mat).mono (fun e w' h => (show ∃ A c R, e = .returned (.slice A n c) ∧ TabD w' w4.heap.size w'.heap.size A n c R ∧ TbC R n (p.toNat + 1) (plusF p.toNat F) ∧ Below w4.heap.size w4 w' from by rw [RpPost, hrpn] at h; exact h)))
  have HLE := hide (mdL_at hpn)
  clear HNN HBB HFF HN0 HSM I S HM HBL HLB hle hNm hbin hok harr HT4 hbd hrpn
  rcases hpn with ⟨rfl, rfl⟩ | ⟨rfl, rfl⟩
  · have HMD := hide (fun (x : Nat) (hx : x < 4) => (show mdB 3 2 (fun _ => 4) (plusF 3 F) (lo2 3 x : Nat) = true ∧ mdN 3 2 (fun _ => 4) (plusF 3 F) (lo2 3 x : Nat) = 2 ∧ (∀ i, mdL 3 i = 2) ∧ ∀ i j, i < 2 → j < 2 → mdM 3 2 (fun _ => 4) (plusF 3 F) (lo2 3 x : Nat) i j = F i j from md_two (P := 3) (q := 2) (M := F) (by omega) hx HBIN.out))
    go_wp2_with fail
    refine (HRP.out).mono ?_
    rintro e w5 ⟨R3, k3, T3, rfl, ht3, hc3, hb5⟩
    have HB5 := hide (up hb5 HB4.out HB4.out.size)
    have HC5 := hide (show MatC w5 w5.heap.size R3 2 (fun _ => 4) (plusF 3 F) from hc3.matC ht3)
    have HM5 := hide (show Mat w5 w5.heap.size A 2 (fun _ => 4) M from HM4.out.keep hb5 hb5.size)
    have HT6 := hide (HT5.out.keepB hb5)
    obtain ⟨bo, oo, eo, hbo, hco⟩ := HC5.out (by omega)
    subst eo
    obtain ⟨ba, oa, ea, hba, hca⟩ := HM5.out (by omega)
    subst ea
    have HCO := hide hco
    have HCA := hide hca
    clear hco hca ht3 hc3 hb5 HRP HM4
    have hs : s < 16 := hs
    go_wp2_with fail
    go_loopw [11] (fun i wr => ∃ k : Nat, k ≤ 2 ∧ i = .int .i64 k ∧ ∃ q, wr = w5.drewN q) (fun i _ => 2 - (intOf i).toNat)
    case atStart => exact ⟨0, by omega, rfl, 0, rfl⟩
    case round =>
      obtain ⟨k, hk, rfl, q, rfl⟩ := hrel
      by_cases hkq : k < 2
      · obtain ⟨Ro, Co, e1, e2, e3⟩ := HCO.out k hkq
        obtain ⟨Ra, Ca, f1, f2⟩ := HCA.out k hkq
        obtain ⟨b1, o1, rfl, hb1, hc1⟩ := e3 (by omega)
        obtain ⟨b2, o2, rfl, hb2, hc2⟩ := f2 (by omega)
        have HC1 := hide hc1
        have HC2 := hide hc2
        have hkI : (k : Int) < 2 := by omega
        have hkI0 : (0 : Int) ≤ (k : Int) := by omega
        clear e3 f2 hc1 hc2
        go_wp2_with fail
        go_loopw [12] (fun i wr => ∃ j : Nat, j ≤ 4 ∧ i = .int .i64 j ∧ ∃ q, wr = w5.drewN q) (fun i _ => 4 - (intOf i).toNat)
        case atStart => exact ⟨0, by omega, rfl, by first | exact ⟨_, rfl⟩ | exact ⟨q, rfl⟩⟩
        case round =>
          obtain ⟨j, hj, rfl, q2, rfl⟩ := hrel
          by_cases hjm : j < 4
          · have hjI : (j : Int) ≤ 3 := by omega
            have hjI2 : (j : Int) < 4 := by omega
            have hjI0 : (0 : Int) ≤ (j : Int) := by omega
            have hd1 := HC1.out j (by omega)
            have hd2 := HC2.out j (by omega)
            cases hbt : bt s j
            · have hz := HOK.out k hkq j (by omega) hbt
              have hz2 : plusF 3 F k j = M k j := hz
              rw [hz2] at hd1
              clear hz hz2
              have HBT := hide (fun W => bitL_f s j W (by omega) (by omega) hbt)
              clear hbt
              generalize M k j = z at *
              have hzz : (z != z) = false := by simp
              go_wp2_with fail
              go_quiet ((go_at_call 31; with_reducible exact quietW (HBT.out _)))
              go_wp2_with fail
              go_roundw
              case rel => exact ⟨j + 1, by omega, by go_num, by first | exact ⟨_, rfl⟩ | exact ⟨_, World.drewN_drewN _ _ _⟩⟩
              case measure => simp [intOf]; omega
            · have HBT := hide (fun W => bitL_t s j W (by omega) (by omega) hbt)
              clear hbt hd1 hd2
              go_wp2_with fail
              go_quiet ((go_at_call 31; with_reducible exact quietW (HBT.out _)))
              go_wp2_with fail
              go_roundw
              case rel => exact ⟨j + 1, by omega, by go_num, by first | exact ⟨_, rfl⟩ | exact ⟨_, World.drewN_drewN _ _ _⟩⟩
              case measure => simp [intOf]; omega
          · obtain rfl : j = 4 := by omega
            go_wp2_with fail
            go_roundw
            case rel => exact ⟨k + 1, by omega, by go_num, by first | exact ⟨_, rfl⟩ | exact ⟨_, World.drewN_drewN _ _ _⟩⟩
            case measure => simp [intOf]; omega
      · obtain rfl : k = 2 := by omega
        go_wp2_with fail
        go_loopw [13] (fun i wr => ∃ x : Nat, x ≤ 4 ∧ i = .int .i64 x ∧ Below w5.heap.size w5 wr) (fun i _ => 4 - (intOf i).toNat)
        case atStart => exact ⟨0, by omega, rfl, below_drewN (Below.refl _ _) q⟩
        case round =>
          obtain ⟨x, hx, rfl, hbr⟩ := hrel
          have HBR := hide hbr
          have hzr : w5.heap.size ≤ wr.heap.size := hbr.size
          clear hbr
          by_cases hxm : x < 4
          · have hxI : (x : Int) ≤ 3 := by omega
            obtain ⟨y, hy⟩ : ∃ y, y = (x + 2) % 4 := ⟨_, rfl⟩
            have hyl : y < 4 := by rw [hy]; exact Nat.mod_lt _ (by omega)
            have htm : ((x : Int) + 2) % 4 = (y : Int) := by rw [hy]; omega
            have hl2 : lo2 3 x = 2 ^ x ||| 2 ^ y := by rw [hy]; rfl
            have hpx : 2 ^ x < 2 ^ 4 := Nat.pow_lt_pow_right (by omega) (by omega)
            have hpy : 2 ^ y < 2 ^ 4 := Nat.pow_lt_pow_right (by omega) (by omega)
            have hor := or_nat (2 ^ x) (2 ^ y) (by omega) (by omega)
            have HPX := hide (fun W => powerNL_any x W (by omega))
            have HPY := hide (fun W => powerNL_any y W (by omega))
            obtain ⟨m1, m2, m3, m4⟩ := HMD.out x hxm
            rw [hl2] at m1 m2 m4
            have HMT := hide (fun (W : World) (hb : Below wr.heap.size wr W) => MendTwoI_any 3 (some ⟨bo, oo, none⟩) 2 k3 (fun _ => 4) (plusF 3 F) ((2 ^ x ||| 2 ^ y : Nat) : Int) W (by omega) (fun i _ => by omega) (MatC.keep HC5.out (up hb HBR.out hzr) (Nat.le_trans hzr hb.size)))
            have HM4 := hide m4
            have HM2 := hide m2
            have HM1 := hide m1
            clear m1 m2 m3 m4 hy hl2
            generalize 2 ^ x ||| 2 ^ y = t at *
            generalize 2 ^ x = px at *
            generalize 2 ^ y = py at *
            have hw1 : IntKind.i64.wrap ((x : Int) + 2) = (x : Int) + 2 := IntWalk.i64_in _ (by omega)
            have hw2 : IntKind.i64.wrap (y : Int) = (y : Int) := IntWalk.i64_in _ (by omega)
            have hw4 : IntKind.i64.wrap 4 = 4 := IntWalk.i64_in _ (by omega)
            have htm2 : ((x : Int) + 2).tmod 4 = ((x : Int) + 2) % 4 := Int.tmod_eq_emod_of_nonneg (by omega)
            go_wp2_with fail
            go_region_held3 (fun _ => True) (first | exact trivial) (first | (go_at_call 25; with_reducible refine (HPX.out _).mono ?_; rintro e _ ⟨rfl, rfl⟩) | (go_at_call 25; with_reducible refine (HPY.out _).mono ?_; rintro e _ ⟨rfl, rfl⟩) | (go_at_call 41; refine (HMT.out _ (by first | exact Below.refl _ _ | exact (Below.refl _ _).drew | exact below_drewN (Below.refl _ _) _)).mono ?_; rintro e w7 ⟨A7, c7, rfl, hm7, hb7⟩; rw [HM2.out] at hm7; rw [HM1.out, HM2.out]; have hbr7 : Below wr.heap.size wr w7 := (by first | exact hb7 | exact up hb7 (Below.refl wr.heap.size wr).drew (Nat.le_refl _)); have HX := hide (show _ ∧ _ from ⟨hm7, hbr7⟩); clear hm7 hb7 hbr7))
            all_goals
              have E9 := hide (fun (W : World) (hb : Below w7.heap.size w7 W) => equalLists_b A7 A1 2 c7 c1 (mdL 3) (mdL 3) (mdM 3 2 (fun _ => 4) (plusF 3 F) (t : Nat)) F W (by omega) (fun i _ => by have e : mdL 3 i = 2 := HLE.out i; rw [e]; omega) (HX.out.1.keepB hb).mat ((HT6.out.keepB (up (up hb HX.out.2 HX.out.2.size) HBR.out hzr)).mat) (fun i hi => ⟨rfl, fun j hj => HM4.out i j hi (by have e : mdL 3 i = 2 := HLE.out i; omega)⟩))
              go_wp2_with fail
              refine (E9.out _ (by first | exact Below.refl _ _ | exact (Below.refl _ _).drew)).mono ?_
              rintro e w8 ⟨rfl, hb8⟩
              have HF := hide (show Below w5.heap.size w5 w8 from up (up (show Below w7.heap.size w7 w8 from by first | exact hb8 | exact up hb8 (Below.refl _ _).drew (Nat.le_refl _)) HX.out.2 HX.out.2.size) HBR.out hzr)
              clear hb8
              go_wp2_with fail
              go_roundw
              case rel => first | exact ⟨x + 1, by omega, by go_num, HF.out⟩ | ((repeat apply Exists.intro); exact ⟨⟨x + 1, by omega, by go_num, HF.out⟩, rfl⟩)
              case measure => simp [intOf]; omega
          · obtain rfl : x = 4 := by omega
            go_wp2_with fail
            go_ret
            exact ⟨rfl, up (up HBR.out HB5.out HB5.out.size) HB1.out HB1.out.size⟩
  · have HMD := hide (fun (x : Nat) (hx : x < 6) => (show mdB 5 4 (fun _ => 6) (plusF 5 F) (lo2 5 x : Nat) = true ∧ mdN 5 4 (fun _ => 6) (plusF 5 F) (lo2 5 x : Nat) = 4 ∧ (∀ i, mdL 5 i = 4) ∧ ∀ i j, i < 4 → j < 4 → mdM 5 4 (fun _ => 6) (plusF 5 F) (lo2 5 x : Nat) i j = F i j from md_two (P := 5) (q := 4) (M := F) (by omega) hx HBIN.out))
    go_wp2_with fail
    refine (HRP.out).mono ?_
    rintro e w5 ⟨R3, k3, T3, rfl, ht3, hc3, hb5⟩
    have HB5 := hide (up hb5 HB4.out HB4.out.size)
    have HC5 := hide (show MatC w5 w5.heap.size R3 4 (fun _ => 6) (plusF 5 F) from hc3.matC ht3)
    have HM5 := hide (show Mat w5 w5.heap.size A 4 (fun _ => 6) M from HM4.out.keep hb5 hb5.size)
    have HT6 := hide (HT5.out.keepB hb5)
    obtain ⟨bo, oo, eo, hbo, hco⟩ := HC5.out (by omega)
    subst eo
    obtain ⟨ba, oa, ea, hba, hca⟩ := HM5.out (by omega)
    subst ea
    have HCO := hide hco
    have HCA := hide hca
    clear hco hca ht3 hc3 hb5 HRP HM4
    have hs : s < 64 := hs
    go_wp2_with fail
    go_loopw [11] (fun i wr => ∃ k : Nat, k ≤ 4 ∧ i = .int .i64 k ∧ ∃ q, wr = w5.drewN q) (fun i _ => 4 - (intOf i).toNat)
    case atStart => exact ⟨0, by omega, rfl, 0, rfl⟩
    case round =>
      obtain ⟨k, hk, rfl, q, rfl⟩ := hrel
      by_cases hkq : k < 4
      · obtain ⟨Ro, Co, e1, e2, e3⟩ := HCO.out k hkq
        obtain ⟨Ra, Ca, f1, f2⟩ := HCA.out k hkq
        obtain ⟨b1, o1, rfl, hb1, hc1⟩ := e3 (by omega)
        obtain ⟨b2, o2, rfl, hb2, hc2⟩ := f2 (by omega)
        have HC1 := hide hc1
        have HC2 := hide hc2
        have hkI : (k : Int) < 4 := by omega
        have hkI0 : (0 : Int) ≤ (k : Int) := by omega
        clear e3 f2 hc1 hc2
        go_wp2_with fail
        go_loopw [12] (fun i wr => ∃ j : Nat, j ≤ 6 ∧ i = .int .i64 j ∧ ∃ q, wr = w5.drewN q) (fun i _ => 6 - (intOf i).toNat)
        case atStart => exact ⟨0, by omega, rfl, by first | exact ⟨_, rfl⟩ | exact ⟨q, rfl⟩⟩
        case round =>
          obtain ⟨j, hj, rfl, q2, rfl⟩ := hrel
          by_cases hjm : j < 6
          · have hjI : (j : Int) ≤ 5 := by omega
            have hjI2 : (j : Int) < 6 := by omega
            have hjI0 : (0 : Int) ≤ (j : Int) := by omega
            have hd1 := HC1.out j (by omega)
            have hd2 := HC2.out j (by omega)
            cases hbt : bt s j
            · have hz := HOK.out k hkq j (by omega) hbt
              have hz2 : plusF 5 F k j = M k j := hz
              rw [hz2] at hd1
              clear hz hz2
              have HBT := hide (fun W => bitL_f s j W (by omega) (by omega) hbt)
              clear hbt
              generalize M k j = z at *
              have hzz : (z != z) = false := by simp
              go_wp2_with fail
              go_quiet ((go_at_call 31; with_reducible exact quietW (HBT.out _)))
              go_wp2_with fail
              go_roundw
              case rel => exact ⟨j + 1, by omega, by go_num, by first | exact ⟨_, rfl⟩ | exact ⟨_, World.drewN_drewN _ _ _⟩⟩
              case measure => simp [intOf]; omega
            · have HBT := hide (fun W => bitL_t s j W (by omega) (by omega) hbt)
              clear hbt hd1 hd2
              go_wp2_with fail
              go_quiet ((go_at_call 31; with_reducible exact quietW (HBT.out _)))
              go_wp2_with fail
              go_roundw
              case rel => exact ⟨j + 1, by omega, by go_num, by first | exact ⟨_, rfl⟩ | exact ⟨_, World.drewN_drewN _ _ _⟩⟩
              case measure => simp [intOf]; omega
          · obtain rfl : j = 6 := by omega
            go_wp2_with fail
            go_roundw
            case rel => exact ⟨k + 1, by omega, by go_num, by first | exact ⟨_, rfl⟩ | exact ⟨_, World.drewN_drewN _ _ _⟩⟩
            case measure => simp [intOf]; omega
      · obtain rfl : k = 4 := by omega
        go_wp2_with fail
        go_loopw [13] (fun i wr => ∃ x : Nat, x ≤ 6 ∧ i = .int .i64 x ∧ Below w5.heap.size w5 wr) (fun i _ => 6 - (intOf i).toNat)
        case atStart => exact ⟨0, by omega, rfl, below_drewN (Below.refl _ _) q⟩
        case round =>
          obtain ⟨x, hx, rfl, hbr⟩ := hrel
          have HBR := hide hbr
          have hzr : w5.heap.size ≤ wr.heap.size := hbr.size
          clear hbr
          by_cases hxm : x < 6
          · have hxI : (x : Int) ≤ 5 := by omega
            obtain ⟨y, hy⟩ : ∃ y, y = (x + 2) % 6 := ⟨_, rfl⟩
            have hyl : y < 6 := by rw [hy]; exact Nat.mod_lt _ (by omega)
            have htm : ((x : Int) + 2) % 6 = (y : Int) := by rw [hy]; omega
            have hl2 : lo2 5 x = 2 ^ x ||| 2 ^ y := by rw [hy]; rfl
            have hpx : 2 ^ x < 2 ^ 6 := Nat.pow_lt_pow_right (by omega) (by omega)
            have hpy : 2 ^ y < 2 ^ 6 := Nat.pow_lt_pow_right (by omega) (by omega)
            have hor := or_nat (2 ^ x) (2 ^ y) (by omega) (by omega)
            have HPX := hide (fun W => powerNL_any x W (by omega))
            have HPY := hide (fun W => powerNL_any y W (by omega))
            obtain ⟨m1, m2, m3, m4⟩ := HMD.out x hxm
            rw [hl2] at m1 m2 m4
            have HMT := hide (fun (W : World) (hb : Below wr.heap.size wr W) => MendTwoI_any 5 (some ⟨bo, oo, none⟩) 4 k3 (fun _ => 6) (plusF 5 F) ((2 ^ x ||| 2 ^ y : Nat) : Int) W (by omega) (fun i _ => by omega) (MatC.keep HC5.out (up hb HBR.out hzr) (Nat.le_trans hzr hb.size)))
            have HM4 := hide m4
            have HM2 := hide m2
            have HM1 := hide m1
            clear m1 m2 m3 m4 hy hl2
            generalize 2 ^ x ||| 2 ^ y = t at *
            generalize 2 ^ x = px at *
            generalize 2 ^ y = py at *
            have hw1 : IntKind.i64.wrap ((x : Int) + 2) = (x : Int) + 2 := IntWalk.i64_in _ (by omega)
            have hw2 : IntKind.i64.wrap (y : Int) = (y : Int) := IntWalk.i64_in _ (by omega)
            have hw4 : IntKind.i64.wrap 6 = 6 := IntWalk.i64_in _ (by omega)
            have htm2 : ((x : Int) + 2).tmod 6 = ((x : Int) + 2) % 6 := Int.tmod_eq_emod_of_nonneg (by omega)
            go_wp2_with fail
            go_region_held3 (fun _ => True) (first | exact trivial) (first | (go_at_call 25; with_reducible refine (HPX.out _).mono ?_; rintro e _ ⟨rfl, rfl⟩) | (go_at_call 25; with_reducible refine (HPY.out _).mono ?_; rintro e _ ⟨rfl, rfl⟩) | (go_at_call 41; refine (HMT.out _ (by first | exact Below.refl _ _ | exact (Below.refl _ _).drew | exact below_drewN (Below.refl _ _) _)).mono ?_; rintro e w7 ⟨A7, c7, rfl, hm7, hb7⟩; rw [HM2.out] at hm7; rw [HM1.out, HM2.out]; have hbr7 : Below wr.heap.size wr w7 := (by first | exact hb7 | exact up hb7 (Below.refl wr.heap.size wr).drew (Nat.le_refl _)); have HX := hide (show _ ∧ _ from ⟨hm7, hbr7⟩); clear hm7 hb7 hbr7))
            all_goals
              have E9 := hide (fun (W : World) (hb : Below w7.heap.size w7 W) => equalLists_b A7 A1 4 c7 c1 (mdL 5) (mdL 5) (mdM 5 4 (fun _ => 6) (plusF 5 F) (t : Nat)) F W (by omega) (fun i _ => by have e : mdL 5 i = 4 := HLE.out i; rw [e]; omega) (HX.out.1.keepB hb).mat ((HT6.out.keepB (up (up hb HX.out.2 HX.out.2.size) HBR.out hzr)).mat) (fun i hi => ⟨rfl, fun j hj => HM4.out i j hi (by have e : mdL 5 i = 4 := HLE.out i; omega)⟩))
              go_wp2_with fail
              refine (E9.out _ (by first | exact Below.refl _ _ | exact (Below.refl _ _).drew)).mono ?_
              rintro e w8 ⟨rfl, hb8⟩
              have HF := hide (show Below w5.heap.size w5 w8 from up (up (show Below w7.heap.size w7 w8 from by first | exact hb8 | exact up hb8 (Below.refl _ _).drew (Nat.le_refl _)) HX.out.2 HX.out.2.size) HBR.out hzr)
              clear hb8
              go_wp2_with fail
              go_roundw
              case rel => first | exact ⟨x + 1, by omega, by go_num, HF.out⟩ | ((repeat apply Exists.intro); exact ⟨⟨x + 1, by omega, by go_num, HF.out⟩, rfl⟩)
              case measure => simp [intOf]; omega
          · obtain rfl : x = 6 := by omega
            go_wp2_with fail
            go_ret
            exact ⟨rfl, up (up HBR.out HB5.out HB5.out.size) HB1.out HB1.out.size⟩
end Go.Proofs.Ytkalecdjcdgodaa
