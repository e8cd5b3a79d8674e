/-
  CutOf and ManyCut: the program and the reference agree. Conditions: the net is a slice of slices that can be read.
-/
import Derived.Test.YtecmihmopiepfaaCut
import Derived.Test.YtecmihmopiepfaaThing
namespace Go.Proofs.Ytecmihmopiepfaa
open Go.RowKit

theorem vNet_cut {n : Nat} {L : Nat → Nat} {M : Nat → Nat → Int} (h : vNet n L M = true) : (2 ≤ n ∧ n ≤ 6) ∧ (∀ a, a < n → L a = n) ∧ (∀ a b, a < n → b < n → 0 ≤ M a b ∧ M a b ≤ 20) ∧ ∀ a b, a < n → b ≤ a → M a b = 0 := by
  obtain ⟨h1, h2⟩ := vNet_true.1 h
  refine ⟨h1, fun a ha => (h2 a ha).1, fun a b ha hb => inR_true.1 ((h2 a ha).2 b hb).1, fun a b ha hb => ((h2 a ha).2 b (by omega)).2 hb⟩

/-- CutOf -/
def cutOfV (n : Nat) (L : Nat → Nat) (M : Nat → Nat → Int) (to : Int) : Int := if vNet n L M && inR to 1 ((n : Int) - 1) then cutV n to.toNat M else -1

theorem validNetS_b (A : Option Addr) (n c : Nat) (L : Nat → Nat) (M : Nat → Nat → Int) (w : World) (hn : n ≤ 1048576) (hL : ∀ i, i < n → L i ≤ 1048576) (h : Mat w w.heap.size A n L M) :
    Calls Try.prog 45 #[.slice A n c] w fun e w' => e = .returned (.bool (vNet n L M)) ∧ Below w.heap.size w w' :=
  (validNetS_any A n c L M w (by omega) (fun i hi => Nat.le_trans (hL i hi) (by omega)) h).mono fun _ _ ⟨he, q, hw⟩ => ⟨he, by rw [← hw]; exact below_drewN (Below.refl _ _) _⟩
theorem ValidNetI_b (A : Option Addr) (n c : Nat) (L : Nat → Nat) (M : Nat → Nat → Int) (w : World) (hn : n ≤ 1048576) (hL : ∀ i, i < n → L i ≤ 1048576) (h : Mat w w.heap.size A n L M) :
    Calls Try.prog 16 #[.slice A n c] w fun e w' => e = .returned (.bool (vNet n L M)) ∧ Below w.heap.size w w' :=
  (ValidNetI_any A n c L M w (by omega) (fun i hi => Nat.le_trans (hL i hi) (by omega)) h).mono fun _ _ ⟨he, q, hw⟩ => ⟨he, by rw [← hw]; exact below_drewN (Below.refl _ _) _⟩

theorem goalIn_any (A : Option Addr) (n c : Nat) (L : Nat → Nat) (M : Nat → Nat → Int) (to : Int) (w : World) (hn : n ≤ 1048576) (hL : ∀ i, i < n → L i ≤ 1048576) (h : Mat w w.heap.size A n L M) :
    Calls Try.prog 49 #[.slice A n c, .int .i64 to] w fun e w' => e = .returned (.bool (vNet n L M && inR to 1 ((n : Int) - 1))) ∧ Below w.heap.size w w' := by
  have H := hide (ValidNetI_b A n c L M w hn hL h)
  clear hL h
  cases hv : vNet n L M
  · rw [hv] at H
    go_enter Try.func49, Try.ntmps49
    go_wp2_with fail
    refine (H.out).mono ?_
    rintro e w1 ⟨rfl, hb⟩
    go_wp2_with fail
    go_ret
    exact ⟨rfl, hb⟩
  · rw [hv] at H
    go_enter Try.func49, Try.ntmps49
    go_wp2_with fail
    refine (H.out).mono ?_
    rintro e w1 ⟨rfl, hb⟩
    go_wp2_with fail
    refine (within_any _ _ _ _).mono ?_
    rintro e _ ⟨rfl, rfl⟩
    go_wp2_with fail
    go_ret
    exact ⟨rfl, hb⟩

theorem CutOfS_any (A : Option Addr) (n c : Nat) (L : Nat → Nat) (M : Nat → Nat → Int) (to : Int) (w : World) (hn : n ≤ 1048576) (hL : ∀ i, i < n → L i ≤ 1048576) (h : Mat w w.heap.size A n L M) :
    Calls Try.prog 21 #[.slice A n c, .int .i64 to] w fun e w' => e = .returned (.int .i64 (cutOfV n L M to)) ∧ Below w.heap.size w w' := by
  have HK := hide (fun (W : World) (hb : Below w.heap.size w W) => h.keep hb hb.size)
  have HL := hide hL
  clear hL h
  cases hv : vNet n L M
  · refine calls_int (a := -1) (by simp [cutOfV, hv]) ?_
    have H := hide (validNetS_b A n c L M w hn HL.out (HK.out _ (Below.refl _ _)))
    rw [hv] at H
    go_enter Try.func21, Try.ntmps21
    go_wp2_with fail
    refine (H.out).mono ?_
    rintro e w1 ⟨rfl, hb⟩
    go_wp2_with fail
    go_ret
    exact ⟨rfl, hb⟩
  obtain ⟨hb, hLn, hM, _⟩ := vNet_cut hv
  have HLn := hide hLn
  have HM := hide hM
  clear hLn hM
  cases hr : inR to 1 ((n : Int) - 1)
  · refine calls_int (a := -1) (by simp [cutOfV, hv, hr]) ?_
    have H := hide (validNetS_b A n c L M w hn HL.out (HK.out _ (Below.refl _ _)))
    rw [hv] at H
    go_enter Try.func21, Try.ntmps21
    go_wp2_with fail
    refine (H.out).mono ?_
    rintro e w1 ⟨rfl, hb⟩
    go_wp2_with fail
    refine (inRange_any _ _ _ _).mono ?_
    rintro e _ ⟨rfl, rfl⟩
    rw [hr]
    go_wp2_with fail
    go_ret
    exact ⟨rfl, hb⟩
  have hto := inR_true.1 hr
  obtain ⟨t, rfl⟩ := Int.eq_ofNat_of_zero_le (show 0 ≤ to by omega)
  refine calls_int (a := cutV n t M) (by simp [cutOfV, hv, hr]) ?_
  have H := hide (validNetS_b A n c L M w hn HL.out (HK.out _ (Below.refl _ _)))
  rw [hv] at H
  go_enter Try.func21, Try.ntmps21
  go_wp2_with fail
  refine (H.out).mono ?_
  rintro e w1 ⟨rfl, hb⟩
  go_wp2_with fail
  refine (inRange_any _ _ _ _).mono ?_
  rintro e _ ⟨rfl, rfl⟩
  rw [hr]
  go_wp2_with fail
  refine (cutS_any A n c L M t w1 (by omega) (by omega) HLn.out HM.out (HK.out _ hb)).mono ?_
  rintro e _ ⟨rfl, rfl⟩
  go_wp2_with fail
  go_ret
  exact ⟨rfl, hb⟩

theorem CutOfI_any (A : Option Addr) (n c : Nat) (L : Nat → Nat) (M : Nat → Nat → Int) (to : Int) (w : World) (hn : n ≤ 1048576) (hL : ∀ i, i < n → L i ≤ 1048576) (h : Mat w w.heap.size A n L M) :
    Calls Try.prog 22 #[.slice A n c, .int .i64 to] w fun e w' => e = .returned (.int .i64 (cutOfV n L M to)) ∧ Below w.heap.size w w' := by
  have HK := hide (fun (W : World) (hb : Below w.heap.size w W) => h.keep hb hb.size)
  have HL := hide hL
  clear hL h
  cases hv : vNet n L M
  · refine calls_int (a := -1) (by simp [cutOfV, hv]) ?_
    have H := hide (goalIn_any A n c L M to w hn HL.out (HK.out _ (Below.refl _ _)))
    rw [hv] at H
    go_enter Try.func22, Try.ntmps22
    go_wp2_with fail
    refine (H.out).mono ?_
    rintro e w1 ⟨rfl, hb⟩
    go_wp2_with fail
    go_ret
    exact ⟨rfl, hb⟩
  obtain ⟨hb, hLn, hM, _⟩ := vNet_cut hv
  have HLn := hide hLn
  have HM := hide hM
  clear hLn hM
  cases hr : inR to 1 ((n : Int) - 1)
  · refine calls_int (a := -1) (by simp [cutOfV, hv, hr]) ?_
    have H := hide (goalIn_any A n c L M to w hn HL.out (HK.out _ (Below.refl _ _)))
    rw [hv, hr] at H
    go_enter Try.func22, Try.ntmps22
    go_wp2_with fail
    refine (H.out).mono ?_
    rintro e w1 ⟨rfl, hb⟩
    go_wp2_with fail
    go_ret
    exact ⟨rfl, hb⟩
  have hto := inR_true.1 hr
  obtain ⟨t, rfl⟩ := Int.eq_ofNat_of_zero_le (show 0 ≤ to by omega)
  refine calls_int (a := cutV n t M) (by simp [cutOfV, hv, hr]) ?_
  have H := hide (goalIn_any A n c L M t w hn HL.out (HK.out _ (Below.refl _ _)))
  rw [hv, hr] at H
  go_enter Try.func22, Try.ntmps22
  go_wp2_with fail
  refine (H.out).mono ?_
  rintro e w1 ⟨rfl, hb⟩
  go_wp2_with fail
  refine (cutI_any A n c L M t w1 (by omega) (by omega) HLn.out HM.out (HK.out _ hb)).mono ?_
  rintro e _ ⟨rfl, rfl⟩
  go_wp2_with fail
  go_ret
  exact ⟨rfl, hb⟩


/-- ManyCut, after the goals 1 .. k -/
def manyF (n g : Nat) (M : Nat → Nat → Int) : Nat → Int | 0 => -1 | k + 1 => if bt g (k + 1) = true ∧ (manyF n g M k < 0 ∨ cutV n (k + 1) M < manyF n g M k) then cutV n (k + 1) M else manyF n g M k
def manyOk (n : Nat) (L : Nat → Nat) (M : Nat → Nat → Int) (goals : Int) : Bool := vNet n L M && inR goals 2 ((2 : Int) ^ n - 1) && !bt goals.toNat 0
/-- ManyCut -/
def manyV (n : Nat) (L : Nat → Nat) (M : Nat → Nat → Int) (goals : Int) : Int := if manyOk n L M goals then manyF n goals.toNat M (n - 1) else -1

theorem manyF_bd {n g : Nat} {M : Nat → Nat → Int} (hn : n ≤ 6) (h : ∀ a b, a < n → b < n → 0 ≤ M a b ∧ M a b ≤ 20) : ∀ k, -1 ≤ manyF n g M k ∧ manyF n g M k ≤ 720
  | 0 => by simp [manyF]
  | k + 1 => by
    have h1 := manyF_bd (g := g) hn h k
    have h2 := cutF_bd (to := k + 1) hn h (2 ^ n)
    simp only [manyF]
    split
    · unfold cutV; omega
    · omega
set_option maxHeartbeats 1000000 in
theorem ManyCutS_any (A : Option Addr) (n c : Nat) (L : Nat → Nat) (M : Nat → Nat → Int) (goals : Int) (w : World) (hn : n ≤ 1048576) (hL : ∀ i, i < n → L i ≤ 1048576) (h : Mat w w.heap.size A n L M) :
    Calls Try.prog 26 #[.slice A n c, .int .i64 goals] w fun e w' => e = .returned (.int .i64 (manyV n L M goals)) ∧ Below w.heap.size w w' := by
  have HK := hide (fun (W : World) (hb : Below w.heap.size w W) => h.keep hb hb.size)
  have H := hide (validNetS_b A n c L M w hn hL h)
  clear hL h
  cases hv : vNet n L M
  · refine calls_int (a := -1) (by simp [manyV, manyOk, hv]) ?_
    rw [hv] at H
    go_enter Try.func26, Try.ntmps26
    go_wp2_with fail
    refine (H.out).mono ?_
    rintro e w1 ⟨rfl, hb⟩
    go_wp2_with fail
    go_ret
    exact ⟨rfl, hb⟩
  rw [hv] at H
  obtain ⟨hb6, hLn, hM, _⟩ := vNet_cut hv
  have HLn := hide hLn
  have HM := hide hM
  have p1 := two_pow_pos n
  have p2 := two_pow_le hb6.2
  rw [show (2 : Int) ^ 6 = 64 by decide] at p2
  clear hLn hM

  cases hr : inR goals 1 ((2 : Int) ^ n - 1)
  · refine calls_int (a := -1) (by
      have h2 : inR goals 2 ((2 : Int) ^ n - 1) = false := inR_false.2 (fun h => by have := inR_false.1 hr; omega)
      simp [manyV, manyOk, h2]) ?_
    go_enter Try.func26, Try.ntmps26
    go_wp2_with fail
    refine (H.out).mono ?_
    rintro e w1 ⟨rfl, hb⟩
    go_wp2_with fail
    refine (powerS_any n _ (by omega)).mono ?_
    rintro e _ ⟨rfl, rfl⟩
    go_wp2_with fail
    refine (inRange_any _ _ _ _).mono ?_
    rintro e _ ⟨rfl, rfl⟩
    rw [hr]
    go_wp2_with fail
    go_ret
    exact ⟨rfl, hb⟩
  have hg := inR_true.1 hr
  obtain ⟨g, rfl⟩ := Int.eq_ofNat_of_zero_le (show 0 ≤ goals by omega)
  by_cases hb1 : bt g 0 = true
  · have hb0 := hb1
    refine calls_int (a := -1) (by simp [manyV, manyOk, hb0]) ?_
    go_enter Try.func26, Try.ntmps26
    go_wp2_with fail
    refine (H.out).mono ?_
    rintro e w1 ⟨rfl, hb⟩
    go_wp2_with fail
    refine (powerS_any n _ (by omega)).mono ?_
    rintro e _ ⟨rfl, rfl⟩
    go_wp2_with fail
    refine (inRange_any _ _ _ _).mono ?_
    rintro e _ ⟨rfl, rfl⟩
    rw [hr]
    go_wp2_with fail
    refine (bitS_t g 0 _ (by omega) (by omega) hb0).mono ?_
    rintro e _ ⟨rfl, rfl⟩
    go_wp2_with fail
    go_ret
    exact ⟨rfl, hb⟩
  have hb0 : bt g 0 = false := by simpa using hb1
  have hr2 : inR g 2 ((2 : Int) ^ n - 1) = true := by
    refine inR_mk ?_ (by omega)
    have : g ≠ 1 := by rintro rfl; rw [bt_one] at hb0; cases hb0
    omega

  refine calls_int (a := manyF n g M (n - 1)) (by simp [manyV, manyOk, hv, hr2, hb0]) ?_
  have HB := hide (fun k => manyF_bd (g := g) hb6.2 HM.out k)
  have HC := hide (fun t => cutF_bd (to := t) hb6.2 HM.out (2 ^ n))

  go_enter Try.func26, Try.ntmps26
  go_wp2_with fail
  refine (H.out).mono ?_
  rintro e w1 ⟨rfl, hb⟩
  go_wp2_with fail
  refine (powerS_any n _ (by omega)).mono ?_
  rintro e _ ⟨rfl, rfl⟩
  go_wp2_with fail
  refine (inRange_any _ _ _ _).mono ?_
  rintro e _ ⟨rfl, rfl⟩
  rw [hr]
  go_wp2_with fail
  refine (bitS_f g 0 _ (by omega) (by omega) hb0).mono ?_
  rintro e _ ⟨rfl, rfl⟩
  go_wp2_with fail
  go_loop [5, 6] (fun v i => ∃ k : Nat, k + 1 ≤ n ∧ i = .int .i64 ((k : Int) + 1) ∧ v = .int .i64 (manyF n g M k)) (fun _ i => n - (intOf i).toNat)
  case atStart => exact ⟨0, by omega, rfl, rfl⟩
  case round =>
    obtain ⟨k, hk, rfl, rfl⟩ := hrel
    have b1 := HB.out k
    have b2 := HC.out (k + 1)
    have HF := hide (show manyF n g M (k + 1) = if bt g (k + 1) = true ∧ (manyF n g M k < 0 ∨ cutV n (k + 1) M < manyF n g M k) then cutV n (k + 1) M else manyF n g M k from rfl)
    change 0 ≤ cutV n (k + 1) M ∧ cutV n (k + 1) M ≤ 720 at b2
    have HQ := hide (fun (hlt : k + 1 < n) => cutS_any A n c L M (k + 1) w1 hb6 (by omega) HLn.out HM.out (HK.out _ hb))
    have ek : (((k + 1 : Nat) : Int)) = (k : Int) + 1 := by omega
    rw [ek] at HQ
    have HE := hide ek
    clear ek
    generalize cutV n (k + 1) M = C at *
    by_cases hlt : k + 1 < n
    · cases hbk : bt g (k + 1)
      · have HBK := hide (bitS_f g (k + 1) w1 (by omega) (by omega) hbk)
        rw [HE.out] at HBK
        generalize manyF n g M k = G at *
        go_wp2_with fail
        refine (HBK.out).mono ?_
        rintro e _ ⟨rfl, rfl⟩
        go_wp2_with fail
        go_round
        case rel => exact ⟨k + 1, by omega, by go_num, by rw [HF.out, if_neg (by simp [hbk])]⟩
        case measure => simp [intOf]; omega
      · have HBK := hide (bitS_t g (k + 1) w1 (by omega) (by omega) hbk)
        rw [HE.out] at HBK
        generalize manyF n g M k = G at *
        by_cases h0 : G < 0
        · go_wp2_with fail
          refine (HBK.out).mono ?_
          rintro e _ ⟨rfl, rfl⟩
          go_wp2_with fail
          refine (HQ.out hlt).mono ?_
          rintro e _ ⟨rfl, rfl⟩
          go_wp2_with fail
          go_round
          case rel => exact ⟨k + 1, by omega, by go_num, by rw [HF.out, if_pos ⟨hbk, .inl h0⟩]⟩
          case measure => simp [intOf]; omega
        · by_cases hc : C < G
          · go_wp2_with fail
            refine (HBK.out).mono ?_
            rintro e _ ⟨rfl, rfl⟩
            go_wp2_with fail
            refine (HQ.out hlt).mono ?_
            rintro e _ ⟨rfl, rfl⟩
            go_wp2_with fail
            refine (HQ.out hlt).mono ?_
            rintro e _ ⟨rfl, rfl⟩
            go_wp2_with fail
            go_round
            case rel => exact ⟨k + 1, by omega, by go_num, by rw [HF.out, if_pos ⟨hbk, .inr hc⟩]⟩
            case measure => simp [intOf]; omega
          · go_wp2_with fail
            refine (HBK.out).mono ?_
            rintro e _ ⟨rfl, rfl⟩
            go_wp2_with fail
            refine (HQ.out hlt).mono ?_
            rintro e _ ⟨rfl, rfl⟩
            go_wp2_with fail
            go_round
            case rel => exact ⟨k + 1, by omega, by go_num, by rw [HF.out, if_neg (by omega)]⟩
            case measure => simp [intOf]; omega
    · have he : k = n - 1 := by omega
      subst he
      go_wp2_with fail
      go_ret
      exact ⟨rfl, hb⟩

set_option maxHeartbeats 1000000 in
theorem ManyCutI_any (A : Option Addr) (n c : Nat) (L : Nat → Nat) (M : Nat → Nat → Int) (goals : Int) (w : World) (hn : n ≤ 1048576) (hL : ∀ i, i < n → L i ≤ 1048576) (h : Mat w w.heap.size A n L M) :
    Calls Try.prog 27 #[.slice A n c, .int .i64 goals] w fun e w' => e = .returned (.int .i64 (manyV n L M goals)) ∧ Below w.heap.size w w' := by
  have HK := hide (fun (W : World) (hb : Below w.heap.size w W) => h.keep hb hb.size)
  have H := hide (ValidNetI_b A n c L M w hn hL h)
  clear hL h
  cases hv : vNet n L M
  · refine calls_int (a := -1) (by simp [manyV, manyOk, hv]) ?_
    rw [hv] at H
    go_enter Try.func27, Try.ntmps27
    go_wp2_with fail
    refine (H.out).mono ?_
    rintro e w1 ⟨rfl, hb⟩
    go_wp2_with fail
    go_ret
    exact ⟨rfl, hb⟩
  rw [hv] at H
  obtain ⟨hb6, hLn, hM, _⟩ := vNet_cut hv
  have HLn := hide hLn
  have HM := hide hM
  have p1 := two_pow_pos n
  have p2 := two_pow_le hb6.2
  rw [show (2 : Int) ^ 6 = 64 by decide] at p2
  clear hLn hM

  cases hr2 : inR goals 2 ((2 : Int) ^ n - 1)
  · refine calls_int (a := -1) (by simp [manyV, manyOk, hr2]) ?_
    go_enter Try.func27, Try.ntmps27
    go_wp2_with fail
    refine (H.out).mono ?_
    rintro e w1 ⟨rfl, hb⟩
    go_wp2_with fail
    refine (within_any _ _ _ _).mono ?_
    rintro e _ ⟨rfl, rfl⟩
    rw [hr2]
    go_wp2_with fail
    go_ret
    exact ⟨rfl, hb⟩
  have hg := inR_true.1 hr2
  obtain ⟨g, rfl⟩ := Int.eq_ofNat_of_zero_le (show 0 ≤ goals by omega)
  by_cases hb1 : bt g 0 = true
  · have hb0 := hb1
    refine calls_int (a := -1) (by simp [manyV, manyOk, hb0]) ?_
    obtain ⟨f1, f2⟩ := bt_t0 (s := g) (by omega) hb0
    go_enter Try.func27, Try.ntmps27
    go_wp2_with fail
    refine (H.out).mono ?_
    rintro e w1 ⟨rfl, hb⟩
    go_wp2_with fail
    refine (within_any _ _ _ _).mono ?_
    rintro e _ ⟨rfl, rfl⟩
    rw [hr2]
    go_wp2_with fail
    go_ret
    exact ⟨rfl, hb⟩
  have hb0 : bt g 0 = false := by simpa using hb1

  refine calls_int (a := manyF n g M (n - 1)) (by simp [manyV, manyOk, hv, hr2, hb0]) ?_
  have HB := hide (fun k => manyF_bd (g := g) hb6.2 HM.out k)
  have HC := hide (fun t => cutF_bd (to := t) hb6.2 HM.out (2 ^ n))

  obtain ⟨f1, f2⟩ := bt_f0 (s := g) (by omega) hb0
  go_enter Try.func27, Try.ntmps27
  go_wp2_with fail
  refine (H.out).mono ?_
  rintro e w1 ⟨rfl, hb⟩
  go_wp2_with fail
  refine (within_any _ _ _ _).mono ?_
  rintro e _ ⟨rfl, rfl⟩
  rw [hr2]
  go_wp2_with fail
  clear f1 f2
  go_loop [5, 6] (fun v i => ∃ k : Nat, k + 1 ≤ n ∧ i = .int .i64 ((k : Int) + 1) ∧ v = .int .i64 (manyF n g M k)) (fun _ i => n - (intOf i).toNat)
  case atStart => exact ⟨0, by omega, rfl, rfl⟩
  case round =>
    obtain ⟨k, hk, rfl, rfl⟩ := hrel
    have b1 := HB.out k
    have b2 := HC.out (k + 1)
    have HF := hide (show manyF n g M (k + 1) = if bt g (k + 1) = true ∧ (manyF n g M k < 0 ∨ cutV n (k + 1) M < manyF n g M k) then cutV n (k + 1) M else manyF n g M k from rfl)
    change 0 ≤ cutV n (k + 1) M ∧ cutV n (k + 1) M ≤ 720 at b2
    have HQ := hide (fun (hlt : k + 1 < n) => cutI_any A n c L M (k + 1) w1 hb6 (by omega) HLn.out HM.out (HK.out _ hb))
    have ek : (((k + 1 : Nat) : Int)) = (k : Int) + 1 := by omega
    rw [ek] at HQ
    have HE := hide ek
    clear ek
    generalize cutV n (k + 1) M = C at *
    by_cases hlt : k + 1 < n
    · cases hbk : bt g (k + 1)
      · obtain ⟨f1, f2⟩ := bt_f (s := g) (i := k + 1) (by omega) hbk
        rw [show (2 : Int) ^ (k + 1) = 2 ^ (k + 1) from rfl] at f1 f2
        generalize manyF n g M k = G at *

        go_wp2_with fail
        go_round
        case rel => exact ⟨k + 1, by omega, by go_num, by rw [HF.out, if_neg (by simp [hbk])]⟩
        case measure => simp [intOf]; omega
      · obtain ⟨f1, f2⟩ := bt_t (s := g) (i := k + 1) (by omega) hbk
        rw [show (2 : Int) ^ (k + 1) = 2 ^ (k + 1) from rfl] at f1 f2
        generalize manyF n g M k = G at *
        by_cases h0 : G < 0
        · 
          go_wp2_with fail
          refine (HQ.out hlt).mono ?_
          rintro e _ ⟨rfl, rfl⟩
          go_wp2_with fail
          go_round
          case rel => exact ⟨k + 1, by omega, by go_num, by rw [HF.out, if_pos ⟨hbk, .inl h0⟩]⟩
          case measure => simp [intOf]; omega
        · by_cases hc : C < G
          · 
            go_wp2_with fail
            refine (HQ.out hlt).mono ?_
            rintro e _ ⟨rfl, rfl⟩
            go_wp2_with fail
            refine (HQ.out hlt).mono ?_
            rintro e _ ⟨rfl, rfl⟩
            go_wp2_with fail
            go_round
            case rel => exact ⟨k + 1, by omega, by go_num, by rw [HF.out, if_pos ⟨hbk, .inr hc⟩]⟩
            case measure => simp [intOf]; omega
          · 
            go_wp2_with fail
            refine (HQ.out hlt).mono ?_
            rintro e _ ⟨rfl, rfl⟩
            go_wp2_with fail
            go_round
            case rel => exact ⟨k + 1, by omega, by go_num, by rw [HF.out, if_neg (by omega)]⟩
            case measure => simp [intOf]; omega
    · have he : k = n - 1 := by omega
      subst he
      go_wp2_with fail
      go_ret
      exact ⟨rfl, hb⟩

end Go.Proofs.Ytecmihmopiepfaa
