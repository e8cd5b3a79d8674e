/-
  Cuts of nets: the program and the reference agree on the least cut. Conditions: the net is valid, and the goal one of its points but the first.
-/
import Derived.Test.YtecmihmopiepfaaBits
import Derived.Test.YtecmihmopiepfaaNet
namespace Go.Proofs.Ytecmihmopiepfaa
open Go.RowKit

/-- what leaves the set s from point a to the first j points -/
def cs (M : Nat → Nat → Int) (s a : Nat) : Nat → Int | 0 => 0 | j + 1 => cs M s a j + (if bt s a && !bt s j then M a j else 0)
/-- what leaves the set s from the first a points -/
def ct (M : Nat → Nat → Int) (n s : Nat) : Nat → Int | 0 => 0 | a + 1 => ct M n s a + cs M s a n
/-- the set s has the first point and not the goal -/
def okS (to s : Nat) : Bool := bt s 0 && !bt s to
/-- the reference's least cut among the first k sets -/
def cutF (n to : Nat) (M : Nat → Nat → Int) : Nat → Int | 0 => 720 | k + 1 => if okS to k then (if ct M n k n < cutF n to M k then ct M n k n else cutF n to M k) else cutF n to M k
/-- the program's -/
def cutG (n to : Nat) (M : Nat → Nat → Int) : Nat → Int | 0 => -1 | k + 1 => if okS to k then (if cutG n to M k < 0 ∨ ct M n k n < cutG n to M k then ct M n k n else cutG n to M k) else cutG n to M k

theorem cs_bd {M : Nat → Nat → Int} {n a : Nat} (s : Nat) (h : ∀ b, b < n → 0 ≤ M a b ∧ M a b ≤ 20) : ∀ j, j ≤ n → 0 ≤ cs M s a j ∧ cs M s a j ≤ 20 * j
  | 0, _ => by simp [cs]
  | j + 1, hj => by
    have h1 := cs_bd s h j (by omega)
    have h2 := h j (by omega)
    simp only [cs]
    split <;> omega
theorem ct_bd {M : Nat → Nat → Int} {n : Nat} (s : Nat) (hn : n ≤ 6) (h : ∀ a b, a < n → b < n → 0 ≤ M a b ∧ M a b ≤ 20) : ∀ a, a ≤ n → 0 ≤ ct M n s a ∧ ct M n s a ≤ 120 * a
  | 0, _ => by simp [ct]
  | a + 1, ha => by
    have h1 := ct_bd s hn h a (by omega)
    have h2 := cs_bd s (fun b hb => h a b (by omega) hb) n (Nat.le_refl n)
    simp only [ct]
    omega
theorem cutF_bd {n to : Nat} {M : Nat → Nat → Int} (hn : n ≤ 6) (h : ∀ a b, a < n → b < n → 0 ≤ M a b ∧ M a b ≤ 20) : ∀ k, 0 ≤ cutF n to M k ∧ cutF n to M k ≤ 720
  | 0 => by simp [cutF]
  | k + 1 => by
    have h1 := cutF_bd (to := to) hn h k
    have h2 := ct_bd k hn h n (Nat.le_refl n)
    simp only [cutF]
    split
    · split <;> omega
    · omega
theorem cutG_F {n to : Nat} {M : Nat → Nat → Int} (hn : n ≤ 6) (h : ∀ a b, a < n → b < n → 0 ≤ M a b ∧ M a b ≤ 20) : ∀ k, (cutG n to M k = -1 ∧ cutF n to M k = 720 ∧ ∀ s, s < k → okS to s = false) ∨ cutG n to M k = cutF n to M k
  | 0 => .inl ⟨rfl, rfl, fun s hs => absurd hs (by omega)⟩
  | k + 1 => by
    have h1 := cutG_F (to := to) hn h k
    have h2 := ct_bd k hn h n (Nat.le_refl n)
    have h3 := cutF_bd (to := to) hn h k
    simp only [cutF, cutG]
    cases ho : okS to k
    · rcases h1 with ⟨e1, e2, e3⟩ | e
      · refine .inl ⟨by simpa using e1, by simpa using e2, fun s hs => ?_⟩
        by_cases e : s = k
        · subst e; exact ho
        · exact e3 s (by omega)
      · exact .inr (by simpa using e)
    · refine .inr ?_
      simp only [if_true]
      rcases h1 with ⟨e1, e2, e3⟩ | e
      · rw [e1, e2, if_pos (by omega)]
        split <;> omega
      · rw [e]
        by_cases hl : ct M n k n < cutF n to M k
        · rw [if_pos (.inr hl), if_pos hl]
        · rw [if_neg (by omega), if_neg hl]
/-- the least cut -/
def cutV (n to : Nat) (M : Nat → Nat → Int) : Int := cutF n to M (2 ^ n)
theorem cutG_eq {n to : Nat} {M : Nat → Nat → Int} (hn : 2 ≤ n ∧ n ≤ 6) (ht : 1 ≤ to) (h : ∀ a b, a < n → b < n → 0 ≤ M a b ∧ M a b ≤ 20) : cutG n to M (2 ^ n) = cutV n to M := by
  rcases cutG_F (to := to) hn.2 h (2 ^ n) with ⟨_, _, e⟩ | e
  · have h1 := e 1 (Nat.one_lt_two_pow (by omega))
    rw [okS, bt_one, bt_one' ht] at h1
    cases h1
  · exact e

/-- of the sets that count the least cut is at most what leaves it, and it is one of these -/
theorem cutF_le {n to : Nat} {M : Nat → Nat → Int} : ∀ k s, s < k → okS to s = true → cutF n to M k ≤ ct M n s n
  | 0, s, hs, _ => absurd hs (by omega)
  | k + 1, s, hs, ho => by
    simp only [cutF]
    by_cases e : s = k
    · subst e
      rw [if_pos ho]
      split <;> omega
    · have h1 := cutF_le (M := M) (n := n) k s (by omega) ho
      split
      · split <;> omega
      · exact h1
theorem cutF_one {n to : Nat} {M : Nat → Nat → Int} : ∀ k, cutF n to M k = 720 ∨ ∃ s, s < k ∧ okS to s = true ∧ cutF n to M k = ct M n s n
  | 0 => .inl rfl
  | k + 1 => by
    have h1 := cutF_one (M := M) (n := n) (to := to) k
    simp only [cutF]
    split
    · rename_i ho
      split
      · exact .inr ⟨k, by omega, ho, rfl⟩
      · rcases h1 with h1 | ⟨s, a, b, c⟩
        · exact .inl h1
        · exact .inr ⟨s, by omega, b, c⟩
    · rcases h1 with h1 | ⟨s, a, b, c⟩
      · exact .inl h1
      · exact .inr ⟨s, by omega, b, c⟩

theorem cutI_any (A : Option Addr) (n c : Nat) (L : Nat → Nat) (M : Nat → Nat → Int) (to : Nat) (w : World) (hv : 2 ≤ n ∧ n ≤ 6) (ht : 1 ≤ to ∧ to < n) (hLn : ∀ a, a < n → L a = n) (hM : ∀ a b, a < n → b < n → 0 ≤ M a b ∧ M a b ≤ 20) (h : Mat w w.heap.size A n L M) :
    Calls Try.prog 50 #[.slice A n c, .int .i64 to] w fun e w' => e = .returned (.int .i64 (cutV n to M)) ∧ w = w' := by
  refine calls_int (a := cutG n to M (2 ^ n)) (cutG_eq hv ht.1 hM) ?_
  have H := hide h
  have HL := hide hLn
  have HM := hide hM
  have HC := hide (fun k => ct_bd (M := M) k hv.2 hM)
  have HS := hide (fun a (ha : a < n) s => cs_bd (M := M) (n := n) (a := a) s (fun b hb => hM a b ha hb))
  have HG := hide (fun k => (by
    rcases cutG_F (to := to) hv.2 hM k with ⟨e, _⟩ | e
    · omega
    · have := cutF_bd (to := to) hv.2 hM k
      omega : -1 ≤ cutG n to M k ∧ cutG n to M k ≤ 720))
  clear h hLn hM
  have p1 := two_pow_pos n
  have p2 := two_pow_le hv.2
  rw [show (2 : Int) ^ 6 = 64 by decide] at p2
  have PN := hide (show ((2 ^ n : Nat) : Int) = 2 ^ n by push_cast; rfl)
  go_enter Try.func50, Try.ntmps50
  go_wp2_with fail
  go_loop [5, 15] (fun best s => ∃ k : Nat, (k : Int) ≤ 2 ^ n ∧ s = .int .i64 k ∧ best = .int .i64 (cutG n to M k)) (fun _ i => 64 - (intOf i).toNat)
  case atStart => exact ⟨0, by omega, rfl, rfl⟩
  case round =>
    obtain ⟨k, hk, rfl, rfl⟩ := hrel
    have hk64 : k ≤ 9223372036854775807 := by omega
    have g1 := HG.out k
    by_cases hlt : (k : Int) < 2 ^ n
    · cases h0 : bt k 0
      · have HG1 := hide (show cutG n to M (k + 1) = cutG n to M k by simp [cutG, okS, h0])
        obtain ⟨f1, f2⟩ := bt_f0 hk64 h0
        generalize cutG n to M k = G at *
        go_wp2_with fail
        go_round
        case rel => exact ⟨k + 1, by omega, by go_num, by rw [HG1.out]⟩
        case measure => simp [intOf]; omega
      · obtain ⟨f1, f2⟩ := bt_t0 hk64 h0
        cases h1 : bt k to
        · obtain ⟨f3, f4⟩ := bt_f hk64 h1
          have HG1 := hide (show cutG n to M (k + 1) = if cutG n to M k < 0 ∨ ct M n k n < cutG n to M k then ct M n k n else cutG n to M k by simp [cutG, okS, h0, h1])
          generalize cutG n to M k = G at *
          go_wp2_with fail
          clear f1 f2 f3 f4
          go_loop [7, 30] (fun v i => ∃ a : Nat, a ≤ n ∧ i = .int .i64 a ∧ v = .int .i64 (ct M n k a)) (fun _ i => n - (intOf i).toNat)
          case atStart => exact ⟨0, by omega, rfl, rfl⟩
          case round =>
            obtain ⟨a, ha, rfl, rfl⟩ := hrel
            have c1 := HC.out k a ha
            by_cases hla : a < n
            · obtain ⟨b, off, rfl, hbl, hc⟩ := H.out (by omega)
              obtain ⟨R, C, e1, e2⟩ := hc a hla
              rw [HL.out a hla] at e1
              have E2 := hide e2
              have HCA := hide (show ct M n k (a + 1) = ct M n k a + cs M k a n from rfl)
              have SB := hide (HS.out a hla k)
              clear hc e2
              generalize ct M n k a = T at *
              go_wp2_with fail
              clear e1
              go_loop [7, 37] (fun v i => ∃ j : Nat, j ≤ n ∧ i = .int .i64 j ∧ v = .int .i64 (T + cs M k a j)) (fun _ i => n - (intOf i).toNat)
              case atStart => exact ⟨0, by omega, rfl, by simp [cs]⟩
              case round =>
                obtain ⟨j, hj, rfl, rfl⟩ := hrel
                have s1 := SB.out j hj
                by_cases hlj : j < n
                · obtain ⟨rb, ro, rfl, hrb, hrc⟩ := E2.out (by rw [HL.out a hla]; omega)
                  have hcell := hrc j (by rw [HL.out a hla]; exact hlj)
                  have m1 := HM.out a j hla hlj
                  have HS1 := hide (show cs M k a (j + 1) = cs M k a j + (if bt k a && !bt k j then M a j else 0) from rfl)
                  clear hrc
                  generalize cs M k a j = U at *
                  generalize M a j = x at *
                  cases b1 : bt k a
                  · obtain ⟨f1, f2⟩ := bt_f hk64 b1
                    rw [b1] at HS1
                    go_wp2_with fail
                    go_round
                    case rel => exact ⟨j + 1, by omega, by go_num, by rw [HS1.out]; simp⟩
                    case measure => simp [intOf]; omega
                  · obtain ⟨f1, f2⟩ := bt_t hk64 b1
                    cases b2 : bt k j
                    · obtain ⟨f3, f4⟩ := bt_f hk64 b2
                      rw [b1, b2] at HS1
                      go_wp2_with fail
                      go_round
                      case rel => exact ⟨j + 1, by omega, by go_num, by rw [HS1.out]; simp; omega⟩
                      case measure => simp [intOf]; omega
                    · obtain ⟨f3, f4⟩ := bt_t hk64 b2
                      rw [b1, b2] at HS1
                      go_wp2_with fail
                      go_round
                      case rel => exact ⟨j + 1, by omega, by go_num, by rw [HS1.out]; simp⟩
                      case measure => simp [intOf]; omega
                · obtain rfl : j = n := by omega
                  go_wp2_with fail
                  go_round
                  case rel => exact ⟨a + 1, by omega, by go_num, by rw [HCA.out]⟩
                  case measure => simp [intOf]; omega
            · obtain rfl : a = n := by omega
              generalize ct M a k a = T at *
              by_cases hd : G < 0
              · go_wp2_with fail
                go_round
                case rel => exact ⟨k + 1, by omega, by go_num, by rw [HG1.out, if_pos (.inl hd)]⟩
                case measure => simp [intOf]; omega
              · by_cases hd2 : T < G
                · go_wp2_with fail
                  go_round
                  case rel => exact ⟨k + 1, by omega, by go_num, by rw [HG1.out, if_pos (.inr hd2)]⟩
                  case measure => simp [intOf]; omega
                · go_wp2_with fail
                  go_round
                  case rel => exact ⟨k + 1, by omega, by go_num, by rw [HG1.out, if_neg (by omega)]⟩
                  case measure => simp [intOf]; omega
        · obtain ⟨f3, f4⟩ := bt_t hk64 h1
          have HG1 := hide (show cutG n to M (k + 1) = cutG n to M k by simp [cutG, okS, h0, h1])
          generalize cutG n to M k = G at *
          go_wp2_with fail
          go_round
          case rel => exact ⟨k + 1, by omega, by go_num, by rw [HG1.out]⟩
          case measure => simp [intOf]; omega
    · have he : k = 2 ^ n := by have := PN.out; omega
      subst he
      go_wp2_with fail
      go_ret
      exact ⟨rfl, rfl⟩

theorem cutS_any (A : Option Addr) (n c : Nat) (L : Nat → Nat) (M : Nat → Nat → Int) (to : Nat) (w : World) (hv : 2 ≤ n ∧ n ≤ 6) (ht : 1 ≤ to ∧ to < n) (hLn : ∀ a, a < n → L a = n) (hM : ∀ a b, a < n → b < n → 0 ≤ M a b ∧ M a b ≤ 20) (h : Mat w w.heap.size A n L M) :
    Calls Try.prog 48 #[.slice A n c, .int .i64 to] w fun e w' => e = .returned (.int .i64 (cutV n to M)) ∧ w = w' := by
  have H := hide h
  have HL := hide hLn
  have HM := hide hM
  have HC := hide (fun k => ct_bd (M := M) k hv.2 hM)
  have HS := hide (fun a (ha : a < n) s => cs_bd (M := M) (n := n) (a := a) s (fun b hb => hM a b ha hb))
  have HF := hide (fun k => cutF_bd (to := to) hv.2 hM k)
  clear h hLn hM
  have p1 := two_pow_pos n
  have p2 := two_pow_le hv.2
  rw [show (2 : Int) ^ 6 = 64 by decide] at p2
  have PN := hide (show ((2 ^ n : Nat) : Int) = 2 ^ n by push_cast; rfl)
  go_enter Try.func48, Try.ntmps48
  go_wp2_with fail
  go_loop [5, 6] (fun best s => ∃ k : Nat, (k : Int) ≤ 2 ^ n ∧ s = .int .i64 k ∧ best = .int .i64 (cutF n to M k)) (fun _ i => 64 - (intOf i).toNat)
  case atStart => exact ⟨0, by omega, rfl, rfl⟩
  case round =>
    obtain ⟨k, hk, rfl, rfl⟩ := hrel
    have hk64 : k ≤ 9223372036854775807 := by omega
    have g1 := HF.out k
    go_wp2_with fail
    refine (powerS_any n w (by omega)).mono ?_
    rintro e _ ⟨rfl, rfl⟩
    by_cases hlt : (k : Int) < 2 ^ n
    · cases h0 : bt k 0
      · have HG1 := hide (show cutF n to M (k + 1) = cutF n to M k by simp [cutF, okS, h0])
        have HB0 := hide (bitS_f k 0 w (by omega) hk64 h0)
        generalize cutF n to M k = G at *
        go_wp2_with fail
        refine (HB0.out).mono ?_
        rintro e _ ⟨rfl, rfl⟩
        go_wp2_with fail
        go_round
        case rel => exact ⟨k + 1, by omega, by go_num, by rw [HG1.out]⟩
        case measure => simp [intOf]; omega
      · have HB0 := hide (bitS_t k 0 w (by omega) hk64 h0)
        cases h1 : bt k to
        · have HB1 := hide (bitS_f k to w (by omega) hk64 h1)
          have HG1 := hide (show cutF n to M (k + 1) = if ct M n k n < cutF n to M k then ct M n k n else cutF n to M k by simp [cutF, okS, h0, h1])
          generalize cutF n to M k = G at *
          go_wp2_with fail
          refine (HB0.out).mono ?_
          rintro e _ ⟨rfl, rfl⟩
          go_wp2_with fail
          refine (HB1.out).mono ?_
          rintro e _ ⟨rfl, rfl⟩
          go_wp2_with fail
          go_loop [7, 8] (fun v i => ∃ a : Nat, a ≤ n ∧ i = .int .i64 a ∧ v = .int .i64 (ct M n k a)) (fun _ i => n - (intOf i).toNat)
          case atStart => exact ⟨0, by omega, rfl, rfl⟩
          case round =>
            obtain ⟨a, ha, rfl, rfl⟩ := hrel
            have c1 := HC.out k a ha
            by_cases hla : a < n
            · obtain ⟨b, off, rfl, hbl, hc⟩ := H.out (by omega)
              obtain ⟨R, C, e1, e2⟩ := hc a hla
              rw [HL.out a hla] at e1
              have E2 := hide e2
              have HCA := hide (show ct M n k (a + 1) = ct M n k a + cs M k a n from rfl)
              have SB := hide (HS.out a hla k)
              clear hc e2
              generalize ct M n k a = T at *
              go_wp2_with fail
              go_loop [7, 9] (fun v i => ∃ j : Nat, j ≤ n ∧ i = .int .i64 j ∧ v = .int .i64 (T + cs M k a j)) (fun _ i => n - (intOf i).toNat)
              case atStart => exact ⟨0, by omega, rfl, by simp [cs]⟩
              case round =>
                obtain ⟨j, hj, rfl, rfl⟩ := hrel
                have s1 := SB.out j hj
                by_cases hlj : j < n
                · obtain ⟨rb, ro, rfl, hrb, hrc⟩ := E2.out (by rw [HL.out a hla]; omega)
                  have hcell := hrc j (by rw [HL.out a hla]; exact hlj)
                  have m1 := HM.out a j hla hlj
                  have HS1 := hide (show cs M k a (j + 1) = cs M k a j + (if bt k a && !bt k j then M a j else 0) from rfl)
                  clear hrc
                  generalize cs M k a j = U at *
                  generalize M a j = x at *
                  cases b1 : bt k a
                  · rw [b1] at HS1
                    go_wp2_with fail
                    refine (bitS_f k a w (by omega) hk64 b1).mono ?_
                    rintro e _ ⟨rfl, rfl⟩
                    go_wp2_with fail
                    go_round
                    case rel => exact ⟨j + 1, by omega, by go_num, by rw [HS1.out]; simp⟩
                    case measure => simp [intOf]; omega
                  · cases b2 : bt k j
                    · rw [b1, b2] at HS1
                      go_wp2_with fail
                      refine (bitS_t k a w (by omega) hk64 b1).mono ?_
                      rintro e _ ⟨rfl, rfl⟩
                      go_wp2_with fail
                      refine (bitS_f k j w (by omega) hk64 b2).mono ?_
                      rintro e _ ⟨rfl, rfl⟩
                      go_wp2_with fail
                      go_round
                      case rel => exact ⟨j + 1, by omega, by go_num, by rw [HS1.out]; simp; omega⟩
                      case measure => simp [intOf]; omega
                    · rw [b1, b2] at HS1
                      go_wp2_with fail
                      refine (bitS_t k a w (by omega) hk64 b1).mono ?_
                      rintro e _ ⟨rfl, rfl⟩
                      go_wp2_with fail
                      refine (bitS_t k j w (by omega) hk64 b2).mono ?_
                      rintro e _ ⟨rfl, rfl⟩
                      go_wp2_with fail
                      go_round
                      case rel => exact ⟨j + 1, by omega, by go_num, by rw [HS1.out]; simp⟩
                      case measure => simp [intOf]; omega
                · obtain rfl : j = n := by omega
                  go_wp2_with fail
                  go_round
                  case rel => exact ⟨a + 1, by omega, by go_num, by rw [HCA.out]⟩
                  case measure => simp [intOf]; omega
            · obtain rfl : a = n := by omega
              generalize ct M a k a = T at *
              by_cases hd2 : T < G
              · go_wp2_with fail
                go_round
                case rel => exact ⟨k + 1, by omega, by go_num, by rw [HG1.out, if_pos hd2]⟩
                case measure => simp [intOf]; omega
              · go_wp2_with fail
                all_goals
                  go_round
                  case rel => exact ⟨k + 1, by omega, by go_num, by rw [HG1.out, if_neg (by omega)]; try (congr 1; omega)⟩
                  case measure => simp [intOf]; omega
        · have HB1 := hide (bitS_t k to w (by omega) hk64 h1)
          have HG1 := hide (show cutF n to M (k + 1) = cutF n to M k by simp [cutF, okS, h0, h1])
          generalize cutF n to M k = G at *
          go_wp2_with fail
          refine (HB0.out).mono ?_
          rintro e _ ⟨rfl, rfl⟩
          go_wp2_with fail
          refine (HB1.out).mono ?_
          rintro e _ ⟨rfl, rfl⟩
          go_wp2_with fail
          go_round
          case rel => exact ⟨k + 1, by omega, by go_num, by rw [HG1.out]⟩
          case measure => simp [intOf]; omega
    · have he : k = 2 ^ n := by have := PN.out; omega
      subst he
      go_wp2_with fail
      go_ret
      exact ⟨rfl, rfl⟩
end Go.Proofs.Ytecmihmopiepfaa
