/-
  Arrays with two columns more, some lost: what is valid, by both; the cells to be filled. Conditions: the rows can be read.
-/
import Derived.Test.YtkalecdjcdgodaaPlusV
import Derived.Test.YtkalecdjcdgodaaWeight
namespace Go.Proofs.Ytkalecdjcdgodaa
open Go.RowKit

/-- rows with two columns more, at most two columns lost -/
def widB (p : Int) (n : Nat) (L : Nat → Nat) (M : Nat → Nat → Int) (lost : Int) : Bool := isA p && (bitsB n L M (p - 1) (p + 1) && (inR lost 0 (2 ^ (p + 1).toNat - 1) && decide (wt lost.toNat ≤ 2)))
theorem wid_p {p : Int} {n : Nat} {L : Nat → Nat} {M : Nat → Nat → Int} {lost : Int} (h : isA p = false) : widB p n L M lost = false := by simp [widB, h]
theorem wid_b {p : Int} {n : Nat} {L : Nat → Nat} {M : Nat → Nat → Int} {lost : Int} (h : bitsB n L M (p - 1) (p + 1) = false) : widB p n L M lost = false := by simp [widB, h]
theorem wid_l {p : Int} {n : Nat} {L : Nat → Nat} {M : Nat → Nat → Int} {lost : Int} (h : inR lost 0 (2 ^ (p + 1).toNat - 1) = false) : widB p n L M lost = false := by simp [widB, h]
theorem wid_w {p : Int} {n : Nat} {L : Nat → Nat} {M : Nat → Nat → Int} {lost : Int} (h : ¬ wt lost.toNat ≤ 2) : widB p n L M lost = false := by simp [widB, h]
theorem wid_bad {p : Int} {n : Nat} {L : Nat → Nat} {M : Nat → Nat → Int} {lost : Int} {i : Nat} (hi : i < n) (h : ¬ browOk (p + 1) L M i) : widB p n L M lost = false := by
  refine wid_b ?_
  rw [← Bool.not_eq_true, bitsB_true]; exact fun hh => h (hh.2 i hi)
theorem wid_ok {p : Int} {n : Nat} {L : Nat → Nat} {M : Nat → Nat → Int} {lost : Int} (h : widB p n L M lost = true) : ((p = 3 ∧ n = 2) ∨ (p = 5 ∧ n = 4)) ∧ (∀ i, i < n → L i = n + 2) ∧ Bin n (n + 2) M ∧ ∃ s : Nat, lost = s ∧ s < 2 ^ (n + 2) ∧ wt s ≤ 2 := by
  simp only [widB, Bool.and_eq_true, isA_true, bitsB_true, decide_eq_true_eq, inR_true] at h
  obtain ⟨h1, ⟨h2, h3⟩, h4, h5⟩ := h
  have hl : ∀ i, i < n → L i = n + 2 := fun i hi => by have := (h3 i hi).1; omega
  refine ⟨by omega, hl, fun i j hi hj => ?_, lost.toNat, by omega, ?_, h5⟩
  · have := inR_true.1 (allR_true.1 (h3 i hi).2 j (by rw [hl i hi]; exact hj))
    omega
  · rcases h1 with rfl | rfl
    · obtain rfl : n = 2 := by omega
      have : (2 : Int) ^ ((3 : Int) + 1).toNat = 16 := by decide
      rw [this] at h4
      omega
    · obtain rfl : n = 4 := by omega
      have : (2 : Int) ^ ((5 : Int) + 1).toNat = 64 := by decide
      rw [this] at h4
      omega

theorem validWide_any (p : Int) (A : Option Addr) (n c : Nat) (L : Nat → Nat) (M : Nat → Nat → Int) (lost : Int) (w : World) (hn : n ≤ 9223372036854775807) (hL : ∀ i, i < n → L i ≤ 9223372036854775807) (h : Mat w w.heap.size A n L M) :
    Calls Try.prog 76 #[.int .i64 p, .slice A n c, .int .i64 lost] w fun e w' => e = .returned (.bool (widB p n L M lost)) ∧ w = w' := by
  have Hh := hide h
  have HL := hide hL
  clear h hL
  by_cases hp : ¬ (p = 3 ∨ p = 5)
  · refine calls_bool (a := false) (by rw [wid_p (by rw [← Bool.not_eq_true, isA_true]; exact hp)]) ?_
    have e3 : (p != 3) = true := by simp; omega
    have e5 : (p != 5) = true := by simp; omega
    clear hp
    go_enter Try.func76, Try.ntmps76
    go_wp2_with fail
    go_ret
    exact ⟨rfl, rfl⟩
  have hp2 : p = 3 ∨ p = 5 := by omega
  clear hp
  rcases hp2 with rfl | rfl
  · by_cases hnq : n ≠ 2
    · have hne : ((n : Int) != 2) = true := by simp; omega
      refine calls_bool (a := false) (by rw [wid_b (by rw [← Bool.not_eq_true, bitsB_true]; omega)]) ?_
      clear hnq
      go_enter Try.func76, Try.ntmps76
      go_wp2_with fail
      go_ret
      exact ⟨rfl, rfl⟩
    obtain rfl : n = 2 := by omega
    have HPW : Hid (∀ W, Calls Try.prog 64 #[.int .i64 4] W fun e w' => e = .returned (.int .i64 16) ∧ W = w') := hide (fun W => powerS_any 4 W (by omega))
    have ht : (2 : Int) ^ ((3 : Int) + 1).toNat - 1 = 16 - 1 := by decide
    cases hlo : inR lost 0 15
    · refine calls_bool (a := false) (by rw [wid_l (by rw [ht]; exact hlo)]) ?_
      clear ht
      go_enter Try.func76, Try.ntmps76
      go_wp2_with fail
      refine (HPW.out _).mono ?_
      rintro e _ ⟨rfl, rfl⟩
      go_wp2_with (first | (go_at_call 56; refine (inRange_any _ _ _ _).mono ?_; rintro e w' ⟨rfl, rfl⟩))
      go_ret
      exact ⟨rfl, rfl⟩
    have hlr := inR_true.1 hlo
    obtain ⟨s, rfl⟩ := Int.eq_ofNat_of_zero_le hlr.1
    have HWT := hide (fun W => weightS_any s W (by omega))
    have h8 := (wt_small s (by omega)).2
    by_cases hw : ¬ wt s ≤ 2
    · refine calls_bool (a := false) (by rw [wid_w (by rw [Int.toNat_natCast]; exact hw)]) ?_
      clear ht
      generalize wt s = z at *
      go_enter Try.func76, Try.ntmps76
      go_wp2_with fail
      refine (HPW.out _).mono ?_
      rintro e _ ⟨rfl, rfl⟩
      go_wp2_with (first | (go_at_call 56; refine (inRange_any _ _ _ _).mono ?_; rintro e w' ⟨rfl, rfl⟩))
      refine (HWT.out _).mono ?_
      rintro e _ ⟨rfl, rfl⟩
      go_wp2_with fail
      go_ret
      exact ⟨rfl, rfl⟩
    have HBAD := hide (fun i hi h => wid_bad (p := 3) (n := 2) (L := L) (M := M) (lost := s) (i := i) hi h)
    have HGOOD := hide (fun (h : ∀ i, i < 2 → browOk 4 L M i) => (show widB 3 2 L M s = true from by
      rw [widB, Bool.and_eq_true, Bool.and_eq_true, Bool.and_eq_true, isA_true, bitsB_true, decide_eq_true_eq]
      exact ⟨by omega, ⟨by omega, h⟩, by rw [ht]; exact hlo, by rw [Int.toNat_natCast]; omega⟩))
    obtain ⟨b, off, rfl, hbl, hc⟩ := Hh.out (by omega)
    have HC := hide hc
    have hw2 : wt s ≤ 2 := by omega
    clear hc hnq Hh ht hw
    generalize wt s = z at *
    go_enter Try.func76, Try.ntmps76
    go_wp2_with fail
    refine (HPW.out _).mono ?_
    rintro e _ ⟨rfl, rfl⟩
    go_wp2_with (first | (go_at_call 56; refine (inRange_any _ _ _ _).mono ?_; rintro e w' ⟨rfl, rfl⟩))
    refine (HWT.out _).mono ?_
    rintro e _ ⟨rfl, rfl⟩
    go_wp2_with fail
    go_loop [7] (fun i => ∃ k : Nat, k ≤ 2 ∧ i = .int .i64 k ∧ (∀ a, a < k → browOk 4 L M a)) (fun i => 2 - (intOf i).toNat)
    case atStart => exact ⟨0, Nat.zero_le _, rfl, by simp⟩
    case round =>
      obtain ⟨k, hk, rfl, hall⟩ := hrel
      have Hall := hide hall
      clear hall
      by_cases hlt : k < 2
      · obtain ⟨R1, C1, e1, e2⟩ := HC.out k hlt
        by_cases hlk : L k = 4
        · rw [hlk] at e1 e2
          obtain ⟨br, ro, rfl, hbr, hcr⟩ := e2 (by omega)
          have HCR := hide hcr
          have HLK := hide hlk
          clear hcr e2 hlk
          go_wp2_with fail
          go_loop [8] (fun i => ∃ j : Nat, j ≤ 4 ∧ i = .int .i64 j ∧ (∀ t, t < j → inR (M k t) 0 1 = true)) (fun i => 4 - (intOf i).toNat)
          case atStart => exact ⟨0, Nat.zero_le _, rfl, by simp⟩
          case round =>
            obtain ⟨j, hj, rfl, hok⟩ := hrel
            have Hok := hide hok
            clear hok
            by_cases hjq : j < 4
            · have hcj := HCR.out j hjq
              cases hx : inR (M k j) 0 1
              · have HX := hide (HBAD.out k hlt (fun hb => by
                  have := allR_true.1 hb.2 j (by rw [HLK.out]; exact hjq)
                  rw [show ((2 : Int) - 1) = 1 by omega] at this
                  rw [this] at hx; cases hx))
                go_wp2_with (first | (go_at_call 56; refine (inRange_any _ _ _ _).mono ?_; rintro e w' ⟨rfl, rfl⟩))
                go_ret
                exact ⟨ret_bool HX.out.symm, rfl⟩
              · go_wp2_with (first | (go_at_call 56; refine (inRange_any _ _ _ _).mono ?_; rintro e w' ⟨rfl, rfl⟩))
                go_round
                case rel => exact ⟨j + 1, by omega, by go_num, fun t ht => by
                  by_cases e : t = j
                  · subst e; exact hx
                  · exact Hok.out t (by omega)⟩
                case measure => simp [intOf]; omega
            · obtain rfl : j = 4 := by omega
              go_wp2_with fail
              go_round
              case rel => exact ⟨k + 1, by omega, by go_num, fun a ha => by
                by_cases e : a = k
                · subst e
                  refine ⟨by rw [HLK.out]; rfl, allR_true.2 fun i hi => ?_⟩
                  rw [HLK.out] at hi
                  exact Hok.out i hi
                · exact Hall.out a (by omega)⟩
              case measure => simp [intOf]; omega
        · have hne : ((L k : Int) != 4) = true := by simp; omega
          have HX := hide (HBAD.out k hlt (fun hb => by have := hb.1; omega))
          clear e2
          generalize L k = l at *
          go_wp2_with fail
          go_ret
          exact ⟨ret_bool HX.out.symm, rfl⟩
      · obtain rfl : k = 2 := by omega
        have HX := hide (HGOOD.out Hall.out)
        go_wp2_with fail
        go_ret
        exact ⟨ret_bool HX.out.symm, rfl⟩
  · by_cases hnq : n ≠ 4
    · have hne : ((n : Int) != 4) = true := by simp; omega
      refine calls_bool (a := false) (by rw [wid_b (by rw [← Bool.not_eq_true, bitsB_true]; omega)]) ?_
      clear hnq
      go_enter Try.func76, Try.ntmps76
      go_wp2_with fail
      go_ret
      exact ⟨rfl, rfl⟩
    obtain rfl : n = 4 := by omega
    have HPW : Hid (∀ W, Calls Try.prog 64 #[.int .i64 6] W fun e w' => e = .returned (.int .i64 64) ∧ W = w') := hide (fun W => powerS_any 6 W (by omega))
    have ht : (2 : Int) ^ ((5 : Int) + 1).toNat - 1 = 64 - 1 := by decide
    cases hlo : inR lost 0 63
    · refine calls_bool (a := false) (by rw [wid_l (by rw [ht]; exact hlo)]) ?_
      clear ht
      go_enter Try.func76, Try.ntmps76
      go_wp2_with fail
      refine (HPW.out _).mono ?_
      rintro e _ ⟨rfl, rfl⟩
      go_wp2_with (first | (go_at_call 56; refine (inRange_any _ _ _ _).mono ?_; rintro e w' ⟨rfl, rfl⟩))
      go_ret
      exact ⟨rfl, rfl⟩
    have hlr := inR_true.1 hlo
    obtain ⟨s, rfl⟩ := Int.eq_ofNat_of_zero_le hlr.1
    have HWT := hide (fun W => weightS_any s W (by omega))
    have h8 := (wt_small s (by omega)).2
    by_cases hw : ¬ wt s ≤ 2
    · refine calls_bool (a := false) (by rw [wid_w (by rw [Int.toNat_natCast]; exact hw)]) ?_
      clear ht
      generalize wt s = z at *
      go_enter Try.func76, Try.ntmps76
      go_wp2_with fail
      refine (HPW.out _).mono ?_
      rintro e _ ⟨rfl, rfl⟩
      go_wp2_with (first | (go_at_call 56; refine (inRange_any _ _ _ _).mono ?_; rintro e w' ⟨rfl, rfl⟩))
      refine (HWT.out _).mono ?_
      rintro e _ ⟨rfl, rfl⟩
      go_wp2_with fail
      go_ret
      exact ⟨rfl, rfl⟩
    have HBAD := hide (fun i hi h => wid_bad (p := 5) (n := 4) (L := L) (M := M) (lost := s) (i := i) hi h)
    have HGOOD := hide (fun (h : ∀ i, i < 4 → browOk 6 L M i) => (show widB 5 4 L M s = true from by
      rw [widB, Bool.and_eq_true, Bool.and_eq_true, Bool.and_eq_true, isA_true, bitsB_true, decide_eq_true_eq]
      exact ⟨by omega, ⟨by omega, h⟩, by rw [ht]; exact hlo, by rw [Int.toNat_natCast]; omega⟩))
    obtain ⟨b, off, rfl, hbl, hc⟩ := Hh.out (by omega)
    have HC := hide hc
    have hw2 : wt s ≤ 2 := by omega
    clear hc hnq Hh ht hw
    generalize wt s = z at *
    go_enter Try.func76, Try.ntmps76
    go_wp2_with fail
    refine (HPW.out _).mono ?_
    rintro e _ ⟨rfl, rfl⟩
    go_wp2_with (first | (go_at_call 56; refine (inRange_any _ _ _ _).mono ?_; rintro e w' ⟨rfl, rfl⟩))
    refine (HWT.out _).mono ?_
    rintro e _ ⟨rfl, rfl⟩
    go_wp2_with fail
    go_loop [7] (fun i => ∃ k : Nat, k ≤ 4 ∧ i = .int .i64 k ∧ (∀ a, a < k → browOk 6 L M a)) (fun i => 4 - (intOf i).toNat)
    case atStart => exact ⟨0, Nat.zero_le _, rfl, by simp⟩
    case round =>
      obtain ⟨k, hk, rfl, hall⟩ := hrel
      have Hall := hide hall
      clear hall
      by_cases hlt : k < 4
      · obtain ⟨R1, C1, e1, e2⟩ := HC.out k hlt
        by_cases hlk : L k = 6
        · rw [hlk] at e1 e2
          obtain ⟨br, ro, rfl, hbr, hcr⟩ := e2 (by omega)
          have HCR := hide hcr
          have HLK := hide hlk
          clear hcr e2 hlk
          go_wp2_with fail
          go_loop [8] (fun i => ∃ j : Nat, j ≤ 6 ∧ i = .int .i64 j ∧ (∀ t, t < j → inR (M k t) 0 1 = true)) (fun i => 6 - (intOf i).toNat)
          case atStart => exact ⟨0, Nat.zero_le _, rfl, by simp⟩
          case round =>
            obtain ⟨j, hj, rfl, hok⟩ := hrel
            have Hok := hide hok
            clear hok
            by_cases hjq : j < 6
            · have hcj := HCR.out j hjq
              cases hx : inR (M k j) 0 1
              · have HX := hide (HBAD.out k hlt (fun hb => by
                  have := allR_true.1 hb.2 j (by rw [HLK.out]; exact hjq)
                  rw [show ((2 : Int) - 1) = 1 by omega] at this
                  rw [this] at hx; cases hx))
                go_wp2_with (first | (go_at_call 56; refine (inRange_any _ _ _ _).mono ?_; rintro e w' ⟨rfl, rfl⟩))
                go_ret
                exact ⟨ret_bool HX.out.symm, rfl⟩
              · go_wp2_with (first | (go_at_call 56; refine (inRange_any _ _ _ _).mono ?_; rintro e w' ⟨rfl, rfl⟩))
                go_round
                case rel => exact ⟨j + 1, by omega, by go_num, fun t ht => by
                  by_cases e : t = j
                  · subst e; exact hx
                  · exact Hok.out t (by omega)⟩
                case measure => simp [intOf]; omega
            · obtain rfl : j = 6 := by omega
              go_wp2_with fail
              go_round
              case rel => exact ⟨k + 1, by omega, by go_num, fun a ha => by
                by_cases e : a = k
                · subst e
                  refine ⟨by rw [HLK.out]; rfl, allR_true.2 fun i hi => ?_⟩
                  rw [HLK.out] at hi
                  exact Hok.out i hi
                · exact Hall.out a (by omega)⟩
              case measure => simp [intOf]; omega
        · have hne : ((L k : Int) != 6) = true := by simp; omega
          have HX := hide (HBAD.out k hlt (fun hb => by have := hb.1; omega))
          clear e2
          generalize L k = l at *
          go_wp2_with fail
          go_ret
          exact ⟨ret_bool HX.out.symm, rfl⟩
      · obtain rfl : k = 4 := by omega
        have HX := hide (HGOOD.out Hall.out)
        go_wp2_with fail
        go_ret
        exact ⟨ret_bool HX.out.symm, rfl⟩
end Go.Proofs.Ytkalecdjcdgodaa
