/-
  Nets: the program and the reference agree on what is a net. Conditions: the net is a slice of slices that can be read.
-/
import Derived.Test.YtecmihmopiepfaaMem2
namespace Go.Proofs.Ytecmihmopiepfaa
open Go.RowKit

theorem inRange_any (n lo hi : Int) (w : World) :
    Calls Try.prog 47 #[.int .i64 n, .int .i64 lo, .int .i64 hi] w fun e w' => e = .returned (.bool (inR n lo hi)) ∧ w = w' := by
  go_enter Try.func47, Try.ntmps47
  go_wp2
  all_goals go_ret
  all_goals exact ⟨ret_bool (by simp [inR]; omega), rfl⟩

theorem within_any (n lo hi : Int) (w : World) :
    Calls Try.prog 43 #[.int .i64 n, .int .i64 lo, .int .i64 hi] w fun e w' => e = .returned (.bool (inR n lo hi)) ∧ w = w' := by
  go_enter Try.func43, Try.ntmps43
  go_wp2
  all_goals go_ret
  all_goals exact ⟨ret_bool (by simp [inR]; omega), rfl⟩

theorem amountOk_any (n : Int) (w : World) :
    Calls Try.prog 44 #[.int .i64 n] w fun e w' => e = .returned (.bool (inR n 0 20)) ∧ w = w' := by
  go_enter Try.func44, Try.ntmps44
  go_wp2_with (go_at_call 43; refine (within_any _ _ _ _).mono ?_; rintro e w' ⟨rfl, rfl⟩)
  go_ret
  exact ⟨rfl, rfl⟩

/-- one number of a net is as it should be -/
def cellOk (M : Nat → Nat → Int) (a b : Nat) : Prop := inR (M a b) 0 20 = true ∧ (b ≤ a → M a b = 0)
instance (M : Nat → Nat → Int) (a b : Nat) : Decidable (cellOk M a b) := by unfold cellOk; exact inferInstance
def rowOk (n : Nat) (L : Nat → Nat) (M : Nat → Nat → Int) (a : Nat) : Prop := L a = n ∧ ∀ b, b < n → cellOk M a b
instance (n : Nat) (L : Nat → Nat) (M : Nat → Nat → Int) (a : Nat) : Decidable (rowOk n L M a) := by unfold rowOk; exact inferInstance
/-- the rows are a net -/
def vNet (n : Nat) (L : Nat → Nat) (M : Nat → Nat → Int) : Bool := inR n 2 6 && decide (∀ a, a < n → rowOk n L M a)
theorem vNet_true {n : Nat} {L : Nat → Nat} {M : Nat → Nat → Int} : vNet n L M = true ↔ (2 ≤ n ∧ n ≤ 6) ∧ ∀ a, a < n → rowOk n L M a := by
  simp only [vNet, Bool.and_eq_true, inR_true, decide_eq_true_eq]
  exact ⟨fun h => ⟨by omega, h.2⟩, fun h => ⟨by omega, h.2⟩⟩
theorem vNet_bad {n : Nat} {L : Nat → Nat} {M : Nat → Nat → Int} {a : Nat} (ha : a < n) (h : ¬ rowOk n L M a) : vNet n L M = false := by
  rw [← Bool.not_eq_true, vNet_true]; exact fun hh => h (hh.2 a ha)

theorem validNetS_any (A : Option Addr) (n c : Nat) (L : Nat → Nat) (M : Nat → Nat → Int) (w : World) (hn : n ≤ 9223372036854775807) (hL : ∀ i, i < n → L i ≤ 9223372036854775807) (h : Mat w w.heap.size A n L M) :
    Calls Try.prog 45 #[.slice A n c] w fun e w' => e = .returned (.bool (vNet n L M)) ∧ ∃ q, w.drewN q = w' := by
  have Hh := hide h
  have HL := hide hL
  clear h hL
  cases hr : inR n 2 6
  · refine calls_bool (a := false) (by simp [vNet, hr]) ?_
    go_enter Try.func45, Try.ntmps45
    go_wp2_with (first | (go_at_call 47; refine (inRange_any _ _ _ _).mono ?_; rintro e w' ⟨rfl, rfl⟩))
    go_ret
    exact ⟨rfl, 0, rfl⟩
  have hb := inR_true.1 hr
  go_enter Try.func45, Try.ntmps45
  go_wp2_with (first | (go_at_call 47; refine (inRange_any _ _ _ _).mono ?_; rintro e w' ⟨rfl, rfl⟩))
  go_loopw [3] (fun i wr => ∃ k : Nat, k ≤ n ∧ i = .int .i64 k ∧ (∀ a, a < k → rowOk n L M a) ∧ ∃ q, wr = w.drewN q) (fun i _ => n - (intOf i).toNat)
  case atStart => exact ⟨0, Nat.zero_le _, rfl, by simp, 0, rfl⟩
  case round =>
    obtain ⟨k, hk, rfl, hall, q, rfl⟩ := hrel
    have Hall := hide hall
    clear hall
    by_cases hlt : k < n
    · obtain ⟨bb, off, rfl, hbl, hc⟩ := Hh.out (by omega)
      obtain ⟨R, C, e1, e2⟩ := hc k hlt
      clear hc
      by_cases hLk : L k = n
      · obtain ⟨rb, ro, rfl, hrb, hrc⟩ := e2 (by omega)
        have e1' : (w.drewN q).cell? ⟨bb, off + k, none⟩ = some (.slice (some ⟨rb, ro, none⟩) n C) := by rw [← hLk]; exact e1
        have Hrc := hide hrc
        have HLk := hide hLk
        clear e1 hrc hLk
        go_wp2_with fail
        go_loopw [4] (fun i wi => ∃ j : Nat, j ≤ n ∧ i = .int .i64 j ∧ (∀ b, b < j → cellOk M k b) ∧ ∃ q', wi = w.drewN q') (fun i _ => n - (intOf i).toNat)
        case atStart => exact ⟨0, Nat.zero_le _, rfl, by simp, _, rfl⟩
        case round =>
          obtain ⟨j, hj, rfl, hcok, q', rfl⟩ := hrel
          have Hcok := hide hcok
          clear hcok
          by_cases hjn : j < n
          · have hcell : (w.drewN q').cell? ⟨rb, ro + j, none⟩ = some (.int .i64 (M k j)) := Hrc.out j (by rw [HLk.out]; exact hjn)
            have e1'' : (w.drewN q').cell? ⟨bb, off + k, none⟩ = some (.slice (some ⟨rb, ro, none⟩) n C) := e1'
            generalize hMk : M k j = x at *
            have HM := hide hMk
            clear hMk
            have bad : ¬ cellOk M k j → vNet n L M = false := fun hno => vNet_bad hlt (fun hro => hno (hro.2 j hjn))
            cases h1 : inR x 0 20
            · go_wp2_with (first | (go_at_call 47; refine (inRange_any _ _ _ _).mono ?_; rintro e w' ⟨rfl, rfl⟩))
              go_ret
              exact ⟨ret_bool (bad (fun hc => by have := hc.1; rw [HM.out, h1] at this; cases this)).symm, _, rfl⟩
            · by_cases hjk : j ≤ k
              · by_cases hx0 : x = 0
                · have hx1 : (x != 0) = false := by simp [hx0]
                  have Hx := hide hx0
                  clear hx0
                  go_wp2_with (first | (go_at_call 47; refine (inRange_any _ _ _ _).mono ?_; rintro e w' ⟨rfl, rfl⟩))
                  go_roundw
                  case rel => exact ⟨j + 1, by omega, by go_num, fun b hb => by
                    by_cases e : b = j
                    · subst e; exact ⟨by rw [HM.out]; exact h1, fun _ => by rw [HM.out]; exact Hx.out⟩
                    · exact Hcok.out b (by omega), _, rfl⟩
                  case measure => simp [intOf]; omega
                · have hx1 : (x != 0) = true := by simp [hx0]
                  have Hx := hide hx0
                  clear hx0
                  go_wp2_with (first | (go_at_call 47; refine (inRange_any _ _ _ _).mono ?_; rintro e w' ⟨rfl, rfl⟩))
                  go_ret
                  exact ⟨ret_bool (bad (fun hc => Hx.out (by rw [← HM.out]; exact hc.2 hjk))).symm, _, rfl⟩
              · go_wp2_with (first | (go_at_call 47; refine (inRange_any _ _ _ _).mono ?_; rintro e w' ⟨rfl, rfl⟩))
                go_roundw
                case rel => exact ⟨j + 1, by omega, by go_num, fun b hb => by
                  by_cases e : b = j
                  · subst e; exact ⟨by rw [HM.out]; exact h1, fun h => absurd h (by omega)⟩
                  · exact Hcok.out b (by omega), _, rfl⟩
                case measure => simp [intOf]; omega
          · obtain rfl : j = n := by omega
            go_wp2_with (first | (go_at_call 47; refine (inRange_any _ _ _ _).mono ?_; rintro e w' ⟨rfl, rfl⟩))
            go_roundw
            case rel => exact ⟨k + 1, by omega, by go_num, fun a ha => by
              by_cases e : a = k
              · subst e; exact ⟨HLk.out, Hcok.out⟩
              · exact Hall.out a (by omega), _, rfl⟩
            case measure => simp [intOf]; omega
      · have hne : ((L k : Int) != n) = true := by simp; omega
        have hLk' : L k ≤ 9223372036854775807 := HL.out k hlt
        have HLk := hide hLk
        clear hLk
        go_wp2_with fail
        go_ret
        exact ⟨ret_bool (vNet_bad hlt (fun hro => HLk.out hro.1)).symm, _, rfl⟩
    · obtain rfl : k = n := by omega
      go_wp2_with fail
      go_ret
      exact ⟨ret_bool (vNet_true.2 ⟨by omega, Hall.out⟩).symm, _, rfl⟩

theorem ValidNetI_any (A : Option Addr) (n c : Nat) (L : Nat → Nat) (M : Nat → Nat → Int) (w : World) (hn : n ≤ 9223372036854775807) (hL : ∀ i, i < n → L i ≤ 9223372036854775807) (h : Mat w w.heap.size A n L M) :
    Calls Try.prog 16 #[.slice A n c] w fun e w' => e = .returned (.bool (vNet n L M)) ∧ ∃ q, w.drewN q = w' := by
  have Hh := hide h
  have HL := hide hL
  clear h hL
  cases hr : inR n 2 6
  · refine calls_bool (a := false) (by simp [vNet, hr]) ?_
    go_enter Try.func16, Try.ntmps16
    go_wp2_with (first | (go_at_call 43; refine (within_any _ _ _ _).mono ?_; rintro e w' ⟨rfl, rfl⟩) | (go_at_call 44; refine (amountOk_any _ _).mono ?_; rintro e w' ⟨rfl, rfl⟩))
    go_ret
    exact ⟨rfl, 0, rfl⟩
  have hb := inR_true.1 hr
  go_enter Try.func16, Try.ntmps16
  go_wp2_with (first | (go_at_call 43; refine (within_any _ _ _ _).mono ?_; rintro e w' ⟨rfl, rfl⟩) | (go_at_call 44; refine (amountOk_any _ _).mono ?_; rintro e w' ⟨rfl, rfl⟩))
  go_loopw [13] (fun i wr => ∃ k : Nat, k ≤ n ∧ i = .int .i64 k ∧ (∀ a, a < k → rowOk n L M a) ∧ ∃ q, wr = w.drewN q) (fun i _ => n - (intOf i).toNat)
  case atStart => exact ⟨0, Nat.zero_le _, rfl, by simp, 0, rfl⟩
  case round =>
    obtain ⟨k, hk, rfl, hall, q, rfl⟩ := hrel
    have Hall := hide hall
    clear hall
    by_cases hlt : k < n
    · obtain ⟨bb, off, rfl, hbl, hc⟩ := Hh.out (by omega)
      obtain ⟨R, C, e1, e2⟩ := hc k hlt
      clear hc
      by_cases hLk : L k = n
      · obtain ⟨rb, ro, rfl, hrb, hrc⟩ := e2 (by omega)
        have e1' : (w.drewN q).cell? ⟨bb, off + k, none⟩ = some (.slice (some ⟨rb, ro, none⟩) n C) := by rw [← hLk]; exact e1
        have Hrc := hide hrc
        have HLk := hide hLk
        clear e1 hrc hLk
        go_wp2_with fail
        go_loopw [25] (fun i wi => ∃ j : Nat, j ≤ n ∧ i = .int .i64 j ∧ (∀ b, b < j → cellOk M k b) ∧ ∃ q', wi = w.drewN q') (fun i _ => n - (intOf i).toNat)
        case atStart => exact ⟨0, Nat.zero_le _, rfl, by simp, _, rfl⟩
        case round =>
          obtain ⟨j, hj, rfl, hcok, q', rfl⟩ := hrel
          have Hcok := hide hcok
          clear hcok
          by_cases hjn : j < n
          · have hcell : (w.drewN q').cell? ⟨rb, ro + j, none⟩ = some (.int .i64 (M k j)) := Hrc.out j (by rw [HLk.out]; exact hjn)
            have e1'' : (w.drewN q').cell? ⟨bb, off + k, none⟩ = some (.slice (some ⟨rb, ro, none⟩) n C) := e1'
            generalize hMk : M k j = x at *
            have HM := hide hMk
            clear hMk
            have bad : ¬ cellOk M k j → vNet n L M = false := fun hno => vNet_bad hlt (fun hro => hno (hro.2 j hjn))
            cases h1 : inR x 0 20
            · go_wp2_with (first | (go_at_call 43; refine (within_any _ _ _ _).mono ?_; rintro e w' ⟨rfl, rfl⟩) | (go_at_call 44; refine (amountOk_any _ _).mono ?_; rintro e w' ⟨rfl, rfl⟩))
              go_ret
              exact ⟨ret_bool (bad (fun hc => by have := hc.1; rw [HM.out, h1] at this; cases this)).symm, _, rfl⟩
            · by_cases hjk : j ≤ k
              · by_cases hx0 : x = 0
                · have hx1 : (x != 0) = false := by simp [hx0]
                  have Hx := hide hx0
                  clear hx0
                  go_wp2_with (first | (go_at_call 43; refine (within_any _ _ _ _).mono ?_; rintro e w' ⟨rfl, rfl⟩) | (go_at_call 44; refine (amountOk_any _ _).mono ?_; rintro e w' ⟨rfl, rfl⟩))
                  go_roundw
                  case rel => exact ⟨j + 1, by omega, by go_num, fun b hb => by
                    by_cases e : b = j
                    · subst e; exact ⟨by rw [HM.out]; exact h1, fun _ => by rw [HM.out]; exact Hx.out⟩
                    · exact Hcok.out b (by omega), _, rfl⟩
                  case measure => simp [intOf]; omega
                · have hx1 : (x != 0) = true := by simp [hx0]
                  have Hx := hide hx0
                  clear hx0
                  go_wp2_with (first | (go_at_call 43; refine (within_any _ _ _ _).mono ?_; rintro e w' ⟨rfl, rfl⟩) | (go_at_call 44; refine (amountOk_any _ _).mono ?_; rintro e w' ⟨rfl, rfl⟩))
                  go_ret
                  exact ⟨ret_bool (bad (fun hc => Hx.out (by rw [← HM.out]; exact hc.2 hjk))).symm, _, rfl⟩
              · go_wp2_with (first | (go_at_call 43; refine (within_any _ _ _ _).mono ?_; rintro e w' ⟨rfl, rfl⟩) | (go_at_call 44; refine (amountOk_any _ _).mono ?_; rintro e w' ⟨rfl, rfl⟩))
                go_roundw
                case rel => exact ⟨j + 1, by omega, by go_num, fun b hb => by
                  by_cases e : b = j
                  · subst e; exact ⟨by rw [HM.out]; exact h1, fun h => absurd h (by omega)⟩
                  · exact Hcok.out b (by omega), _, rfl⟩
                case measure => simp [intOf]; omega
          · obtain rfl : j = n := by omega
            go_wp2_with (first | (go_at_call 43; refine (within_any _ _ _ _).mono ?_; rintro e w' ⟨rfl, rfl⟩) | (go_at_call 44; refine (amountOk_any _ _).mono ?_; rintro e w' ⟨rfl, rfl⟩))
            go_roundw
            case rel => exact ⟨k + 1, by omega, by go_num, fun a ha => by
              by_cases e : a = k
              · subst e; exact ⟨HLk.out, Hcok.out⟩
              · exact Hall.out a (by omega), _, rfl⟩
            case measure => simp [intOf]; omega
      · have hne : ((L k : Int) != n) = true := by simp; omega
        have hLk' : L k ≤ 9223372036854775807 := HL.out k hlt
        have HLk := hide hLk
        clear hLk
        go_wp2_with fail
        go_ret
        exact ⟨ret_bool (vNet_bad hlt (fun hro => HLk.out hro.1)).symm, _, rfl⟩
    · obtain rfl : k = n := by omega
      go_wp2_with fail
      go_ret
      exact ⟨ret_bool (vNet_true.2 ⟨by omega, Hall.out⟩).symm, _, rfl⟩

end Go.Proofs.Ytecmihmopiepfaa
