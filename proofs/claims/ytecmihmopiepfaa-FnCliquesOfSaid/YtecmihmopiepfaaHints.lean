/-
  Hints: the program and the reference agree on what are hints. Conditions: the hints are a slice of ints that can be read.
-/
import Derived.Test.YtecmihmopiepfaaNet
import Derived.Test.YtecmihmopiepfaaBits
namespace Go.Proofs.Ytecmihmopiepfaa
open Go.RowKit

theorem quiet_add_left {P : Program} {f : FuncId} {args : Array Value} {w : World} {a n : Nat} {v : Value}
    (h : Calls P f args (w.drewN (a + n)) fun e w' => e = .returned v ∧ w.drewN (a + n) = w') :
    Calls P f args (w.drewN (a + n)) fun e w'' => e = .returned v ∧ ∃ m, w'' = w.drewN (a + m) :=
  h.mono fun _ _ ⟨he, hm⟩ => ⟨he, n, hm.symm⟩

/-- hint i is as it should be -/
def hintOk (n : Nat) (f : Nat → Int) (i : Nat) : Prop := inR (f i) 0 (2 ^ n - 1) = true ∧ bt (f i).toNat i = false
instance (n : Nat) (f : Nat → Int) (i : Nat) : Decidable (hintOk n f i) := by unfold hintOk; exact inferInstance
/-- the numbers are hints -/
def vH (n : Nat) (f : Nat → Int) : Bool := inR n 1 4 && decide (∀ i, i < n → hintOk n f i)
theorem vH_true {n : Nat} {f : Nat → Int} : vH n f = true ↔ (1 ≤ n ∧ n ≤ 4) ∧ ∀ i, i < n → hintOk n f i := by
  simp only [vH, Bool.and_eq_true, inR_true, decide_eq_true_eq]
  exact ⟨fun h => ⟨by omega, h.2⟩, fun h => ⟨by omega, h.2⟩⟩
theorem vH_bad {n : Nat} {f : Nat → Int} {i : Nat} (hi : i < n) (h : ¬ hintOk n f i) : vH n f = false := by
  rw [← Bool.not_eq_true, vH_true]; exact fun hh => h (hh.2 i hi)
theorem vH_len {n : Nat} {f : Nat → Int} (h : ¬ (1 ≤ n ∧ n ≤ 4)) : vH n f = false := by
  rw [← Bool.not_eq_true, vH_true]; exact fun hh => h hh.1
theorem vH_all {n : Nat} {f : Nat → Int} (h : ∀ i, i < n → hintOk n f i) : inR n 1 4 = vH n f := by
  rw [vH, decide_eq_true h, Bool.and_true]
theorem validHintsS_A (A : Option Addr) (n c : Nat) (f : Nat → Int) (w : World) (hn : 1 ≤ n ∧ n ≤ 62) (h : Ints w w.heap.size A n f) :
    Calls Try.prog 59 #[.slice A n c] w fun e w' => e = .returned (.bool (vH n f)) ∧ ∃ q, w.drewN q = w' := by

  have Hh := hide h
  clear h
  have q0 := two_pow_pos n
  have q1 := two_pow_le hn.2
  rw [show (2 : Int) ^ 62 = 4611686018427387904 by decide] at q1
  have HP := hide (fun W => powerS_any n W hn.2)
  have HD := hide (show ∀ i, hintOk n f i ↔ inR (f i) 0 (2 ^ n - 1) = true ∧ bt (f i).toNat i = false from fun i => Iff.rfl)
  have HV := hide (show ∀ i, i < n → ¬ hintOk n f i → vH n f = false from fun i hi h => vH_bad hi h)
  have HE := hide (show (∀ i, i < n → hintOk n f i) → inR n 1 4 = vH n f from vH_all)
  generalize (2 : Int) ^ n = u at *

  go_enter Try.func59, Try.ntmps59
  go_wp2_with fail
  go_loopw [3] (fun i wr => ∃ k : Nat, k ≤ n ∧ i = .int .i64 k ∧ (∀ j, j < k → hintOk n f j) ∧ ∃ q, wr = w.drewN q) (fun i _ => n - (intOf i).toNat)
  case atStart => exact ⟨0, Nat.zero_le _, rfl, by simp, 0, rfl⟩
  case round =>
    obtain ⟨k, hk, rfl, hall, q, rfl⟩ := hrel

    have Hall := hide hall
    clear hall

    by_cases hlt : k < n
    · obtain ⟨b, off, rfl, hbl, hc⟩ := Hh.out (by omega)
      have hcell : w.cell? ⟨b, off + k, none⟩ = some (.int .i64 (f k)) := hc k hlt
      clear hc
      generalize hF : f k = x at *
      have HF := hide hF
      clear hF
      cases h1 : inR x 0 (u - 1)
      · go_wp2_with fail
        go_quiet ((first | (go_at_call 55; exact quiet_add_left (HP.out _)) | (go_at_call 47; exact quiet_add_left (h1 ▸ inRange_any _ _ _ _))))
        go_wp2_with fail
        go_ret
        exact ⟨ret_bool (HV.out k hlt (fun hh => by have := ((HD.out k).1 hh).1; rw [HF.out, h1] at this; cases this)).symm, by first | exact ⟨_, rfl⟩ | exact ⟨_, (World.drewN_drewN _ _ _).symm⟩⟩
      · obtain ⟨x0, x1⟩ := inR_true.1 h1
        obtain ⟨y, rfl⟩ := Int.eq_ofNat_of_zero_le x0
        cases h2 : bt y k
        · have HB := hide (fun W => bitS_f y k W (by omega) (by omega) h2)
          go_wp2_with fail
          go_quiet ((first | (go_at_call 55; exact quiet_add_left (HP.out _)) | (go_at_call 47; exact quiet_add_left (h1 ▸ inRange_any _ _ _ _)) | (go_at_call 56; exact quiet_add_left (HB.out _))))
          go_wp2_with fail
          go_roundw
          case rel => exact ⟨k + 1, by omega, by go_num, fun j hj => by
            by_cases e : j = k
            · subst e; exact (HD.out j).2 ⟨by rw [HF.out]; exact h1, by rw [HF.out, Int.toNat_natCast]; exact h2⟩
            · exact Hall.out j (by omega), by first | exact ⟨_, rfl⟩ | exact ⟨_, World.drewN_drewN _ _ _⟩⟩
          case measure => simp [intOf]; omega
        · have HB := hide (fun W => bitS_t y k W (by omega) (by omega) h2)
          go_wp2_with fail
          go_quiet ((first | (go_at_call 55; exact quiet_add_left (HP.out _)) | (go_at_call 47; exact quiet_add_left (h1 ▸ inRange_any _ _ _ _)) | (go_at_call 56; exact quiet_add_left (HB.out _))))
          go_wp2_with fail
          go_ret
          exact ⟨ret_bool (HV.out k hlt (fun hh => by have := ((HD.out k).1 hh).2; rw [HF.out, Int.toNat_natCast, h2] at this; cases this)).symm, by first | exact ⟨_, rfl⟩ | exact ⟨_, (World.drewN_drewN _ _ _).symm⟩⟩
    · obtain rfl : k = n := by omega
      go_wp2_with (first | (go_at_call 47; refine (inRange_any _ _ _ _).mono ?_; rintro e w' ⟨rfl, rfl⟩))
      go_ret
      exact ⟨ret_bool (HE.out Hall.out), _, rfl⟩

theorem validHintsS_B (A : Option Addr) (n c : Nat) (f : Nat → Int) (w : World) (hn : n = 63) (h : Ints w w.heap.size A n f) :
    Calls Try.prog 59 #[.slice A n c] w fun e w' => e = .returned (.bool (vH n f)) ∧ ∃ q, w.drewN q = w' := by

  have Hh := hide h
  clear h
  have HP := hide (fun W => powerS_wide n W (by omega))
  have HV := hide (show vH n f = false from vH_len (by omega))
  have hu : IntKind.i64.wrap (p2w n - 1) = 9223372036854775807 := by subst hn; decide +kernel
  obtain ⟨u, hu2⟩ : ∃ u : Int, u = 9223372036854775807 := ⟨_, rfl⟩
  rw [← hu2] at hu
  have hu3 : u ≤ 9223372036854775807 := by omega
  have hn0 : 63 ≤ n := by omega
  have hn1 : n ≤ 63 := by omega
  clear hu2 hn
  generalize p2w n = pq at *

  go_enter Try.func59, Try.ntmps59
  go_wp2_with fail
  go_loopw [3] (fun i wr => ∃ k : Nat, k ≤ n ∧ i = .int .i64 k ∧ ∃ q, wr = w.drewN q) (fun i _ => n - (intOf i).toNat)
  case atStart => exact ⟨0, Nat.zero_le _, rfl, 0, rfl⟩
  case round =>
    obtain ⟨k, hk, rfl, q, rfl⟩ := hrel

    by_cases hlt : k < n
    · obtain ⟨b, off, rfl, hbl, hc⟩ := Hh.out (by omega)
      have hcell : w.cell? ⟨b, off + k, none⟩ = some (.int .i64 (f k)) := hc k hlt
      clear hc
      generalize hF : f k = x at *
      have HF := hide hF
      clear hF
      cases h1 : inR x 0 (u)
      · go_wp2_with fail
        go_quiet ((first | (go_at_call 55; exact quiet_add_left (HP.out _)) | (go_at_call 47; exact quiet_add_left (h1 ▸ inRange_any _ _ _ _))))
        go_wp2_with fail
        go_ret
        exact ⟨ret_bool HV.out.symm, by first | exact ⟨_, rfl⟩ | exact ⟨_, (World.drewN_drewN _ _ _).symm⟩⟩
      · obtain ⟨x0, x1⟩ := inR_true.1 h1
        obtain ⟨y, rfl⟩ := Int.eq_ofNat_of_zero_le x0
        cases h2 : bt y k
        · have HB := hide (fun W => bitS_f y k W (by omega) (by omega) h2)
          go_wp2_with fail
          go_quiet ((first | (go_at_call 55; exact quiet_add_left (HP.out _)) | (go_at_call 47; exact quiet_add_left (h1 ▸ inRange_any _ _ _ _)) | (go_at_call 56; exact quiet_add_left (HB.out _))))
          go_wp2_with fail
          go_roundw
          case rel => exact ⟨k + 1, by omega, by go_num, by first | exact ⟨_, rfl⟩ | exact ⟨_, World.drewN_drewN _ _ _⟩⟩
          case measure => simp [intOf]; omega
        · have HB := hide (fun W => bitS_t y k W (by omega) (by omega) h2)
          go_wp2_with fail
          go_quiet ((first | (go_at_call 55; exact quiet_add_left (HP.out _)) | (go_at_call 47; exact quiet_add_left (h1 ▸ inRange_any _ _ _ _)) | (go_at_call 56; exact quiet_add_left (HB.out _))))
          go_wp2_with fail
          go_ret
          exact ⟨ret_bool HV.out.symm, by first | exact ⟨_, rfl⟩ | exact ⟨_, (World.drewN_drewN _ _ _).symm⟩⟩
    · obtain rfl : k = n := by omega
      go_wp2_with (first | (go_at_call 47; refine (inRange_any _ _ _ _).mono ?_; rintro e w' ⟨rfl, rfl⟩))
      go_ret
      exact ⟨ret_bool (by rw [HV.out, ← Bool.not_eq_true, inR_true]; omega), _, rfl⟩

theorem validHintsS_C (A : Option Addr) (n c : Nat) (f : Nat → Int) (w : World) (hn : 64 ≤ n ∧ n ≤ 9223372036854775807) (h : Ints w w.heap.size A n f) :
    Calls Try.prog 59 #[.slice A n c] w fun e w' => e = .returned (.bool (vH n f)) ∧ ∃ q, w.drewN q = w' := by
  have HP := hide (fun W => powerS_wide n W hn.2)
  rw [show p2w n = 0 by rw [show n = 64 + (n - 64) by omega]; exact p2w_big _] at HP
  have HV := hide (show vH n f = false from vH_len (by omega))
  have Hh := hide h
  clear h
  have HR := hide (show ∀ x : Int, inR x 0 (-1) = false from fun x => by rw [← Bool.not_eq_true, inR_true]; omega)
  go_enter Try.func59, Try.ntmps59
  go_wp2_with fail
  go_loopw [3] (fun i wr => ∃ k : Nat, k < n ∧ i = .int .i64 k ∧ ∃ q, wr = w.drewN q) (fun i _ => n - (intOf i).toNat)
  case atStart => exact ⟨0, by omega, rfl, 0, rfl⟩
  case round =>
    obtain ⟨k, hlt, rfl, q, rfl⟩ := hrel
    obtain ⟨b, off, rfl, hbl, hc⟩ := Hh.out (by omega)
    have hcell : w.cell? ⟨b, off + k, none⟩ = some (.int .i64 (f k)) := hc k hlt
    clear hc
    have h1 := HR.out (f k)
    generalize f k = x at *
    go_wp2_with fail
    go_quiet ((first | (go_at_call 55; exact quiet_add_left (HP.out _)) | (go_at_call 47; exact quiet_add_left (h1 ▸ inRange_any _ _ _ _))))
    go_wp2_with fail
    go_ret
    exact ⟨ret_bool HV.out.symm, by first | exact ⟨_, rfl⟩ | exact ⟨_, (World.drewN_drewN _ _ _).symm⟩⟩
theorem validHintsS_any (A : Option Addr) (n c : Nat) (f : Nat → Int) (w : World) (hn : n ≤ 9223372036854775807) (h : Ints w w.heap.size A n f) :
    Calls Try.prog 59 #[.slice A n c] w fun e w' => e = .returned (.bool (vH n f)) ∧ ∃ q, w.drewN q = w' := by
  by_cases h0 : n = 0
  · subst h0
    refine calls_bool (a := false) (vH_len (by omega)).symm ?_
    go_enter Try.func59, Try.ntmps59
    go_wp2_with fail
    go_loopw [3] (fun i wr => i = .int .i64 0 ∧ wr = w) (fun i _ => 0)
    case atStart => exact ⟨rfl, rfl⟩
    case round =>
      obtain ⟨rfl, rfl⟩ := hrel
      go_wp2_with (first | (go_at_call 47; refine (inRange_any _ _ _ _).mono ?_; rintro e w' ⟨rfl, rfl⟩))
      go_ret
      exact ⟨rfl, 0, rfl⟩
  by_cases h1 : n ≤ 62
  · exact validHintsS_A A n c f w (by omega) h
  by_cases h2 : n = 63
  · exact validHintsS_B A n c f w h2 h
  exact validHintsS_C A n c f w (by omega) h

theorem hintsOkI_any (A : Option Addr) (n c : Nat) (f : Nat → Int) (w : World) (hn : n ≤ 9223372036854775807) (h : Ints w w.heap.size A n f) :
    Calls Try.prog 61 #[.slice A n c] w fun e w' => e = .returned (.bool (vH n f)) ∧ ∃ q, w.drewN q = w' := by
  have Hh := hide h
  clear h
  cases hr : inR n 1 4
  · refine calls_bool (a := false) (by simp [vH, hr]) ?_
    go_enter Try.func61, Try.ntmps61
    go_wp2_with (first | (go_at_call 43; refine (within_any _ _ _ _).mono ?_; rintro e w' ⟨rfl, rfl⟩))
    go_ret
    exact ⟨rfl, 0, rfl⟩
  have hb := inR_true.1 hr
  have hnn : 1 ≤ n ∧ n ≤ 4 := by omega
  clear hb
  have q0 := two_pow_pos n
  have q1 := two_pow_le hnn.2
  rw [show (2 : Int) ^ 4 = 16 by decide] at q1
  have HD := hide (show ∀ i, hintOk n f i ↔ inR (f i) 0 (2 ^ n - 1) = true ∧ bt (f i).toNat i = false from fun i => Iff.rfl)
  have HV := hide (show ∀ i, i < n → ¬ hintOk n f i → vH n f = false from fun i hi h => vH_bad hi h)
  have HE := hide (show (∀ i, i < n → hintOk n f i) → true = vH n f from fun h => by rw [← vH_all h, hr])
  go_enter Try.func61, Try.ntmps61
  go_wp2_with (first | (go_at_call 43; refine (within_any _ _ _ _).mono ?_; rintro e w' ⟨rfl, rfl⟩))
  go_loopw [11] (fun i wr => ∃ k : Nat, k ≤ n ∧ i = .int .i64 k ∧ (∀ j, j < k → hintOk n f j) ∧ ∃ q, wr = w.drewN q) (fun i _ => n - (intOf i).toNat)
  case atStart => exact ⟨0, Nat.zero_le _, rfl, by simp, 0, rfl⟩
  case round =>
    obtain ⟨k, hk, rfl, hall, q, rfl⟩ := hrel
    have Hall := hide hall
    clear hall
    by_cases hlt : k < n
    · obtain ⟨b, off, rfl, hbl, hc⟩ := Hh.out (by omega)
      have hcell : (w.drewN q).cell? ⟨b, off + k, none⟩ = some (.int .i64 (f k)) := hc k hlt
      clear hc
      generalize hF : f k = x at *
      have HF := hide hF
      clear hF
      cases h1 : inR x 0 (2 ^ n - 1)
      · go_wp2_with (first | (go_at_call 43; refine (within_any _ _ _ _).mono ?_; rintro e w' ⟨rfl, rfl⟩))
        go_ret
        exact ⟨ret_bool (HV.out k hlt (fun hh => by have := ((HD.out k).1 hh).1; rw [HF.out, h1] at this; cases this)).symm, _, rfl⟩
      · obtain ⟨x0, x1⟩ := inR_true.1 h1
        obtain ⟨y, rfl⟩ := Int.eq_ofNat_of_zero_le x0
        cases h2 : bt y k
        · obtain ⟨f1, f2⟩ := bt_f (show y ≤ 9223372036854775807 by omega) h2
          go_wp2_with (first | (go_at_call 43; refine (within_any _ _ _ _).mono ?_; rintro e w' ⟨rfl, rfl⟩))
          go_roundw
          case rel => exact ⟨k + 1, by omega, by go_num, fun j hj => by
            by_cases e : j = k
            · subst e; exact (HD.out j).2 ⟨by rw [HF.out]; exact h1, by rw [HF.out, Int.toNat_natCast]; exact h2⟩
            · exact Hall.out j (by omega), _, rfl⟩
          case measure => simp [intOf]; omega
        · obtain ⟨f1, f2⟩ := bt_t (show y ≤ 9223372036854775807 by omega) h2
          go_wp2_with (first | (go_at_call 43; refine (within_any _ _ _ _).mono ?_; rintro e w' ⟨rfl, rfl⟩))
          go_ret
          exact ⟨ret_bool (HV.out k hlt (fun hh => by have := ((HD.out k).1 hh).2; rw [HF.out, Int.toNat_natCast, h2] at this; cases this)).symm, _, rfl⟩
    · obtain rfl : k = n := by omega
      go_wp2_with fail
      go_ret
      exact ⟨ret_bool (HE.out Hall.out), _, rfl⟩
end Go.Proofs.Ytecmihmopiepfaa
