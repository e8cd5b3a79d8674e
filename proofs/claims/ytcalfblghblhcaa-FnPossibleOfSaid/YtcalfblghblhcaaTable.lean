/-
  Tables: the program and the reference agree on what is a table. Conditions: the rows can be read.
-/
import Derived.Test.YtcalfblghblhcaaHas
import Derived.Test.YtcalfblghblhcaaMem2
namespace Go.Proofs.Ytcalfblghblhcaa
open Go.RowKit

/-- one row of a table is as it should be -/
def trowOk (p : Int) (L : Nat → Nat) (M : Nat → Nat → Int) (i : Nat) : Prop := L i = L 0 ∧ allR (L i) (M i) p = true
instance (p : Int) (L : Nat → Nat) (M : Nat → Nat → Int) (i : Nat) : Decidable (trowOk p L M i) := by unfold trowOk; exact inferInstance
/-- the rows are a table over p -/
def vTab (p : Int) (n : Nat) (L : Nat → Nat) (M : Nat → Nat → Int) : Bool := isP p && inR n 1 6 && inR (L 0) 1 7 && decide (∀ i, i < n → trowOk p L M i)
theorem vTab_true {p : Int} {n : Nat} {L : Nat → Nat} {M : Nat → Nat → Int} : vTab p n L M = true ↔ isP p = true ∧ inR n 1 6 = true ∧ inR (L 0) 1 7 = true ∧ ∀ i, i < n → trowOk p L M i := by
  simp only [vTab, Bool.and_eq_true, decide_eq_true_eq, and_assoc]
theorem vTab_bad {p : Int} {n : Nat} {L : Nat → Nat} {M : Nat → Nat → Int} {i : Nat} (hi : i < n) (h : ¬ trowOk p L M i) : vTab p n L M = false := by
  rw [← Bool.not_eq_true, vTab_true]; exact fun hh => h (hh.2.2.2 i hi)

theorem validTableS_any (p : Int) (A : Option Addr) (n c : Nat) (L : Nat → Nat) (M : Nat → Nat → Int) (w : World) (hn : n ≤ 9223372036854775807) (hL : ∀ i, i < n → L i ≤ 9223372036854775807) (h : Mat w w.heap.size A n L M) :
    Calls Try.prog 70 #[.int .i64 p, .slice A n c] w fun e w' => e = .returned (.bool (vTab p n L M)) ∧ Below w.heap.size w w' := by
  have Hh := hide h
  have HL := hide hL
  clear h hL
  cases hp : isP p
  · refine calls_bool (a := false) (by simp [vTab, hp]) ?_
    go_enter Try.func70, Try.ntmps70
    go_wp2_with (first | (go_at_call 87; refine (isPrime_any _ _).mono ?_; rintro e w' ⟨rfl, rfl⟩) | (go_at_call 44; refine (inRange_any _ _ _ _).mono ?_; rintro e w' ⟨rfl, rfl⟩))
    go_ret
    exact ⟨rfl, by go_grown⟩
  have hpb : 2 ≤ p ∧ p ≤ 7 := by rcases isP_true.1 hp with h | h | h | h <;> omega
  cases hr : inR n 1 6
  · refine calls_bool (a := false) (by simp [vTab, hr]) ?_
    go_enter Try.func70, Try.ntmps70
    go_wp2_with (first | (go_at_call 87; refine (isPrime_any _ _).mono ?_; rintro e w' ⟨rfl, rfl⟩) | (go_at_call 44; refine (inRange_any _ _ _ _).mono ?_; rintro e w' ⟨rfl, rfl⟩))
    go_ret
    exact ⟨rfl, by go_grown⟩
  have hb := inR_true.1 hr
  obtain ⟨b0, off, rfl, hbl, hc⟩ := Hh.out (by omega)
  obtain ⟨R0, C0, e1, e2⟩ := hc 0 (by omega)
  simp only [Nat.add_zero] at e1
  have hL0 := HL.out 0 (by omega)
  clear hc e2
  cases hr0 : inR (L 0) 1 7
  · refine calls_bool (a := false) (by simp [vTab, hr0]) ?_
    go_enter Try.func70, Try.ntmps70
    go_wp2_with (first | (go_at_call 87; refine (isPrime_any _ _).mono ?_; rintro e w' ⟨rfl, rfl⟩) | (go_at_call 44; refine (inRange_any _ _ _ _).mono ?_; rintro e w' ⟨rfl, rfl⟩))
    go_ret
    exact ⟨rfl, by go_grown⟩
  go_enter Try.func70, Try.ntmps70
  go_wp2_with (first | (go_at_call 87; refine (isPrime_any _ _).mono ?_; rintro e w' ⟨rfl, rfl⟩) | (go_at_call 44; refine (inRange_any _ _ _ _).mono ?_; rintro e w' ⟨rfl, rfl⟩))
  have Hk := hide e1
  clear e1
  go_loopw [5] (fun i wr => ∃ k : Nat, k ≤ n ∧ i = .int .i64 k ∧ (∀ a, a < k → trowOk p L M a) ∧ ∃ q, wr = w.drewN q) (fun i _ => n - (intOf i).toNat)
  case atStart => exact ⟨0, Nat.zero_le _, rfl, by simp, 0, rfl⟩
  case round =>
    obtain ⟨k, hk, rfl, hall, q, rfl⟩ := hrel
    have Hall := hide hall
    clear hall
    by_cases hlt : k < n
    · obtain ⟨bb, off', eA, hbl', hc⟩ := Hh.out (by omega)
      obtain ⟨rfl, rfl⟩ : b0 = bb ∧ off = off' := by simpa using eA
      obtain ⟨R, C, e1, e2⟩ := hc k hlt
      have eA0 : w.cell? ⟨b0, off, none⟩ = some (.slice R0 (L 0) C0) := Hk.out
      have eA1 : (w.drewN q).cell? ⟨b0, off, none⟩ = some (.slice R0 (L 0) C0) := Hk.out
      have eB1 : (w.drewN q).cell? ⟨b0, off + k, none⟩ = some (.slice R (L k) C) := e1
      clear hc eA hbl'
      have hLk' := HL.out k hlt
      by_cases hLk : L k = L 0
      · have hne : ((L k : Int) != (L 0 : Int)) = false := by simp [hLk]
        go_wp2_with fail
        go_quiet (fail)
        go_wp2_with fail
        clear eA0 eA1 eB1
        have HLk := hide hLk
        clear hLk
        go_loopw [6] (fun i wi => ∃ j : Nat, j ≤ L k ∧ i = .int .i64 j ∧ (∀ b, b < j → inR (M k b) 0 (p - 1) = true) ∧ ∃ q', wi = w.drewN q') (fun i _ => L k - (intOf i).toNat)
        case atStart => exact ⟨0, Nat.zero_le _, rfl, by simp, _, World.drewN_drewN _ _ _⟩
        case round =>
          obtain ⟨j, hj, rfl, hcok, q', rfl⟩ := hrel
          have Hcok := hide hcok
          clear hcok
          have eB1 : (w.drewN q').cell? ⟨b0, off + k, none⟩ = some (.slice R (L k) C) := e1
          by_cases hjn : j < L k
          · obtain ⟨rb, ro, rfl, hrb, hrc⟩ := e2 (by omega)
            have eC := hrc j hjn
            have eC1 : (w.drewN q').cell? ⟨rb, ro + j, none⟩ = some (.int .i64 (M k j)) := eC
            clear hrc
            cases h1 : inR (M k j) 0 (p - 1)
            · go_wp2_with (first | (go_at_call 44; refine (inRange_any _ _ _ _).mono ?_; rintro e w' ⟨rfl, rfl⟩))
              go_ret
              exact ⟨ret_bool (vTab_bad hlt (fun hro => by have := allR_true.1 hro.2 j hjn; rw [h1] at this; cases this)).symm, below_drewN (Below.refl _ _) _⟩
            · go_wp2_with (first | (go_at_call 44; refine (inRange_any _ _ _ _).mono ?_; rintro e w' ⟨rfl, rfl⟩))
              go_roundw
              case rel => exact ⟨j + 1, by omega, by go_num, fun b hb => by
                by_cases e : b = j
                · subst e; exact h1
                · exact Hcok.out b (by omega), _, rfl⟩
              case measure => simp [intOf]; omega
          · obtain rfl : j = L k := by omega
            go_wp2_with (first | (go_at_call 44; refine (inRange_any _ _ _ _).mono ?_; rintro e w' ⟨rfl, rfl⟩))
            go_roundw
            case rel => exact ⟨k + 1, by omega, by go_num, fun a ha => by
              by_cases e : a = k
              · subst e; exact ⟨HLk.out, allR_true.2 Hcok.out⟩
              · exact Hall.out a (by omega), _, rfl⟩
            case measure => simp [intOf]; omega
      · have hne : ((L k : Int) != (L 0 : Int)) = true := by simp; omega
        go_wp2_with fail
        go_quiet (fail)
        go_wp2_with fail
        go_ret
        exact ⟨ret_bool (vTab_bad hlt (fun hro => hLk hro.1)).symm, below_drewN (below_drewN (Below.refl _ _) _) _⟩
    · obtain rfl : k = n := by omega
      go_wp2_with fail
      go_ret
      exact ⟨ret_bool (vTab_true.2 ⟨hp, hr, hr0, Hall.out⟩).symm, below_drewN (Below.refl _ _) _⟩

theorem ret_pb {v : Value} {a b : Bool} (h : a = b) : Ending.returned (.tuple #[v, .bool a]) = Ending.returned (.tuple #[v, .bool b]) := by rw [h]

theorem tableOf_any (p : Int) (A : Option Addr) (n c : Nat) (L : Nat → Nat) (M : Nat → Nat → Int) (w : World) (hn : n ≤ 9223372036854775807) (hL : ∀ i, i < n → L i ≤ 9223372036854775807) (h : Mat w w.heap.size A n L M) :
    Calls Try.prog 71 #[.int .i64 p, .slice A n c] w fun e w' => e = .returned (.tuple #[.int .i64 p, .bool (vTab p n L M)]) ∧ Below w.heap.size w w' := by
  have Hh := hide h
  have HL := hide hL
  clear h hL
  cases hp : isP p
  · refine calls_val (a := .tuple #[.int .i64 p, .bool false]) (by simp [vTab, hp]) ?_
    go_enter Try.func71, Try.ntmps71
    go_wp2_with fail
    refine (fieldOf_any p w).mono ?_
    rintro e w1 ⟨rfl, hb1⟩
    rw [hp]
    go_wp2_with (first | (go_at_call 79; refine (within_any _ _ _ _).mono ?_; rintro e w' ⟨rfl, rfl⟩))
    go_ret2
    exact ⟨rfl, hb1⟩
  have hpb : 2 ≤ p ∧ p ≤ 7 := by rcases isP_true.1 hp with h | h | h | h <;> omega
  cases hr : inR n 1 6
  · refine calls_val (a := .tuple #[.int .i64 p, .bool false]) (by simp [vTab, hr]) ?_
    go_enter Try.func71, Try.ntmps71
    go_wp2_with fail
    refine (fieldOf_any p w).mono ?_
    rintro e w1 ⟨rfl, hb1⟩
    rw [hp]
    go_wp2_with (first | (go_at_call 79; refine (within_any _ _ _ _).mono ?_; rintro e w' ⟨rfl, rfl⟩))
    go_ret2
    exact ⟨rfl, hb1⟩
  have hb := inR_true.1 hr
  obtain ⟨b0, off, rfl, hbl, hc⟩ := Hh.out (by omega)
  obtain ⟨R0, C0, e1, e2⟩ := hc 0 (by omega)
  simp only [Nat.add_zero] at e1
  have hL0 := HL.out 0 (by omega)
  clear hc e2
  cases hr0 : inR (L 0) 1 7
  · refine calls_val (a := .tuple #[.int .i64 p, .bool false]) (by simp [vTab, hr0]) ?_
    go_enter Try.func71, Try.ntmps71
    go_wp2_with fail
    refine (fieldOf_any p w).mono ?_
    rintro e w1 ⟨rfl, hb1⟩
    have e1' := (hb1.cell (p := ⟨b0, off, none⟩) hbl).trans e1
    rw [hp]
    go_wp2_with (first | (go_at_call 79; refine (within_any _ _ _ _).mono ?_; rintro e w' ⟨rfl, rfl⟩))
    go_ret2
    exact ⟨rfl, hb1⟩
  go_enter Try.func71, Try.ntmps71
  go_wp2_with fail
  refine (fieldOf_any p w).mono ?_
  rintro e w1 ⟨rfl, hb1⟩
  have e1' := (hb1.cell (p := ⟨b0, off, none⟩) hbl).trans e1
  rw [hp]
  have Hk := hide e1
  clear e1
  go_wp2_with (first | (go_at_call 79; refine (within_any _ _ _ _).mono ?_; rintro e w' ⟨rfl, rfl⟩))
  go_loopw [34] (fun i wr => ∃ k : Nat, k ≤ n ∧ i = .int .i64 k ∧ (∀ a, a < k → trowOk p L M a) ∧ Below w.heap.size w wr) (fun i _ => n - (intOf i).toNat)
  case atStart => exact ⟨0, Nat.zero_le _, rfl, by simp, hb1⟩
  case round =>
    obtain ⟨k, hk, rfl, hall, hbr⟩ := hrel
    have Hall := hide hall
    clear hall e1' hb1
    by_cases hlt : k < n
    · obtain ⟨bb, off', eA, hbl', hc⟩ := Hh.out (by omega)
      obtain ⟨rfl, rfl⟩ : b0 = bb ∧ off = off' := by simpa using eA
      obtain ⟨R, C, e1, e2⟩ := hc k hlt
      have eA1 : wr.cell? ⟨b0, off, none⟩ = some (.slice R0 (L 0) C0) := (hbr.cell (p := ⟨b0, off, none⟩) hbl).trans Hk.out
      have eB1 : wr.cell? ⟨b0, off + k, none⟩ = some (.slice R (L k) C) := (hbr.cell (p := ⟨b0, off + k, none⟩) hbl).trans e1
      have Hh2 := hide (fun (wx : World) (hx : Below w.heap.size w wx) => has_any p R (L k) C (M k) wx (HL.out k hlt) (e2.keep hx hx.size) hpb)
      clear hc eA hbl' e1 e2
      have hLk' := HL.out k hlt
      by_cases hLk : L k = L 0
      · have hne : ((L k : Int) != (L 0 : Int)) = false := by simp [hLk]
        have HLk := hide hLk
        clear hLk
        cases ha : allR (L k) (M k) p
        · go_wp2_with fail
          refine (Hh2.out wr hbr).mono ?_
          rintro e w2 ⟨rfl, hb2⟩
          rw [ha]
          go_wp2_with fail
          go_ret2
          exact ⟨ret_pb (vTab_bad (p := p) (L := L) (M := M) hlt (fun hro => by have := hro.2; rw [ha] at this; cases this)).symm, up hb2 hbr hbr.size⟩
        · go_wp2_with fail
          refine (Hh2.out wr hbr).mono ?_
          rintro e w2 ⟨rfl, hb2⟩
          rw [ha]
          go_wp2_with fail
          go_roundw
          case rel => exact ⟨k + 1, by omega, by go_num, fun a ha' => by
            by_cases e : a = k
            · subst e; exact ⟨HLk.out, ha⟩
            · exact Hall.out a (by omega), up hb2 hbr hbr.size⟩
          case measure => simp [intOf]; omega
      · have hne : ((L k : Int) != (L 0 : Int)) = true := by simp; omega
        go_wp2_with fail
        go_ret2
        exact ⟨ret_pb (vTab_bad (p := p) (L := L) (M := M) hlt (fun hro => hLk hro.1)).symm, hbr⟩
    · obtain rfl : k = n := by omega
      go_wp2_with fail
      go_ret2
      exact ⟨ret_pb (vTab_true.2 ⟨hp, hr, hr0, Hall.out⟩).symm, hbr⟩
end Go.Proofs.Ytcalfblghblhcaa
