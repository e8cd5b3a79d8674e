/-
  Different rests: the program and the reference agree. Conditions: the list is a slice of ints that can be read, p is 2 .. 7.
-/
import Derived.Test.YthafmoofemfdmaaHas
import Derived.Test.YthafmoofemfdmaaThing
namespace Go.Proofs.Ythafmoofemfdmaa
open Go.RowKit

/-- no number twice -/
def noTwice (n : Nat) (f : Nat → Int) : Prop := ∀ i, i < n → ∀ k, k < i → f i ≠ f k
instance (n : Nat) (f : Nat → Int) : Decidable (noTwice n f) := by unfold noTwice; exact inferInstance
/-- different rests -/
def diffB (p : Int) (n : Nat) (f : Nat → Int) : Bool := decide (noTwice n f) && allR n f p
theorem diffB_true {p : Int} {n : Nat} {f : Nat → Int} : diffB p n f = true ↔ noTwice n f ∧ ∀ i, i < n → inR (f i) 0 (p - 1) = true := by
  rw [diffB, Bool.and_eq_true, decide_eq_true_eq, allR_true]
theorem diffB_bad1 {p : Int} {n i : Nat} {f : Nat → Int} (hi : i < n) (h : inR (f i) 0 (p - 1) = false) : diffB p n f = false := by
  rw [← Bool.not_eq_true, diffB_true]; intro hh; have := hh.2 i hi; rw [h] at this; cases this
theorem diffB_bad2 {p : Int} {n i k : Nat} {f : Nat → Int} (hi : i < n) (hk : k < i) (h : f i = f k) : diffB p n f = false := by
  rw [← Bool.not_eq_true, diffB_true]; exact fun hh => hh.1 i hi k hk h

theorem differentS_any (p : Int) (A : Option Addr) (n c : Nat) (f : Nat → Int) (w : World) (hn : n ≤ 9223372036854775807) (hp : 2 ≤ p ∧ p ≤ 7) (h : Ints w w.heap.size A n f) :
    Calls Try.prog 86 #[.int .i64 p, .slice A n c] w fun e w' => e = .returned (.bool (diffB p n f)) ∧ ∃ q, w.drewN q = w' := by
  have Hh := hide h
  clear h
  have HB1 := hide (fun i (hi : i < n) (h : inR (f i) 0 (p - 1) = false) => diffB_bad1 (p := p) hi h)
  have HB2 := hide (fun i k (hi : i < n) (hk : k < i) (h : f i = f k) => diffB_bad2 (p := p) hi hk h)
  have HOK := hide (show (∀ i, i < n → inR (f i) 0 (p - 1) = true ∧ ∀ k, k < i → f i ≠ f k) → diffB p n f = true from fun h => diffB_true.2 ⟨fun i hi k hk => (h i hi).2 k hk, fun i hi => (h i hi).1⟩)
  go_enter Try.func86, Try.ntmps86
  go_wp2_with fail
  go_loopw [5] (fun i wr => ∃ k : Nat, k ≤ n ∧ i = .int .i64 k ∧ (∀ i, i < k → inR (f i) 0 (p - 1) = true ∧ ∀ k, k < i → f i ≠ f k) ∧ ∃ q, wr = w.drewN q) (fun i _ => n - (intOf i).toNat)
  case atStart => exact ⟨0, Nat.zero_le _, rfl, by simp, 0, rfl⟩
  case round =>
    obtain ⟨k, hk, rfl, hall, q, rfl⟩ := hrel
    have Hall := hide hall
    clear hall
    by_cases hlt : k < n
    · obtain ⟨b, off, rfl, hbl, hc⟩ := Hh.out (by omega)
      have HC := hide hc
      have hcell : (w.drewN q).cell? ⟨b, off + k, none⟩ = some (.int .i64 (f k)) := hc k hlt
      clear hc
      cases h1 : inR (f k) 0 (p - 1)
      · have HX := hide (HB1.out k hlt h1)
        go_wp2_with (first | (go_at_call 58; refine (inRange_any _ _ _ _).mono ?_; rintro e w' ⟨rfl, rfl⟩))
        go_ret
        exact ⟨ret_bool HX.out.symm, _, rfl⟩
      · go_wp2_with (first | (go_at_call 58; refine (inRange_any _ _ _ _).mono ?_; rintro e w' ⟨rfl, rfl⟩))
        clear hcell
        go_loopw [6] (fun i wi => ∃ j : Nat, j ≤ k ∧ i = .int .i64 j ∧ (∀ t, t < j → f k ≠ f t) ∧ ∃ q', wi = w.drewN q') (fun i _ => k - (intOf i).toNat)
        case atStart => exact ⟨0, Nat.zero_le _, rfl, by simp, _, rfl⟩
        case round =>
          obtain ⟨j, hj, rfl, hne, q', rfl⟩ := hrel
          have Hne := hide hne
          clear hne
          by_cases hjk : j < k
          · have c1 : w.cell? ⟨b, off + k, none⟩ = some (.int .i64 (f k)) := HC.out k hlt
            have c2 : w.cell? ⟨b, off + j, none⟩ = some (.int .i64 (f j)) := HC.out j (by omega)
            by_cases he : f k = f j
            · have he' : (f k == f j) = true := by simp [he]
              have HX := hide (HB2.out k j hlt hjk he)
              clear he
              generalize f k = x at *
              generalize f j = y at *
              go_wp2_with fail
              go_quiet (fail)
              go_wp2_with fail
              go_ret
              exact ⟨ret_bool HX.out.symm, by first | exact ⟨_, rfl⟩ | exact ⟨_, (World.drewN_drewN _ _ _).symm⟩⟩
            · have he' : (f k == f j) = false := by simp [he]
              have HN := hide (show ∀ t, t < j + 1 → f k ≠ f t from fun t ht => by
                by_cases e : t = j
                · subst e; exact he
                · exact Hne.out t (by omega))
              clear he
              generalize f j = y at c2 he'
              go_wp2_with fail
              go_quiet (fail)
              go_wp2_with fail
              go_roundw
              case rel => exact ⟨j + 1, by omega, by go_num, HN.out, by first | exact ⟨_, rfl⟩ | exact ⟨_, World.drewN_drewN _ _ _⟩⟩
              case measure => simp [intOf]; omega
          · obtain rfl : j = k := by omega
            go_wp2_with fail
            go_roundw
            case rel => exact ⟨j + 1, by omega, by go_num, fun i hi => by
              by_cases e : i = j
              · subst e; exact ⟨h1, Hne.out⟩
              · exact Hall.out i (by omega), _, rfl⟩
            case measure => simp [intOf]; omega
    · obtain rfl : k = n := by omega
      have HX := hide (HOK.out Hall.out)
      go_wp2_with fail
      go_ret
      exact ⟨ret_bool HX.out.symm, _, rfl⟩

theorem differentI_any (p : Int) (A : Option Addr) (n c : Nat) (f : Nat → Int) (w : World) (hn : n ≤ 9223372036854775807) (hnc : n ≤ c) (hcm : c ≤ 9223372036854775807) (hp : 2 ≤ p ∧ p ≤ 7) (h : Ints w w.heap.size A n f) :
    Calls Try.prog 87 #[.int .i64 p, .slice A n c] w fun e w' => e = .returned (.bool (diffB p n f)) ∧ Below w.heap.size w w' := by
  have Hh := hide h
  have HHas := hide (has_any p A n c f w hn h hp)
  clear h
  have HB2 := hide (fun i (hi : i < n) (h : hasB i f (f i) = true) => (by
    obtain ⟨k, hk, e⟩ := hasB_true.1 h
    exact diffB_bad2 (p := p) hi hk e.symm : diffB p n f = false))
  have HOK := hide (show (∀ i, i < n → hasB i f (f i) = false) → diffB p n f = allR n f p from fun h => by
    rw [diffB, decide_eq_true (show noTwice n f from fun i hi k hk e => hasB_false.1 (h i hi) k hk e.symm), Bool.true_and])
  go_enter Try.func87, Try.ntmps87
  go_wp2_with fail
  go_loop [9] (fun i => ∃ k : Nat, k ≤ n ∧ i = .int .i64 k ∧ (∀ i, i < k → hasB i f (f i) = false)) (fun i => n - (intOf i).toNat)
  case atStart => exact ⟨0, Nat.zero_le _, rfl, by simp⟩
  case round =>
    obtain ⟨k, hk, rfl, hall⟩ := hrel
    have Hall := hide hall
    clear hall
    by_cases hlt : k < n
    · obtain ⟨b, off, rfl, hbl, hc⟩ := Hh.out (by omega)
      have hcell := hc k hlt
      have HC := hide (slContains_any (some ⟨b, off, none⟩) k c f (f k) w (by omega) (fun _ => ⟨b, off, rfl, hbl, fun i hi => hc i (by omega)⟩))
      clear hc
      cases hh : hasB k f (f k)
      · rw [hh] at HC
        have HN := hide (show ∀ i, i < k + 1 → hasB i f (f i) = false from fun i hi => by
          by_cases e : i = k
          · subst e; exact hh
          · exact Hall.out i (by omega))
        clear hh
        go_wp2_with fail
        refine (HC.out).mono ?_
        rintro e _ ⟨rfl, rfl⟩
        go_wp2_with fail
        go_round
        case rel => exact ⟨k + 1, by omega, by go_num, HN.out⟩
        case measure => simp [intOf]; omega
      · rw [hh] at HC
        have HX := hide (HB2.out k hlt hh)
        clear hh
        go_wp2_with fail
        refine (HC.out).mono ?_
        rintro e _ ⟨rfl, rfl⟩
        go_wp2_with fail
        go_ret
        exact ⟨ret_bool HX.out.symm, Below.refl _ _⟩
    · obtain rfl : k = n := by omega
      have HX := hide (HOK.out Hall.out)
      go_wp2_with fail
      refine (HHas.out).mono ?_
      rintro e w1 ⟨rfl, hb⟩
      go_wp2_with fail
      go_ret
      exact ⟨ret_bool HX.out.symm, hb⟩
end Go.Proofs.Ythafmoofemfdmaa
