/-
  Arrays: the program and the reference agree on what is valid, and on two columns more. Conditions: the rows can be read.
-/
import Derived.Test.YtkalecdjcdgodaaPlusI
import Derived.Test.YtkalecdjcdgodaaHas
namespace Go.Proofs.Ytkalecdjcdgodaa
open Go.RowKit

/-- one row is of q bits -/
def browOk (q : Int) (L : Nat → Nat) (M : Nat → Nat → Int) (i : Nat) : Prop := (L i : Int) = q ∧ allR (L i) (M i) 2 = true
instance (q : Int) (L : Nat → Nat) (M : Nat → Nat → Int) (i : Nat) : Decidable (browOk q L M i) := by unfold browOk; exact inferInstance
/-- the rows are n rows of q bits -/
def bitsB (n : Nat) (L : Nat → Nat) (M : Nat → Nat → Int) (rows cols : Int) : Bool := decide ((n : Int) = rows) && decide (∀ i, i < n → browOk cols L M i)
theorem bitsB_true {n : Nat} {L : Nat → Nat} {M : Nat → Nat → Int} {rows cols : Int} : bitsB n L M rows cols = true ↔ (n : Int) = rows ∧ ∀ i, i < n → browOk cols L M i := by
  simp [bitsB]
/-- a row is no row of q bits -/
def badRow (q : Int) (l : Nat) (f : Nat → Int) : Bool := !(decide ((l : Int) = q) && allR l f 2)
theorem bitsOk1_any (q : Int) (B : Nat) (A : Option Addr) (n c : Nat) (f : Nat → Int) (w : World) (hn : n ≤ 9223372036854775807) (h : Ints w w.heap.size A n f) (hc : w.cell? ⟨B, 0, none⟩ = some (.int .i64 q)) :
    Calls Try.prog 84 #[.slice A n c, .pointer (some ⟨B, 0, none⟩)] w fun e w' => e = .returned (.bool (badRow q n f)) ∧ Below w.heap.size w w' := by
  have H := hide (has_any 2 A n c f w hn h (by omega))
  clear h
  by_cases hq : (n : Int) = q
  · have hq' : ((n : Int) != q) = false := by simp [hq]
    refine calls_bool (a := !allR n f 2) (by simp [badRow, hq]) ?_
    clear hq
    go_enter Try.func84, Try.ntmps84
    go_wp2_with fail
    refine (H.out).mono ?_
    rintro e w1 ⟨rfl, hb⟩
    go_wp2_with fail
    go_ret
    exact ⟨rfl, hb⟩
  · have hq' : ((n : Int) != q) = true := by simp [hq]
    refine calls_bool (a := true) (by simp [badRow, hq]) ?_
    clear hq
    go_enter Try.func84, Try.ntmps84
    go_wp2_with fail
    go_ret
    exact ⟨rfl, Below.refl _ _⟩

theorem rowsIndex_any (q : Int) (B : Nat) (A : Option Addr) (n c : Nat) (L : Nat → Nat) (M : Nat → Nat → Int) (w : World) (hn : n ≤ 9223372036854775807) (hL : ∀ i, i < n → L i ≤ 9223372036854775807) (h : Mat w w.heap.size A n L M) (hB : B < w.heap.size) (hcb : w.cell? ⟨B, 0, none⟩ = some (.int .i64 q)) :
    Calls Try.prog 89 #[.slice A n c, .func (.func 84) #[] #[.pointer (some ⟨B, 0, none⟩)]] w fun e w' => ∃ r : Int, e = .returned (.int .i64 r) ∧ (decide (0 ≤ r) = !decide (∀ i, i < n → browOk q L M i)) ∧ Below w.heap.size w w' := by
  have H := hide h
  have HL := hide hL
  have HCB := hide hcb
  clear h hcb hL
  go_enter Try.func89, Try.ntmps89
  go_wp2_with fail
  go_loopw [8] (fun i wr => ∃ k : Nat, k ≤ n ∧ i = .int .i64 k ∧ (∀ j, j < k → browOk q L M j) ∧ Below w.heap.size w wr) (fun i _ => n - (intOf i).toNat)
  case atStart => exact ⟨0, Nat.zero_le _, rfl, by simp, Below.refl _ _⟩
  case round =>
    obtain ⟨k, hk, rfl, hall, hb⟩ := hrel
    have Hall := hide hall
    clear hall
    by_cases hlt : k < n
    · obtain ⟨b, off, rfl, hbl, hc⟩ := H.out (by omega)
      obtain ⟨R1, C1, e1, e2⟩ := hc k hlt
      have hck := (hb.cell (p := ⟨b, off + k, none⟩) hbl).trans e1
      have HC := hide (bitsOk1_any q B R1 (L k) C1 (M k) wr (HL.out k hlt) (e2.keep hb hb.size) ((hb.cell (p := ⟨B, 0, none⟩) hB).trans HCB.out))
      clear hc e1 e2
      cases hx : badRow q (L k) (M k)
      · rw [hx] at HC
        have HOK := hide (show browOk q L M k by simpa [badRow, browOk] using hx)
        clear hx
        go_wp2_with fail
        refine (HC.out).mono ?_
        rintro e w1 ⟨rfl, hb1⟩
        go_wp2_with fail
        go_roundw
        case rel => exact ⟨k + 1, by omega, by go_num, fun j hj => by
          by_cases e : j = k
          · subst e; exact HOK.out
          · exact Hall.out j (by omega), up hb1 hb hb.size⟩
        case measure => simp [intOf]; omega
      · rw [hx] at HC
        have HOK := hide (show ¬ ∀ i, i < n → browOk q L M i from fun hh => by
          have := hh k hlt
          simp only [badRow, Bool.not_eq_true', Bool.and_eq_false_iff, decide_eq_false_iff_not] at hx
          rcases hx with hx | hx
          · exact hx this.1
          · have := this.2; rw [hx] at this; cases this)
        clear hx
        go_wp2_with fail
        refine (HC.out).mono ?_
        rintro e w1 ⟨rfl, hb1⟩
        go_wp2_with fail
        go_ret
        exact ⟨k, rfl, by rw [decide_eq_false HOK.out]; simp, up hb1 hb hb.size⟩
    · obtain rfl : k = n := by omega
      go_wp2_with fail
      go_ret
      exact ⟨-1, rfl, by rw [decide_eq_true Hall.out]; rfl, hb⟩

theorem bitsOk_any (A : Option Addr) (n c : Nat) (L : Nat → Nat) (M : Nat → Nat → Int) (rows cols : Int) (w : World) (hn : n ≤ 9223372036854775807) (hL : ∀ i, i < n → L i ≤ 9223372036854775807) (h : Mat w w.heap.size A n L M) :
    Calls Try.prog 70 #[.slice A n c, .int .i64 rows, .int .i64 cols] w fun e w' => e = .returned (.bool (bitsB n L M rows cols)) ∧ Below w.heap.size w w' := by
  have HI := hide (rowsIndex_any cols w.heap.size A n c L M (w.alloc (.cells #[.int .i64 cols] 3)) hn hL (h.keep ((Below.refl _ _).alloc (Nat.le_refl _) _) (by simp)) (by simp) (by simp))
  clear hL h
  by_cases hr : (n : Int) = rows
  · have hr' : ((n : Int) == rows) = true := by simp [hr]
    refine calls_bool (a := decide (∀ i, i < n → browOk cols L M i)) (by simp [bitsB, hr]) ?_
    clear hr
    go_enter Try.func70, Try.ntmps70
    go_wp2_with fail
    have HC : Calls Try.prog 83 #[.slice A n c, .func (.func 84) #[] #[.pointer (some ⟨w.heap.size, 0, none⟩)]] (w.alloc (.cells #[.int .i64 cols] 3)) fun e w' => e = .returned (.bool (!decide (∀ i, i < n → browOk cols L M i))) ∧ Below (w.alloc (.cells #[.int .i64 cols] 3)).heap.size (w.alloc (.cells #[.int .i64 cols] 3)) w' := by
      go_enter Try.func83, Try.ntmps83
      go_wp2_with fail
      refine (HI.out).mono ?_
      rintro e w1 ⟨r, rfl, hr, hb⟩
      have HR := hide hr
      clear hr
      go_wp2_with fail
      go_ret
      exact ⟨ret_bool HR.out, hb⟩
    refine HC.mono ?_
    rintro e w1 ⟨rfl, hb⟩
    have HB := hide (up hb ((Below.refl w.heap.size w).alloc (Nat.le_refl _) (.cells #[.int .i64 cols] 3)) (by simp))
    clear hb
    go_wp2_with fail
    go_ret
    exact ⟨ret_bool (by simp), HB.out⟩
  · have hr' : ((n : Int) == rows) = false := by simp [hr]
    refine calls_bool (a := false) (by simp [bitsB, hr]) ?_
    clear hr
    go_enter Try.func70, Try.ntmps70
    go_wp2_with fail
    go_ret
    exact ⟨rfl, by go_grown⟩

/-- p is a prime of arrays -/
def isA (p : Int) : Bool := decide (p = 3 ∨ p = 5)
theorem isA_true {p : Int} : isA p = true ↔ p = 3 ∨ p = 5 := by simp [isA]
theorem arrayPrime_any (p : Int) (w : World) : Calls Try.prog 69 #[.int .i64 p] w fun e w' => e = .returned (.bool (isA p)) ∧ w = w' := by
  by_cases h3 : p = 3
  · subst h3
    go_enter Try.func69, Try.ntmps69
    go_wp2
    go_ret
    exact ⟨rfl, rfl⟩
  have e3 : (p == 3) = false := by simp [h3]
  have hp : (p == 5) = isA p := by rw [Bool.eq_iff_iff, isA_true]; simp; omega
  have HP := hide hp
  clear hp h3
  go_enter Try.func69, Try.ntmps69
  go_wp2
  go_ret
  exact ⟨ret_bool HP.out, rfl⟩

/-- the rows are an array over p -/
def arrB (p : Int) (n : Nat) (L : Nat → Nat) (M : Nat → Nat → Int) : Bool := isA p && bitsB n L M (p - 1) (p - 1)
theorem arr_ok {p : Int} {n : Nat} {L : Nat → Nat} {M : Nat → Nat → Int} (h : arrB p n L M = true) : ((p = 3 ∧ n = 2) ∨ (p = 5 ∧ n = 4)) ∧ (∀ i, i < n → L i = n) ∧ Bin n n M := by
  rw [arrB, Bool.and_eq_true, isA_true, bitsB_true] at h
  obtain ⟨h1, h2, h3⟩ := h
  have hl : ∀ i, i < n → L i = n := fun i hi => by have := (h3 i hi).1; omega
  refine ⟨by omega, hl, fun i j hi hj => ?_⟩
  have := inR_true.1 (allR_true.1 (h3 i hi).2 j (by rw [hl i hi]; exact hj))
  omega
theorem arr_bad {p : Int} {n : Nat} {L : Nat → Nat} {M : Nat → Nat → Int} {i : Nat} (hi : i < n) (h : ¬ browOk (p - 1) L M i) : arrB p n L M = false := by
  rw [← Bool.not_eq_true, arrB, Bool.and_eq_true, bitsB_true]; exact fun hh => h (hh.2.2 i hi)

theorem validArray_any (p : Int) (A : Option Addr) (n c : Nat) (L : Nat → Nat) (M : Nat → Nat → Int) (w : World) (hn : n ≤ 9223372036854775807) (hL : ∀ i, i < n → L i ≤ 9223372036854775807) (h : Mat w w.heap.size A n L M) :
    Calls Try.prog 66 #[.int .i64 p, .slice A n c] w fun e w' => e = .returned (.bool (arrB p n L M)) ∧ w = w' := by
  have Hh := hide h
  have HL := hide hL
  clear h hL
  by_cases hp : ¬ (p = 3 ∨ p = 5)
  · refine calls_bool (a := false) (by rw [arrB, show isA p = false by rw [← Bool.not_eq_true, isA_true]; exact hp]; rfl) ?_
    have e3 : (p != 3) = true := by simp; omega
    have e5 : (p != 5) = true := by simp; omega
    clear hp
    go_enter Try.func66, Try.ntmps66
    go_wp2_with fail
    go_ret
    exact ⟨rfl, rfl⟩
  have hp2 : p = 3 ∨ p = 5 := by omega
  clear hp
  rcases hp2 with rfl | rfl
  · by_cases hnq : n ≠ 2
    · have hne : ((n : Int) != 2) = true := by simp; omega
      refine calls_bool (a := false) (by simp [arrB, bitsB]; intro _ h; omega) ?_
      clear hnq
      go_enter Try.func66, Try.ntmps66
      go_wp2_with fail
      go_ret
      exact ⟨rfl, rfl⟩
    obtain rfl : n = 2 := by omega
    have HBAD := hide (fun i hi h => arr_bad (p := 3) (n := 2) (L := L) (M := M) (i := i) hi h)
    have HGOOD := hide (fun (h : ∀ i, i < 2 → browOk 2 L M i) => (show arrB 3 2 L M = true from by
      rw [arrB, Bool.and_eq_true, isA_true, bitsB_true]
      exact ⟨by omega, by omega, h⟩))
    obtain ⟨b, off, rfl, hbl, hc⟩ := Hh.out (by omega)
    have HC := hide hc
    clear hc hnq Hh
    go_enter Try.func66, Try.ntmps66
    go_wp2_with fail
    go_loop [5] (fun i => ∃ k : Nat, k ≤ 2 ∧ i = .int .i64 k ∧ (∀ a, a < k → browOk 2 L M a)) (fun i => 2 - (intOf i).toNat)
    case atStart => exact ⟨0, Nat.zero_le _, rfl, by simp⟩
    case round =>
      obtain ⟨k, hk, rfl, hall⟩ := hrel
      have Hall := hide hall
      clear hall
      by_cases hlt : k < 2
      · obtain ⟨R1, C1, e1, e2⟩ := HC.out k hlt
        by_cases hlk : L k = 2
        · rw [hlk] at e1 e2
          obtain ⟨br, ro, rfl, hbr, hcr⟩ := e2 (by omega)
          have HCR := hide hcr
          have HLK := hide hlk
          clear hcr e2 hlk
          go_wp2_with fail
          go_loop [6] (fun i => ∃ j : Nat, j ≤ 2 ∧ i = .int .i64 j ∧ (∀ t, t < j → inR (M k t) 0 1 = true)) (fun i => 2 - (intOf i).toNat)
          case atStart => exact ⟨0, Nat.zero_le _, rfl, by simp⟩
          case round =>
            obtain ⟨j, hj, rfl, hok⟩ := hrel
            have Hok := hide hok
            clear hok
            by_cases hjq : j < 2
            · have hcj := HCR.out j hjq
              cases hx : inR (M k j) 0 1
              · have HX := hide (HBAD.out k hlt (fun hb => by
                  have := allR_true.1 hb.2 j (by rw [HLK.out]; exact hjq)
                  rw [show ((2 : Int) - 1) = 1 by omega] at this
                  rw [this] at hx; cases hx))
                go_wp2_with (first | (go_at_call 56; refine (inRange_any _ _ _ _).mono ?_; rintro e w' ⟨rfl, rfl⟩))
                go_ret
                exact ⟨ret_bool HX.out.symm, rfl⟩
              · go_wp2_with (first | (go_at_call 56; refine (inRange_any _ _ _ _).mono ?_; rintro e w' ⟨rfl, rfl⟩))
                go_round
                case rel => exact ⟨j + 1, by omega, by go_num, fun t ht => by
                  by_cases e : t = j
                  · subst e; exact hx
                  · exact Hok.out t (by omega)⟩
                case measure => simp [intOf]; omega
            · obtain rfl : j = 2 := by omega
              go_wp2_with fail
              go_round
              case rel => exact ⟨k + 1, by omega, by go_num, fun a ha => by
                by_cases e : a = k
                · subst e
                  refine ⟨by rw [HLK.out]; rfl, allR_true.2 fun i hi => ?_⟩
                  rw [HLK.out] at hi
                  exact Hok.out i hi
                · exact Hall.out a (by omega)⟩
              case measure => simp [intOf]; omega
        · have hne : ((L k : Int) != 2) = true := by simp; omega
          have HX := hide (HBAD.out k hlt (fun hb => by have := hb.1; omega))
          clear e2
          generalize L k = l at *
          go_wp2_with fail
          go_ret
          exact ⟨ret_bool HX.out.symm, rfl⟩
      · obtain rfl : k = 2 := by omega
        have HX := hide (HGOOD.out Hall.out)
        go_wp2_with fail
        go_ret
        exact ⟨ret_bool HX.out.symm, rfl⟩
  · by_cases hnq : n ≠ 4
    · have hne : ((n : Int) != 4) = true := by simp; omega
      refine calls_bool (a := false) (by simp [arrB, bitsB]; intro _ h; omega) ?_
      clear hnq
      go_enter Try.func66, Try.ntmps66
      go_wp2_with fail
      go_ret
      exact ⟨rfl, rfl⟩
    obtain rfl : n = 4 := by omega
    have HBAD := hide (fun i hi h => arr_bad (p := 5) (n := 4) (L := L) (M := M) (i := i) hi h)
    have HGOOD := hide (fun (h : ∀ i, i < 4 → browOk 4 L M i) => (show arrB 5 4 L M = true from by
      rw [arrB, Bool.and_eq_true, isA_true, bitsB_true]
      exact ⟨by omega, by omega, h⟩))
    obtain ⟨b, off, rfl, hbl, hc⟩ := Hh.out (by omega)
    have HC := hide hc
    clear hc hnq Hh
    go_enter Try.func66, Try.ntmps66
    go_wp2_with fail
    go_loop [5] (fun i => ∃ k : Nat, k ≤ 4 ∧ i = .int .i64 k ∧ (∀ a, a < k → browOk 4 L M a)) (fun i => 4 - (intOf i).toNat)
    case atStart => exact ⟨0, Nat.zero_le _, rfl, by simp⟩
    case round =>
      obtain ⟨k, hk, rfl, hall⟩ := hrel
      have Hall := hide hall
      clear hall
      by_cases hlt : k < 4
      · obtain ⟨R1, C1, e1, e2⟩ := HC.out k hlt
        by_cases hlk : L k = 4
        · rw [hlk] at e1 e2
          obtain ⟨br, ro, rfl, hbr, hcr⟩ := e2 (by omega)
          have HCR := hide hcr
          have HLK := hide hlk
          clear hcr e2 hlk
          go_wp2_with fail
          go_loop [6] (fun i => ∃ j : Nat, j ≤ 4 ∧ i = .int .i64 j ∧ (∀ t, t < j → inR (M k t) 0 1 = true)) (fun i => 4 - (intOf i).toNat)
          case atStart => exact ⟨0, Nat.zero_le _, rfl, by simp⟩
          case round =>
            obtain ⟨j, hj, rfl, hok⟩ := hrel
            have Hok := hide hok
            clear hok
            by_cases hjq : j < 4
            · have hcj := HCR.out j hjq
              cases hx : inR (M k j) 0 1
              · have HX := hide (HBAD.out k hlt (fun hb => by
                  have := allR_true.1 hb.2 j (by rw [HLK.out]; exact hjq)
                  rw [show ((2 : Int) - 1) = 1 by omega] at this
                  rw [this] at hx; cases hx))
                go_wp2_with (first | (go_at_call 56; refine (inRange_any _ _ _ _).mono ?_; rintro e w' ⟨rfl, rfl⟩))
                go_ret
                exact ⟨ret_bool HX.out.symm, rfl⟩
              · go_wp2_with (first | (go_at_call 56; refine (inRange_any _ _ _ _).mono ?_; rintro e w' ⟨rfl, rfl⟩))
                go_round
                case rel => exact ⟨j + 1, by omega, by go_num, fun t ht => by
                  by_cases e : t = j
                  · subst e; exact hx
                  · exact Hok.out t (by omega)⟩
                case measure => simp [intOf]; omega
            · obtain rfl : j = 4 := by omega
              go_wp2_with fail
              go_round
              case rel => exact ⟨k + 1, by omega, by go_num, fun a ha => by
                by_cases e : a = k
                · subst e
                  refine ⟨by rw [HLK.out]; rfl, allR_true.2 fun i hi => ?_⟩
                  rw [HLK.out] at hi
                  exact Hok.out i hi
                · exact Hall.out a (by omega)⟩
              case measure => simp [intOf]; omega
        · have hne : ((L k : Int) != 4) = true := by simp; omega
          have HX := hide (HBAD.out k hlt (fun hb => by have := hb.1; omega))
          clear e2
          generalize L k = l at *
          go_wp2_with fail
          go_ret
          exact ⟨ret_bool HX.out.symm, rfl⟩
      · obtain rfl : k = 4 := by omega
        have HX := hide (HGOOD.out Hall.out)
        go_wp2_with fail
        go_ret
        exact ⟨ret_bool HX.out.symm, rfl⟩
end Go.Proofs.Ytkalecdjcdgodaa
