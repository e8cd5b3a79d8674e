/-
  Schemes: the program and the reference agree on what is valid. Conditions: the scheme can be read.
-/
import Derived.Test.YtcalfblghblhcaaTable
namespace Go.Proofs.Ytcalfblghblhcaa
open Go.RowKit

/-- an owner is one of the five -/
def badO (x : Int) : Bool := !inR x 0 4
theorem owner1_any (x : Int) (w : World) :
    Calls Try.prog 78 #[.int .i64 x] w fun e w' => e = .returned (.bool (badO x)) ∧ w = w' := by
  go_enter Try.func78, Try.ntmps78
  go_wp2_with (first | (go_at_call 79; refine (within_any _ _ _ _).mono ?_; rintro e w' ⟨rfl, rfl⟩))
  go_ret
  exact ⟨rfl, rfl⟩
theorem ownIndex_any (A : Option Addr) (n c : Nat) (f : Nat → Int) (w : World) (hn : n ≤ 9223372036854775807) (h : Ints w w.heap.size A n f) :
    Calls Try.prog 96 #[.slice A n c, .func (.func 78) #[] #[]] w fun e w' => ∃ r : Int, e = .returned (.int .i64 r) ∧ (decide (0 ≤ r) = !noneB n f badO) ∧ w = w' := by
  have H := hide h
  have HC := hide (fun x => owner1_any x w)
  clear h
  go_enter Try.func96, Try.ntmps96
  go_wp2_with fail
  go_loop [8] (fun i => ∃ k : Nat, k ≤ n ∧ i = .int .i64 k ∧ (∀ j, j < k → badO (f j) = false)) (fun i => n - (intOf i).toNat)
  case atStart => exact ⟨0, Nat.zero_le _, rfl, by simp⟩
  case round =>
    obtain ⟨k, hk, rfl, hall⟩ := hrel
    have Hall := hide hall
    clear hall
    by_cases hlt : k < n
    · obtain ⟨b, off, rfl, hbl, hc⟩ := H.out (by omega)
      have hck := hc k hlt
      clear hc
      cases hx : badO (f k)
      · go_wp2_with fail
        refine (HC.out _).mono ?_
        rintro e w' ⟨rfl, rfl⟩
        rw [hx]
        go_wp2_with fail
        go_round
        case rel => exact ⟨k + 1, by omega, by go_num, fun j hj => by
          by_cases e : j = k
          · subst e; exact hx
          · exact Hall.out j (by omega)⟩
        case measure => simp [intOf]; omega
      · go_wp2_with fail
        refine (HC.out _).mono ?_
        rintro e w' ⟨rfl, rfl⟩
        rw [hx]
        go_wp2_with fail
        go_ret
        exact ⟨k, rfl, by rw [noneB_false ⟨k, hlt, hx⟩]; simp, rfl⟩
    · obtain rfl : k = n := by omega
      go_wp2_with fail
      go_ret
      exact ⟨-1, rfl, by rw [noneB_true.2 Hall.out]; rfl, rfl⟩

theorem ownContains_any (A : Option Addr) (n c : Nat) (f : Nat → Int) (w : World) (hn : n ≤ 9223372036854775807) (h : Ints w w.heap.size A n f) :
    Calls Try.prog 77 #[.slice A n c, .func (.func 78) #[] #[]] w fun e w' => e = .returned (.bool (!noneB n f badO)) ∧ w = w' := by
  have H := hide (ownIndex_any  A n c f w hn h)
  clear h
  go_enter Try.func77, Try.ntmps77
  go_wp2_with fail
  refine (H.out).mono ?_
  rintro e w' ⟨r, rfl, hr, rfl⟩
  have Hr := hide hr
  clear hr
  go_wp2_with fail
  go_ret
  exact ⟨ret_bool Hr.out, rfl⟩


/-- the scheme is valid -/
def vSch (p : Int) (n : Nat) (L : Nat → Nat) (M : Nat → Nat → Int) (m : Nat) (f : Nat → Int) : Bool := vTab p n L M && decide (m = n) && noneB m f badO
theorem vSch_true {p : Int} {n : Nat} {L : Nat → Nat} {M : Nat → Nat → Int} {m : Nat} {f : Nat → Int} : vSch p n L M m f = true ↔ vTab p n L M = true ∧ m = n ∧ noneB m f badO = true := by
  simp only [vSch, Bool.and_eq_true, decide_eq_true_eq, and_assoc]

theorem validSchemeS_any (p : Int) (A O : Option Addr) (n c m e : Nat) (L : Nat → Nat) (M : Nat → Nat → Int) (f : Nat → Int) (w : World) (hn : n ≤ 9223372036854775807) (hL : ∀ i, i < n → L i ≤ 9223372036854775807) (hm : m ≤ 9223372036854775807) (h : Mat w w.heap.size A n L M) (h2 : Ints w w.heap.size O m f) :
    Calls Try.prog 42 #[.agg #[.int .i64 p, .slice A n c, .slice O m e]] w fun x w' => x = .returned (.bool (vSch p n L M m f)) ∧ Below w.heap.size w w' := by
  have HT := hide (fun (W : World) (hb : Below w.heap.size w W) => validTableS_any p A n c L M W hn hL (h.keep hb hb.size))
  have H2 := hide (fun (W : World) (hb : Below w.heap.size w W) => h2.keep hb hb.size)
  clear hL h h2
  cases hv : vTab p n L M
  · refine calls_bool (a := false) (by simp [vSch, hv]) ?_
    go_enter Try.func42, Try.ntmps42
    go_wp2_with fail
    refine (HT.out _ (by go_grown)).mono ?_
    rintro x w1 ⟨rfl, hb⟩
    rw [hv]
    go_wp2_with fail
    go_ret
    exact ⟨rfl, up hb (by go_grown) (by simp)⟩
  by_cases hmn : m ≠ n
  · refine calls_bool (a := false) (by simp [vSch, hmn]) ?_
    have hne : ((m : Int) != n) = true := by simp; omega
    have Hmn := hide hmn
    clear hmn
    go_enter Try.func42, Try.ntmps42
    go_wp2_with fail
    refine (HT.out _ (by go_grown)).mono ?_
    rintro x w1 ⟨rfl, hb⟩
    rw [hv]
    have B := Blk.below (Blk.new w 29 #[.int .i64 p, .slice A n c, .slice O m e]) hb (by simp)
    have c1 := B.at_ (i := 1) rfl
    have c2 := B.at_ (i := 2) rfl
    clear B
    go_wp2_with fail
    go_ret
    exact ⟨rfl, up hb (by go_grown) (by simp)⟩
  obtain rfl : m = n := by omega
  clear hmn
  have hne : ((m : Int) != m) = false := by simp
  refine calls_bool (a := noneB m f badO) (by simp [vSch, hv]) ?_
  go_enter Try.func42, Try.ntmps42
  go_wp2_with fail
  refine (HT.out _ (by go_grown)).mono ?_
  rintro x w1 ⟨rfl, hb⟩
  rw [hv]
  have hb1 : Below w.heap.size w w1 := up hb (by go_grown) (by simp)
  have B := Blk.below (Blk.new w 29 #[.int .i64 p, .slice A m c, .slice O m e]) hb (by simp)
  have c1 := B.at_ (i := 1) rfl
  have c2 := B.at_ (i := 2) rfl
  clear B hb
  go_wp2_with fail
  go_loop [3] (fun i => ∃ k : Nat, k ≤ m ∧ i = .int .i64 k ∧ (∀ j, j < k → badO (f j) = false)) (fun i => m - (intOf i).toNat)
  case atStart => exact ⟨0, Nat.zero_le _, rfl, by simp⟩
  case round =>
    obtain ⟨k, hk, rfl, hall⟩ := hrel
    have Hall := hide hall
    clear hall
    by_cases hlt : k < m
    · obtain ⟨b, off, rfl, hbl, hc⟩ := H2.out _ hb1 (by omega)
      have hck := hc k hlt
      clear hc
      cases hx : inR (f k) 0 4
      · go_wp2_with (first | (go_at_call 44; refine (inRange_any _ _ _ _).mono ?_; rintro e w' ⟨rfl, rfl⟩))
        go_ret
        exact ⟨ret_bool (noneB_false ⟨k, hlt, by simp [badO, hx]⟩).symm, hb1⟩
      · go_wp2_with (first | (go_at_call 44; refine (inRange_any _ _ _ _).mono ?_; rintro e w' ⟨rfl, rfl⟩))
        go_round
        case rel => exact ⟨k + 1, by omega, by go_num, fun j hj => by
          by_cases e : j = k
          · subst e; simp [badO, hx]
          · exact Hall.out j (by omega)⟩
        case measure => simp [intOf]; omega
    · obtain rfl : k = m := by omega
      go_wp2_with fail
      go_ret
      exact ⟨ret_bool (noneB_true.2 Hall.out).symm, hb1⟩

theorem knownI_any (p : Int) (A O : Option Addr) (n c m e : Nat) (L : Nat → Nat) (M : Nat → Nat → Int) (f : Nat → Int) (w : World) (hn : n ≤ 9223372036854775807) (hL : ∀ i, i < n → L i ≤ 9223372036854775807) (hm : m ≤ 9223372036854775807) (h : Mat w w.heap.size A n L M) (h2 : Ints w w.heap.size O m f) :
    Calls Try.prog 60 #[.agg #[.int .i64 p, .slice A n c, .slice O m e]] w fun x w' => x = .returned (.tuple #[.int .i64 p, .bool (vSch p n L M m f)]) ∧ Below w.heap.size w w' := by
  have HT := hide (fun (W : World) (hb : Below w.heap.size w W) => tableOf_any p A n c L M W hn hL (h.keep hb hb.size))
  have H2 := hide (fun (W : World) (hb : Below w.heap.size w W) => ownContains_any O m e f W hm (h2.keep hb hb.size))
  clear hL h h2
  cases hv : vTab p n L M
  · refine calls_val (a := .tuple #[.int .i64 p, .bool false]) (by simp [vSch, hv]) ?_
    go_enter Try.func60, Try.ntmps60
    go_wp2_with fail
    refine (HT.out _ (by go_grown)).mono ?_
    rintro x w1 ⟨rfl, hb⟩
    rw [hv]
    go_wp2_with fail
    go_ret2
    exact ⟨rfl, up hb (by go_grown) (by simp)⟩
  by_cases hmn : m ≠ n
  · refine calls_val (a := .tuple #[.int .i64 p, .bool false]) (by simp [vSch, hmn]) ?_
    have hne : ((m : Int) != n) = true := by simp; omega
    have Hmn := hide hmn
    clear hmn
    go_enter Try.func60, Try.ntmps60
    go_wp2_with fail
    refine (HT.out _ (by go_grown)).mono ?_
    rintro x w1 ⟨rfl, hb⟩
    rw [hv]
    have B := Blk.below (Blk.new w 29 #[.int .i64 p, .slice A n c, .slice O m e]) hb (by simp)
    have c1 := B.at_ (i := 1) rfl
    have c2 := B.at_ (i := 2) rfl
    clear B
    go_wp2_with fail
    go_ret2
    exact ⟨rfl, up hb (by go_grown) (by simp)⟩
  obtain rfl : m = n := by omega
  clear hmn
  have hne : ((m : Int) != m) = false := by simp
  refine calls_val (a := .tuple #[.int .i64 p, .bool (noneB m f badO)]) (by simp [vSch, hv]) ?_
  go_enter Try.func60, Try.ntmps60
  go_wp2_with fail
  refine (HT.out _ (by go_grown)).mono ?_
  rintro x w1 ⟨rfl, hb⟩
  rw [hv]
  have hb1 : Below w.heap.size w w1 := up hb (by go_grown) (by simp)
  have B := Blk.below (Blk.new w 29 #[.int .i64 p, .slice A m c, .slice O m e]) hb (by simp)
  have c1 := B.at_ (i := 1) rfl
  have c2 := B.at_ (i := 2) rfl
  clear B hb
  go_wp2_with fail
  refine (H2.out _ hb1).mono ?_
  rintro x _ ⟨rfl, rfl⟩
  go_wp2_with fail
  go_ret2
  exact ⟨by simp, hb1⟩

theorem ValidSchemeI_any (p : Int) (A : Option Addr) (n c : Nat) (L : Nat → Nat) (M : Nat → Nat → Int) (O : Option Addr) (m e : Nat) (f : Nat → Int) (w : World) (hn : n ≤ 1048576) (hL : ∀ i, i < n → L i ≤ 1048576) (hm : m ≤ 1048576) (h : Mat w w.heap.size A n L M) (h2 : Ints w w.heap.size O m f) :
    Calls Try.prog 29 #[.agg #[.int .i64 p, .slice A n c, .slice O m e]] w fun x w' => x = .returned (.bool (vSch p n L M m f)) ∧ Below w.heap.size w w' := by
  have H := hide (fun (W : World) (hb : Below w.heap.size w W) => knownI_any p A O n c m e L M f W (by omega) (fun i hi => Nat.le_trans (hL i hi) (by omega)) (by omega) (h.keep hb hb.size) (h2.keep hb hb.size))
  clear hn hL hm h h2
  go_enter Try.func29, Try.ntmps29
  go_wp2_with fail
  refine (H.out _ (by go_grown)).mono ?_
  rintro x w1 ⟨rfl, hb⟩
  go_wp2_with fail
  go_ret
  exact ⟨rfl, up hb (by go_grown) (by simp)⟩
end Go.Proofs.Ytcalfblghblhcaa
