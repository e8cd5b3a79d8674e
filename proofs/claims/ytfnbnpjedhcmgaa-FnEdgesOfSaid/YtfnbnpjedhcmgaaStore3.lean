/-
  The stores, continued: how much a store may hold. Conditions: the store is valid.
-/
import Derived.Test.YtfnbnpjedhcmgaaStore2
namespace Go.Proofs.Ytfnbnpjedhcmgaa
open Go.RowKit

/-- what a store may hold: the first n terms -/
def capN (ak k s : Int) : Nat → Int
  | 0 => 0
  | n + 1 => capN ak k s n + if s * (ak - n) < k then s * (ak - n) else k

theorem vSt_bd {nd ne ak k s : Int} (hv : vSt nd ne ak k s = true) : 2 ≤ nd ∧ nd ≤ 6 ∧ 1 ≤ ne ∧ ne ≤ nd - 1 ∧ ne ≤ ak ∧ ak ≤ nd - 1 ∧ 0 ≤ k ∧ k ≤ 20 ∧ 0 ≤ s ∧ s ≤ 20 := by
  simp only [vSt, Bool.and_eq_true, inR_true] at hv
  omega

theorem term_bd {ak s : Int} (h : 0 ≤ ak ∧ ak ≤ 5) (hs : 0 ≤ s ∧ s ≤ 20) (i : Nat) (hi : (i : Int) ≤ ak) : 0 ≤ s * (ak - i) ∧ s * (ak - i) ≤ 100 :=
  ⟨Int.mul_nonneg hs.1 (by omega), by have := Int.mul_le_mul hs.2 (show ak - i ≤ 5 by omega) (by omega) (by omega); omega⟩

theorem capN_ok {ak k s : Int} (h : 0 ≤ ak ∧ ak ≤ 5) (hs : 0 ≤ s ∧ s ≤ 20) (hk : 0 ≤ k ∧ k ≤ 20) : ∀ n : Nat, (n : Int) ≤ ak → 0 ≤ capN ak k s n ∧ capN ak k s n ≤ 20 * n
  | 0, _ => by simp [capN]
  | n + 1, hn => by
    have h1 := capN_ok h hs hk n (by omega)
    have h2 := term_bd h hs n (by omega)
    simp only [capN]
    split <;> omega

theorem capacityS_any (nd ne ak k s : Int) (w : World) (hv : vSt nd ne ak k s = true) :
    Calls Try.prog 38 #[.agg #[.int .i64 nd, .int .i64 ne, .int .i64 ak, .int .i64 k, .int .i64 s]] w fun e w' => e = .returned (.int .i64 (capN ak k s ne.toNat)) ∧ Below w.heap.size w w' := by
  obtain ⟨b1, b2, b3, b4, b5, b6, b7, b8, b9, b10⟩ := vSt_bd hv
  clear hv
  obtain ⟨m, rfl⟩ := Int.eq_ofNat_of_zero_le (show 0 ≤ ne by omega)
  rw [Int.toNat_natCast]
  go_enter Try.func38, Try.ntmps38
  go_wp2
  go_loop [3, 4] (fun v i => ∃ n : Nat, n ≤ m ∧ i = .int .i64 n ∧ v = .int .i64 (capN ak k s n)) (fun _ i => m - (intOf i).toNat)
  case atStart => exact ⟨0, Nat.zero_le _, rfl, rfl⟩
  case round =>
    obtain ⟨n, hn, rfl, rfl⟩ := hrel
    have ht := term_bd (ak := ak) (s := s) ⟨by omega, by omega⟩ ⟨b9, b10⟩ n (by omega)
    have hc := capN_ok (ak := ak) (s := s) (k := k) ⟨by omega, by omega⟩ ⟨b9, b10⟩ ⟨b7, b8⟩ n (by omega)
    by_cases hlt : n < m
    · go_wp2
      go_round
      case rel => exact ⟨n + 1, by omega, by go_num, rfl⟩
      case measure => simp [intOf]; omega
    · obtain rfl : n = m := by omega
      go_wp2
      go_ret
      exact ⟨rfl, by go_grown⟩

theorem capacityI_any (nd ne ak k s : Int) (w : World) (hv : vSt nd ne ak k s = true) :
    Calls Try.prog 39 #[.agg #[.int .i64 nd, .int .i64 ne, .int .i64 ak, .int .i64 k, .int .i64 s]] w fun e w' => e = .returned (.int .i64 (capN ak k s ne.toNat)) ∧ Below w.heap.size w w' := by
  obtain ⟨b1, b2, b3, b4, b5, b6, b7, b8, b9, b10⟩ := vSt_bd hv
  clear hv
  obtain ⟨m, rfl⟩ := Int.eq_ofNat_of_zero_le (show 0 ≤ ne by omega)
  rw [Int.toNat_natCast]
  go_enter Try.func39, Try.ntmps39
  go_wp2
  go_loop [3, 7] (fun v i => ∃ n : Nat, n ≤ m ∧ i = .int .i64 n ∧ v = .int .i64 (capN ak k s n)) (fun _ i => m - (intOf i).toNat)
  case atStart => exact ⟨0, Nat.zero_le _, rfl, rfl⟩
  case round =>
    obtain ⟨n, hn, rfl, rfl⟩ := hrel
    have ht := term_bd (ak := ak) (s := s) ⟨by omega, by omega⟩ ⟨b9, b10⟩ n (by omega)
    have hc := capN_ok (ak := ak) (s := s) (k := k) ⟨by omega, by omega⟩ ⟨b9, b10⟩ ⟨b7, b8⟩ n (by omega)
    by_cases hlt : n < m
    · go_wp2
      go_round
      case rel => exact ⟨n + 1, by omega, by go_num, rfl⟩
      case measure => simp [intOf]; omega
    · obtain rfl : n = m := by omega
      go_wp2
      go_ret
      exact ⟨rfl, by go_grown⟩

/-- CapacityOf -/
def capOf (nd ne ak k s : Int) : Int := if vSt nd ne ak k s then capN ak k s ne.toNat else -1

theorem CapacityOfS_any (nd ne ak k s : Int) (w : World) :
    Calls Try.prog 20 #[.agg #[.int .i64 nd, .int .i64 ne, .int .i64 ak, .int .i64 k, .int .i64 s]] w fun e w' => e = .returned (.int .i64 (capOf nd ne ak k s)) ∧ Below w.heap.size w w' := by
  cases hv : vSt nd ne ak k s
  · refine calls_int (a := -1) (by simp [capOf, hv]) ?_
    go_enter Try.func20, Try.ntmps20
    go_wp2_with (first | (go_at_call 36; refine (validStoreS_any _ _ _ _ _ _).mono ?_; rintro e w' ⟨rfl, hb⟩))
    go_ret
    exact ⟨rfl, up hb (by go_grown) (by simp)⟩
  · refine calls_int (a := capN ak k s ne.toNat) (by simp [capOf, hv]) ?_
    go_enter Try.func20, Try.ntmps20
    go_wp2_with (first | (go_at_call 36; refine (validStoreS_any _ _ _ _ _ _).mono ?_; rintro e w' ⟨rfl, hb⟩; obtain ⟨hc, hf⟩ := bcell hb) | (go_at_call 38; refine (capacityS_any _ _ _ _ _ _ hv).mono ?_; rintro e w' ⟨rfl, hb2⟩))
    go_ret
    exact ⟨rfl, up hb2 (up hb (by go_grown) (by simp)) (by have := hb.size; simp at this; omega)⟩

theorem CapacityOfI_any (nd ne ak k s : Int) (w : World) :
    Calls Try.prog 21 #[.agg #[.int .i64 nd, .int .i64 ne, .int .i64 ak, .int .i64 k, .int .i64 s]] w fun e w' => e = .returned (.int .i64 (capOf nd ne ak k s)) ∧ Below w.heap.size w w' := by
  cases hv : vSt nd ne ak k s
  · refine calls_int (a := -1) (by simp [capOf, hv]) ?_
    go_enter Try.func21, Try.ntmps21
    go_wp2_with (first | (go_at_call 19; refine (ValidStoreI_any _ _ _ _ _ _).mono ?_; rintro e w' ⟨rfl, hb⟩))
    go_ret
    exact ⟨rfl, up hb (by go_grown) (by simp)⟩
  · refine calls_int (a := capN ak k s ne.toNat) (by simp [capOf, hv]) ?_
    go_enter Try.func21, Try.ntmps21
    go_wp2_with (first | (go_at_call 19; refine (ValidStoreI_any _ _ _ _ _ _).mono ?_; rintro e w' ⟨rfl, hb⟩; obtain ⟨hc, hf⟩ := bcell hb) | (go_at_call 39; refine (capacityI_any _ _ _ _ _ _ hv).mono ?_; rintro e w' ⟨rfl, hb2⟩))
    go_ret
    exact ⟨rfl, up hb2 (up hb (by go_grown) (by simp)) (by have := hb.size; simp at this; omega)⟩

theorem toStore_any (nd ne ak k s : Int) (w : World) :
    Calls Try.prog 18 #[.agg #[.int .i64 nd, .int .i64 ne, .int .i64 ak, .int .i64 k, .int .i64 s]] w fun e w' => e = .returned (.agg #[.int .i64 nd, .int .i64 ne, .int .i64 ak, .int .i64 k, .int .i64 s]) ∧ Below w.heap.size w w' := by
  go_enter Try.func18, Try.ntmps18
  go_wp2
  go_returns
  exact ⟨rfl, by go_grown⟩
end Go.Proofs.Ytfnbnpjedhcmgaa
