/-
  The least block that stays lost, in plain numbers, and its draw. Conditions: the code is a slice of bytes that can be read.
-/
import Derived.Test.YtkalecdjcdgodaaWExactPeel
import Derived.Test.YtkalecdjcdgodaaPeelDraw
namespace Go.Proofs.Ytkalecdjcdgodaa
open Go.RowKit

def stuck (r c br bc : Int) : Int × Bool :=
  if inR r 1 6 && inR c 1 7 && inR br 0 7 && inR bc 0 7 && decide (br < c) && decide (bc < r) then ((br + 1) * (bc + 1), true) else (0, false)

theorem calls_two {P : Program} {f : FuncId} {args : Array Value} {w : World} {a b : Value} {a' b' : Value} {Q : World → Prop} (hv : a = a') (hv2 : b = b')
    (h : Calls P f args w fun e w' => e = .returned (.tuple #[a, b]) ∧ Q w') : Calls P f args w fun e w' => e = .returned (.tuple #[a', b']) ∧ Q w' := by subst hv; subst hv2; exact h

theorem spec_StuckGrid_any (r c br bc : Int) (w : World) :
    Calls Try.prog 24 #[.int .i64 r, .int .i64 c, .int .i64 br, .int .i64 bc] w fun e w' => e = .returned (.tuple #[.int .i64 (stuck r c br bc).1, .bool (stuck r c br bc).2]) ∧ w = w' := by
  cases h0 : inR r 1 6
  · refine calls_two (a := .int .i64 0) (b := .bool false) (by simp [stuck, h0]) (by simp [stuck, h0]) ?_
    go_enter Try.func24, Try.ntmps24
    go_wp2_with (go_at_call 56; refine (inRange_any _ _ _ _).mono ?_; rintro e w' ⟨rfl, rfl⟩)
    go_ret2
    exact ⟨rfl, rfl⟩
  cases h1 : inR c 1 7
  · refine calls_two (a := .int .i64 0) (b := .bool false) (by simp [stuck, h0, h1]) (by simp [stuck, h0, h1]) ?_
    go_enter Try.func24, Try.ntmps24
    go_wp2_with (go_at_call 56; refine (inRange_any _ _ _ _).mono ?_; rintro e w' ⟨rfl, rfl⟩)
    go_ret2
    exact ⟨rfl, rfl⟩
  cases h2 : inR br 0 7
  · refine calls_two (a := .int .i64 0) (b := .bool false) (by simp [stuck, h0, h1, h2]) (by simp [stuck, h0, h1, h2]) ?_
    go_enter Try.func24, Try.ntmps24
    go_wp2_with (go_at_call 56; refine (inRange_any _ _ _ _).mono ?_; rintro e w' ⟨rfl, rfl⟩)
    go_ret2
    exact ⟨rfl, rfl⟩
  cases h3 : inR bc 0 7
  · refine calls_two (a := .int .i64 0) (b := .bool false) (by simp [stuck, h0, h1, h2, h3]) (by simp [stuck, h0, h1, h2, h3]) ?_
    go_enter Try.func24, Try.ntmps24
    go_wp2_with (go_at_call 56; refine (inRange_any _ _ _ _).mono ?_; rintro e w' ⟨rfl, rfl⟩)
    go_ret2
    exact ⟨rfl, rfl⟩
  have b2 := inR_true.1 h2
  have b3 := inR_true.1 h3
  by_cases h4 : br < c
  · by_cases h5 : bc < r
    · refine calls_two (a := .int .i64 ((br + 1) * (bc + 1))) (b := .bool true) (by simp [stuck, h0, h1, h2, h3, h4, h5]) (by simp [stuck, h0, h1, h2, h3, h4, h5]) ?_
      have hm : IntKind.i64.wrap ((br + 1) * (bc + 1)) = (br + 1) * (bc + 1) := by
        have h1 : (br + 1) * (bc + 1) ≤ 8 * 8 := Int.mul_le_mul (by omega) (by omega) (by omega) (by omega)
        have h2 : 0 ≤ (br + 1) * (bc + 1) := Int.mul_nonneg (by omega) (by omega)
        exact IntWalk.i64_in _ (by omega)
      go_enter Try.func24, Try.ntmps24
      go_wp2_with (go_at_call 56; refine (inRange_any _ _ _ _).mono ?_; rintro e w' ⟨rfl, rfl⟩)
      go_ret2
      exact ⟨rfl, rfl⟩
    · refine calls_two (a := .int .i64 0) (b := .bool false) (by simp [stuck, h0, h1, h2, h3, h4, h5]) (by simp [stuck, h0, h1, h2, h3, h4, h5]) ?_
      go_enter Try.func24, Try.ntmps24
      go_wp2_with (go_at_call 56; refine (inRange_any _ _ _ _).mono ?_; rintro e w' ⟨rfl, rfl⟩)
      go_ret2
      exact ⟨rfl, rfl⟩
  · refine calls_two (a := .int .i64 0) (b := .bool false) (by simp [stuck, h0, h1, h2, h3, h4]) (by simp [stuck, h0, h1, h2, h3, h4]) ?_
    go_enter Try.func24, Try.ntmps24
    go_wp2_with (go_at_call 56; refine (inRange_any _ _ _ _).mono ?_; rintro e w' ⟨rfl, rfl⟩)
    go_ret2
    exact ⟨rfl, rfl⟩

theorem impl_StuckGrid_any (r c br bc : Int) (w : World) :
    Calls Try.prog 23 #[.int .i64 r, .int .i64 c, .int .i64 br, .int .i64 bc] w fun e w' => e = .returned (.tuple #[.int .i64 (stuck r c br bc).1, .bool (stuck r c br bc).2]) ∧ w = w' := by
  cases h0 : inR r 1 6
  · refine calls_two (a := .int .i64 0) (b := .bool false) (by simp [stuck, h0]) (by simp [stuck, h0]) ?_
    go_enter Try.func23, Try.ntmps23
    go_wp2_with (go_at_call 55; refine (within_any _ _ _ _).mono ?_; rintro e w' ⟨rfl, rfl⟩)
    go_ret2
    exact ⟨rfl, rfl⟩
  cases h1 : inR c 1 7
  · refine calls_two (a := .int .i64 0) (b := .bool false) (by simp [stuck, h0, h1]) (by simp [stuck, h0, h1]) ?_
    go_enter Try.func23, Try.ntmps23
    go_wp2_with (go_at_call 55; refine (within_any _ _ _ _).mono ?_; rintro e w' ⟨rfl, rfl⟩)
    go_ret2
    exact ⟨rfl, rfl⟩
  cases h2 : inR br 0 7
  · refine calls_two (a := .int .i64 0) (b := .bool false) (by simp [stuck, h0, h1, h2]) (by simp [stuck, h0, h1, h2]) ?_
    go_enter Try.func23, Try.ntmps23
    go_wp2_with (go_at_call 55; refine (within_any _ _ _ _).mono ?_; rintro e w' ⟨rfl, rfl⟩)
    go_ret2
    exact ⟨rfl, rfl⟩
  cases h3 : inR bc 0 7
  · refine calls_two (a := .int .i64 0) (b := .bool false) (by simp [stuck, h0, h1, h2, h3]) (by simp [stuck, h0, h1, h2, h3]) ?_
    go_enter Try.func23, Try.ntmps23
    go_wp2_with (go_at_call 55; refine (within_any _ _ _ _).mono ?_; rintro e w' ⟨rfl, rfl⟩)
    go_ret2
    exact ⟨rfl, rfl⟩
  have b2 := inR_true.1 h2
  have b3 := inR_true.1 h3
  by_cases h4 : br < c
  · by_cases h5 : bc < r
    · refine calls_two (a := .int .i64 ((br + 1) * (bc + 1))) (b := .bool true) (by simp [stuck, h0, h1, h2, h3, h4, h5]) (by simp [stuck, h0, h1, h2, h3, h4, h5]) ?_
      have hm : IntKind.i64.wrap ((br + 1) * (bc + 1)) = (br + 1) * (bc + 1) := by
        have h1 : (br + 1) * (bc + 1) ≤ 8 * 8 := Int.mul_le_mul (by omega) (by omega) (by omega) (by omega)
        have h2 : 0 ≤ (br + 1) * (bc + 1) := Int.mul_nonneg (by omega) (by omega)
        exact IntWalk.i64_in _ (by omega)
      go_enter Try.func23, Try.ntmps23
      go_wp2_with (go_at_call 55; refine (within_any _ _ _ _).mono ?_; rintro e w' ⟨rfl, rfl⟩)
      go_ret2
      exact ⟨rfl, rfl⟩
    · refine calls_two (a := .int .i64 0) (b := .bool false) (by simp [stuck, h0, h1, h2, h3, h4, h5]) (by simp [stuck, h0, h1, h2, h3, h4, h5]) ?_
      go_enter Try.func23, Try.ntmps23
      go_wp2_with (go_at_call 55; refine (within_any _ _ _ _).mono ?_; rintro e w' ⟨rfl, rfl⟩)
      go_ret2
      exact ⟨rfl, rfl⟩
  · refine calls_two (a := .int .i64 0) (b := .bool false) (by simp [stuck, h0, h1, h2, h3, h4]) (by simp [stuck, h0, h1, h2, h3, h4]) ?_
    go_enter Try.func23, Try.ntmps23
    go_wp2_with (go_at_call 55; refine (within_any _ _ _ _).mono ?_; rintro e w' ⟨rfl, rfl⟩)
    go_ret2
    exact ⟨rfl, rfl⟩



theorem stuck_ok {r c br bc : Int} (h : (stuck r c br bc).2 = true) : ∃ n k x s : Nat, r = n ∧ c = k ∧ br = x ∧ bc = s ∧ (1 ≤ n ∧ n ≤ 6) ∧ (1 ≤ k ∧ k ≤ 7) ∧ x < k ∧ s < n ∧ (stuck r c br bc).1 = ((x + 1) * (s + 1) : Nat) := by
  unfold stuck at h ⊢
  split at h
  · rename_i hc
    simp only [Bool.and_eq_true, decide_eq_true_eq] at hc
    obtain ⟨⟨⟨⟨⟨h1, h2⟩, h3⟩, h4⟩, h5⟩, h6⟩ := hc
    have a1 := inR_true.1 h1
    have a2 := inR_true.1 h2
    have a3 := inR_true.1 h3
    have a4 := inR_true.1 h4
    refine ⟨r.toNat, c.toNat, br.toNat, bc.toNat, by omega, by omega, by omega, by omega, by omega, by omega, by omega, by omega, ?_⟩
    rw [if_pos (by simp [h1, h2, h3, h4, h5, h6])]
    have e1 : br = (br.toNat : Int) := by omega
    have e2 : bc = (bc.toNat : Int) := by omega
    rw [e1, e2]
    push_cast
    simp
  · cases h

/-- the block's rows: the first j of them are set -/
def blk (P j : Nat) (t : Nat) : Nat := if t < j then P else 0
/-- the same, the first row without its first cell -/
def blkL (P j : Nat) (t : Nat) : Nat := if t = 0 then P - 1 else blk P j t
theorem blk_succ (P j : Nat) : (fun t => if t = j then P else blk P j t) = blk P (j + 1) := by
  funext t
  simp only [blk]
  split
  · rename_i h; subst h; rw [if_pos (by omega)]
  · rename_i h
    by_cases h2 : t < j
    · rw [if_pos h2, if_pos (by omega)]
    · rw [if_neg h2, if_neg (by omega)]
def wsum (G : Nat → Nat) : Nat → Nat | 0 => 0 | i + 1 => wsum G i + wt (G i)
theorem blk_fin : ∀ x, x < 7 → (wt (2 ^ (x + 1) - 1) = x + 1 ∧ 2 ^ (x + 1) - 1 < 128 ∧ 1 ≤ 2 ^ (x + 1) - 1 ∧ wt (2 ^ (x + 1) - 2) = x) ∧ ∀ j, j < 7 → cb (2 ^ (x + 1) - 1) j = if j ≤ x then 1 else 0 := by decide +kernel
theorem cb_zero (j : Nat) : cb 0 j = 0 := by simp [cb]
theorem cnt_blk (P s j : Nat) (v : Nat) (hv : cb P j = v) : ∀ n, cnt (blk P s) j n = v * min n s
  | 0 => by simp [cnt]
  | n + 1 => by
    rw [cnt, cnt_blk P s j v hv n]
    by_cases h : n < s
    · rw [blk, if_pos h, hv, show min (n + 1) s = n + 1 by omega, show min n s = n by omega, Nat.mul_succ]
    · rw [blk, if_neg h, cb_zero, show min (n + 1) s = s by omega, show min n s = s by omega, Nat.add_zero]
theorem wsum_blk (P s v : Nat) (hv : wt P = v) : ∀ n, wsum (blk P s) n = v * min n s
  | 0 => by simp [wsum]
  | n + 1 => by
    rw [wsum, wsum_blk P s v hv n]
    by_cases h : n < s
    · rw [blk, if_pos h, hv, show min (n + 1) s = n + 1 by omega, show min n s = n by omega, Nat.mul_succ]
    · rw [blk, if_neg h, wt_zero, show min (n + 1) s = s by omega, show min n s = s by omega, Nat.add_zero]

theorem blk_stays {n k x s : Nat} (hk : k ≤ 7) (hx : x < k) (hs : s < n) : PeelEnd n k x s (blk (2 ^ (x + 1) - 1) (s + 1)) (blk (2 ^ (x + 1) - 1) (s + 1)) := by
  obtain ⟨⟨b1, b2, _, _⟩, b4⟩ := blk_fin x (by omega)
  refine ⟨keep_start fun i hi => ?_, fun i hi h0 => ?_, fun j hj h0 => ?_⟩
  · unfold blk; split <;> omega
  · unfold blk at h0 ⊢
    by_cases h : i < s + 1
    · rw [if_pos h, b1]; omega
    · rw [if_neg h] at h0; exact absurd rfl h0
  · have b5 := b4 j (by omega)
    by_cases h : j ≤ x
    · rw [if_pos h] at b5
      rw [cnt_blk _ _ _ _ b5]; omega
    · rw [if_neg h] at b5
      rw [cnt_blk _ _ _ _ b5] at h0; omega

theorem low_zero : ∀ k, k < 8 → ∀ x, x < 2 ^ k → ((List.range k).all fun j => cb x j == 0) = true → x = 0 := by decide +kernel
theorem blkL_gone {n k x s : Nat} (hk : k ≤ 7) (hx : x < k) (hs : s < n) : PeelEnd n k x s (blkL (2 ^ (x + 1) - 1) (s + 1)) (fun _ => 0) := by
  obtain ⟨⟨b1, b2, b3, b3'⟩, b4⟩ := blk_fin x (by omega)
  have e2 : 2 ^ (x + 1) ≤ 2 ^ k := Nat.pow_le_pow_right (by omega) (by omega)
  have hlt : ∀ i, blkL (2 ^ (x + 1) - 1) (s + 1) i < 2 ^ k ∧ blkL (2 ^ (x + 1) - 1) (s + 1) i < 128 := fun i => by
    unfold blkL blk
    have : 0 < 2 ^ k := Nat.two_pow_pos k
    split
    · omega
    · split <;> omega
  refine ⟨⟨fun i hi => by simp, fun i hi => by simp, fun H h1 h2 i hi => ?_⟩, fun i hi h => absurd rfl h, fun j hj h => ?_⟩
  · -- a stable part is nothing
    have hH : ∀ i, i < n → H i < 2 ^ k ∧ H i < 128 := fun i hi => by
      have := sub_le' (h1 i hi); have := hlt i; omega
    have h0 : H 0 = 0 := by
      by_cases hz : H 0 = 0
      · exact hz
      · have a1 := h2.1 0 (by omega) hz
        have a2 := (sub_fin (hH 0 (by omega)).2 (hlt 0).2 (h1 0 (by omega))).1
        rw [show blkL (2 ^ (x + 1) - 1) (s + 1) 0 = 2 ^ (x + 1) - 2 by unfold blkL; rw [if_pos rfl]; omega, b3'] at a2
        omega
    have hbig : ∀ i, i < n → s < i → H i = 0 := fun i hi hb => by
      have a := sub_le' (h1 i hi)
      rw [show blkL (2 ^ (x + 1) - 1) (s + 1) i = 0 by unfold blkL blk; rw [if_neg (by omega), if_neg (by omega)]] at a
      omega
    have hc : ∀ j, j < k → cnt H j n = 0 := fun j hj => by
      have le : ∀ m, m ≤ n → cnt H j m ≤ min (m - 1) s := by
        intro m
        induction m with
        | zero => intro _; simp [cnt]
        | succ m ih =>
          intro hm
          have i1 := ih (by omega)
          rw [cnt]
          by_cases m0 : m = 0
          · subst m0; rw [h0, cb_zero]; simp [cnt]
          · by_cases hms : s < m
            · rw [hbig m (by omega) hms, cb_zero]; omega
            · have : cb (H m) j ≤ 1 := by unfold cb; omega
              omega
      have l1 := le n (Nat.le_refl _)
      by_cases hz : cnt H j n = 0
      · exact hz
      · have := h2.2 j hj (by omega); omega
    have : H i = 0 := low_zero k (by omega) (H i) (hH i hi).1 (by
      rw [List.all_eq_true]
      intro j hj
      rw [beq_iff_eq]
      exact cnt_zero.1 (hc j (List.mem_range.1 hj)) i hi)
    rw [this]; simp
  · exfalso
    have : cnt (fun _ => 0) j n = 0 := cnt_zero.2 fun i hi => cb_zero j
    omega

theorem DrawStuckGrid_any (a : Option Addr) (len cap : Nat) (zs : List Int) (w W : World) (h : IsRow .u8 w a len cap zs) (hb : Below w.heap.size w W) :
    Calls Try.prog 22 #[.slice a len cap] W fun e w' => ∃ r c br bc : Int, e = .returned (.tuple #[.int .i64 r, .int .i64 c, .int .i64 br, .int .i64 bc]) ∧ Below W.heap.size W w' := by
  have Hh := hide h
  have Hb := hide hb
  clear h hb
  go_enter Try.func22, Try.ntmps22
  go_wp2_with fail
  refine (newReader_of a len cap zs w _ Hh.out Hb.out).mono ?_
  rintro e w1 ⟨g, rfl, hg, hr1, hb1⟩
  go_wp2_with fail
  refine (one_lit g _ [4, 3, 5, 2, 6, 1, 0, 7] _ 8 8 w1 _ hr1 rfl rfl (by omega) (by omega) (by omega)).mono ?_
  rintro e w2 ⟨v2, _, rfl, hr2, ho2⟩
  go_wp2_with fail
  refine (one_lit g _ [4, 3, 5, 2, 7, 1, 0, 8] _ 8 8 w2 _ hr2 rfl rfl (by omega) (by omega) (by omega)).mono ?_
  rintro e w3 ⟨v3, _, rfl, hr3, ho3⟩
  go_wp2_with fail
  refine (one_lit g _ [1, 2, 0, 3, 8] _ 5 5 w3 _ hr3 rfl rfl (by omega) (by omega) (by omega)).mono ?_
  rintro e w4 ⟨v4, _, rfl, hr4, ho4⟩
  go_wp2_with fail
  refine (one_lit g _ [1, 2, 0, 3, -1] _ 5 5 w4 _ hr4 rfl rfl (by omega) (by omega) (by omega)).mono ?_
  rintro e w5 ⟨v5, _, rfl, hr5, ho5⟩
  have HX := hide (Only.up (((ho2.trans ho3).trans ho4).trans ho5) hb1 hb1.size hg)
  go_wp2_with fail
  go_ret4
  exact ⟨_, _, _, _, rfl, HX.out⟩
end Go.Proofs.Ytkalecdjcdgodaa
