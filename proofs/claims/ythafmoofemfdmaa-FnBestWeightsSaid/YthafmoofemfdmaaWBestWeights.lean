/-
  FnBestWeights returns true for every code: the walk. Conditions: none.
-/
import Derived.Test.YthafmoofemfdmaaDrawBW
import Derived.Test.YthafmoofemfdmaaBW3
import Derived.Test.YthafmoofemfdmaaLawHelp
namespace Go.Proofs.Ythafmoofemfdmaa
open Go.RowKit

def bwGood (p n k : Nat) : Bool :=
  decide (totN (bwF p n k) (n + 1) = powI p k) && decide (bwF p n k 0 = 1) && (List.range (n + 2)).all fun j => decide (-9000000000000000000 ≤ totN (bwF p n k) j) && decide (totN (bwF p n k) j ≤ 9000000000000000000)
def bwAll : Bool := (List.range 8).all fun p => !isP p || (List.range 8).all fun n => (List.range 5).all fun k => !bwIn p n k || bwGood p n k
theorem bw_all : bwAll = true := by decide +kernel
theorem bw_total (p n k : Nat) (hp : p < 8) (hn : n < 8) (hk : k < 5) (h1 : isP p = true) (h2 : bwIn p n k = true) : totN (bwF p n k) (n + 1) = powI p k ∧ bwF p n k 0 = 1 ∧ ∀ j, j < n + 2 → -9000000000000000000 ≤ totN (bwF p n k) j ∧ totN (bwF p n k) j ≤ 9000000000000000000 := by
  have h := bw_all
  simp only [bwAll, List.all_eq_true, List.mem_range] at h
  have h3 := h p hp
  rw [h1] at h3
  simp only [Bool.not_true, Bool.false_or, List.all_eq_true, List.mem_range] at h3
  have h4 := h3 n hn k hk
  rw [h2] at h4
  simp only [Bool.not_true, Bool.false_or, bwGood, Bool.and_eq_true, decide_eq_true_eq, List.all_eq_true, List.mem_range] at h4
  exact ⟨h4.1.1, h4.1.2, h4.2⟩

theorem bw_law {p n k : Int} (h : bwLen p n k ≠ 0) : (2 ≤ p ∧ p ≤ 7) ∧ (1 ≤ n ∧ n ≤ 7) ∧ (1 ≤ k ∧ k ≤ 4) ∧ bwLen p n k = n.toNat + 1 ∧ totN (bwF p n k) (n.toNat + 1) = powI p k.toNat ∧ bwF p n k 0 = 1 ∧ ∀ j, j ≤ n.toNat + 1 → -9000000000000000000 ≤ totN (bwF p n k) j ∧ totN (bwF p n k) j ≤ 9000000000000000000 := by
  have hin : bwIn p n k = true := by
    cases e : bwIn p n k with
    | true => rfl
    | false => exact absurd (by simp [bwLen, e]) h
  have hin' := hin
  simp only [bwIn, Bool.and_eq_true, inR_true] at hin
  have hp : 2 ≤ p ∧ p ≤ 7 := by rcases isP_true.1 hin.1.1 with rfl | rfl | rfl | rfl <;> omega
  have hk : 1 ≤ k ∧ k ≤ 4 := by
    have := hin.2
    split at this <;> omega
  obtain ⟨p, rfl⟩ := Int.eq_ofNat_of_zero_le (show 0 ≤ p by omega)
  obtain ⟨n, rfl⟩ := Int.eq_ofNat_of_zero_le (show 0 ≤ n by omega)
  obtain ⟨k, rfl⟩ := Int.eq_ofNat_of_zero_le (show 0 ≤ k by omega)
  obtain ⟨h1, h2, h3⟩ := bw_total p n k (by omega) (by omega) (by omega) hin.1.1 hin'
  exact ⟨hp, by omega, hk, by simp [bwLen, hin'], h1, h2, fun j hj => h3 j (by simp at hj; omega)⟩

set_option maxHeartbeats 1000000 in
theorem fnBestWeights_walk (a : Option Addr) (len cap : Nat) (zs : List Int) (w : World) (h : IsRow .u8 w a len cap zs) :
    Calls Try.prog 6 #[.slice a len cap] w fun e w' => e = .returned (.bool true) ∧ Below w.heap.size w w' := by
  have hlen : len ≤ 9223372036854775807 := by obtain ⟨h1, h2, _⟩ := bytes_in h; unfold maxLen at h2; omega
  have Hh := hide h
  clear h
  by_cases hl : 1048576 < len
  · go_enter Try.func6, Try.ntmps6
    go_wp2_with fail
    go_ret
    exact ⟨rfl, by go_grown⟩
  go_enter Try.func6, Try.ntmps6
  go_wp2_with fail
  refine (DrawBestWeights_any a len cap zs w _ Hh.out (by go_grown)).mono ?_
  rintro e w1 ⟨p, n, k, rfl, hb1⟩
  have hN : bwLen p n k ≤ 8 := by
    unfold bwLen
    split
    · rename_i h
      simp only [bwIn, Bool.and_eq_true, inR_true] at h
      omega
    · omega
  have HL := hide (@bw_law p n k)
  have S := hide (fun W => BestWeightsS_any p n k W)
  have I := hide (fun W => BestWeightsI_any p n k W)
  unfold BwPost at S I
  generalize bwLen p n k = N at *
  generalize bwF p n k = F at *
  go_wp2_with fail
  refine (I.out _).mono ?_
  rintro e w2 ⟨G, c, rfl, og, hb2⟩
  have B2 : Below w.heap.size w w2 := up hb2 hb1 hb1.size
  have OG := hide (fun (W : World) (hb : Below w2.heap.size w2 W) => (og.keep hb).ints)
  clear og
  go_wp2_with fail
  refine (S.out _).mono ?_
  rintro e w3 ⟨A, d, rfl, oa, hb3⟩
  have B3 : Below w.heap.size w w3 := up hb3 B2 B2.size
  have OA := hide oa.ints
  clear oa
  go_wp2_with fail
  refine (equalInts_b G A N c d F w3 (by omega) (OG.out _ hb3) OA.out).mono ?_
  rintro e w4 ⟨rfl, hb4⟩
  have B4 : Below w.heap.size w w4 := up hb4 B3 B3.size
  have hc4 : Below w2.heap.size w2 w4 := up hb4 hb3 hb3.size
  by_cases h0 : N = 0
  · subst h0
    go_wp2_with fail
    refine (S.out _).mono ?_
    rintro e w5 ⟨A2, d2, rfl, oa2, hb5⟩
    have B5 : Below w.heap.size w w5 := up hb5 B4 B4.size
    have OA2 := hide oa2.ints
    clear oa2
    go_wp2_with fail
    refine (equalInts_b G A2 0 c d2 F w5 (by omega) (OG.out _ (up hb5 hc4 hc4.size)) OA2.out).mono ?_
    rintro e w6 ⟨rfl, hb6⟩
    go_wp2_with fail
    go_ret
    exact ⟨rfl, up hb6 B5 B5.size⟩
  · obtain ⟨hp, hn, hk, e1, e2, e3, e4⟩ := HL.out h0
    obtain ⟨n, rfl⟩ := Int.eq_ofNat_of_zero_le (show 0 ≤ n by omega)
    obtain ⟨k, rfl⟩ := Int.eq_ofNat_of_zero_le (show 0 ≤ k by omega)
    simp only [Int.toNat_natCast] at e1 e2 e4
    have hne : ((N : Int) == 0) = false := by simp; omega
    subst e1
    have E2 := hide e2
    have E4 := hide e4
    obtain ⟨b, off, rfl, hbl, hcell⟩ := OG.out _ hc4 (by omega)
    have hc0 : w4.cell? ⟨b, off, none⟩ = some (.int .i64 1) := by rw [← e3]; exact hcell 0 (by omega)
    have H0 := hide h0
    clear e2 e3 e4 hcell h0
    have hlast : (((n + 1 : Nat) : Int) == (n : Int) + 1) = true := by simp
    go_wp2_with fail
    refine (total_any _ (n + 1) c F w4 (by omega) (OG.out _ hc4) E4.out).mono ?_
    rintro e _ ⟨rfl, rfl⟩
    rw [E2.out]
    have heq : (powI p k == powI p k) = true := by simp
    go_wp2_with fail
    refine (timesL_any p k w4 (by omega) hp).mono ?_
    rintro e _ ⟨rfl, rfl⟩
    generalize powI p k = Q at *
    go_wp2_with fail
    go_ret
    exact ⟨rfl, B4⟩
end Go.Proofs.Ythafmoofemfdmaa
