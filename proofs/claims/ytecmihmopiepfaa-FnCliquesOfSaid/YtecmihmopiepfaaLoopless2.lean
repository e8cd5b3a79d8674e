/-
  LooplessOf, both sides, whole. Conditions: the hints are a slice of ints that can be read.
-/
import Derived.Test.YtecmihmopiepfaaLoopless
import Derived.Test.YtecmihmopiepfaaThing
namespace Go.Proofs.Ytecmihmopiepfaa
open Go.RowKit

theorem validHintsS_b (A : Option Addr) (n c : Nat) (f : Nat → Int) (w : World) (hn : n ≤ 1048576) (h : Ints w w.heap.size A n f) :
    Calls Try.prog 59 #[.slice A n c] w fun e w' => e = .returned (.bool (vH n f)) ∧ Below w.heap.size w w' :=
  (validHintsS_any A n c f w (by omega) h).mono fun _ _ ⟨he, q, hw⟩ => ⟨he, by rw [← hw]; exact below_drewN (Below.refl _ _) _⟩
theorem hintsOkI_b (A : Option Addr) (n c : Nat) (f : Nat → Int) (w : World) (hn : n ≤ 1048576) (h : Ints w w.heap.size A n f) :
    Calls Try.prog 61 #[.slice A n c] w fun e w' => e = .returned (.bool (vH n f)) ∧ Below w.heap.size w w' :=
  (hintsOkI_any A n c f w (by omega) h).mono fun _ _ ⟨he, q, hw⟩ => ⟨he, by rw [← hw]; exact below_drewN (Below.refl _ _) _⟩

theorem LooplessOfS_any (A : Option Addr) (n c : Nat) (f : Nat → Int) (w : World) (hn : n ≤ 1048576) (h : Ints w w.heap.size A n f) :
    Calls Try.prog 38 #[.slice A n c] w fun e w' => e = .returned (.int .i64 (lpV n f)) ∧ Below w.heap.size w w' := by
  have HK := hide (fun (W : World) (hb : Below w.heap.size w W) => h.keep hb hb.size)
  have H := hide (validHintsS_b A n c f w hn h)
  clear h
  cases hv : vH n f
  · refine calls_int (a := -1) (by simp [lpV, hv]) ?_
    rw [hv] at H
    go_enter Try.func38, Try.ntmps38
    go_wp2_with fail
    refine (H.out).mono ?_
    rintro e w1 ⟨rfl, hb⟩
    go_wp2_with fail
    go_ret
    exact ⟨rfl, hb⟩
  obtain ⟨h4, hg⟩ := vH_g hv
  have HG := hide hg
  clear hg
  refine calls_int (a := (ll n (fun i => (f i).toNat) (2 ^ n) : Nat)) (by simp only [lpV, hv]; rfl) ?_
  rw [hv] at H
  go_enter Try.func38, Try.ntmps38
  go_wp2_with fail
  refine (H.out).mono ?_
  rintro e w1 ⟨rfl, hb⟩
  go_wp2_with fail
  refine (looplessS_any A n c f (fun i => (f i).toNat) w1 h4 HG.out (HK.out _ hb)).mono ?_
  rintro e _ ⟨rfl, rfl⟩
  go_wp2_with fail
  go_ret
  exact ⟨rfl, hb⟩

theorem LooplessOfI_any (A : Option Addr) (n c : Nat) (f : Nat → Int) (w : World) (hn : n ≤ 1048576) (h : Ints w w.heap.size A n f) :
    Calls Try.prog 39 #[.slice A n c] w fun e w' => e = .returned (.int .i64 (lpV n f)) ∧ Below w.heap.size w w' := by
  have HK := hide (fun (W : World) (hb : Below w.heap.size w W) => h.keep hb hb.size)
  have H := hide (hintsOkI_b A n c f w hn h)
  clear h
  cases hv : vH n f
  · refine calls_int (a := -1) (by simp [lpV, hv]) ?_
    rw [hv] at H
    go_enter Try.func39, Try.ntmps39
    go_wp2_with fail
    refine (H.out).mono ?_
    rintro e w1 ⟨rfl, hb⟩
    go_wp2_with fail
    go_ret
    exact ⟨rfl, hb⟩
  obtain ⟨h4, hg⟩ := vH_g hv
  obtain ⟨g, hgg⟩ : ∃ g : Nat → Nat, g = fun i => (f i).toNat := ⟨_, rfl⟩
  have HG := hide (show ∀ i, i < n → f i = g i ∧ g i < 16 by subst hgg; exact hg)
  refine calls_int (a := (ll n g (2 ^ n) : Nat)) (by simp only [lpV, hv, hgg]; rfl) ?_
  clear hg hgg
  rw [hv] at H
  have p1 := two_pow_pos n
  have p2 := two_pow_le h4.2
  rw [show (2 : Int) ^ 4 = 16 by decide] at p2
  have PN := hide (show ((2 ^ n : Nat) : Int) = 2 ^ n by push_cast; rfl)
  have HLB := hide (fun k (hk : k ≤ 16) => ll_bd n g k hk)
  go_enter Try.func39, Try.ntmps39
  go_wp2_with fail
  refine (H.out).mono ?_
  rintro e w1 ⟨rfl, hb⟩
  have HL := hide (fun S (hS : S < 16) => looplessI_any A n c f g S w1 h4.2 hS HG.out (HK.out _ hb))
  clear HG HK H
  go_wp2_with fail
  go_loop [3, 11] (fun v s => ∃ k : Nat, (k : Int) ≤ 2 ^ n ∧ s = .int .i64 k ∧ v = .int .i64 (ll n g k : Nat)) (fun _ s => 16 - (intOf s).toNat)
  case atStart => exact ⟨0, by omega, rfl, rfl⟩
  case round =>
    obtain ⟨S, hS, rfl, rfl⟩ := hrel
    have hm4 := HLB.out S (by omega)
    have HLL := hide (show ll n g (S + 1) = if noStuck n g S then max (ll n g S) (wt S) else ll n g S from rfl)
    by_cases hlt : (S : Int) < 2 ^ n
    · have hw4 := wt_four S (by omega)
      have HW := hide (fun W => size_any S W (by omega))
      have HC := hide (HL.out S (by omega))
      generalize ll n g S = V at *
      generalize wt S = U at *
      by_cases hns : noStuck n g S
      · rw [decide_eq_true hns] at HC
        have HLL2 := hide (show ll n g (S + 1) = max V U by rw [HLL.out, if_pos hns])
        clear HLL hns HL
        by_cases hmx : U ≤ V
        · go_wp2_with fail
          refine (HC.out).mono ?_
          rintro e _ ⟨rfl, rfl⟩
          go_wp2_with fail
          refine (HW.out _).mono ?_
          rintro e _ ⟨rfl, rfl⟩
          go_wp2_with fail
          go_round
          case rel => exact ⟨S + 1, by omega, by go_num, by rw [HLL2.out]; congr 1; omega⟩
          case measure => simp [intOf]; omega
        · go_wp2_with fail
          refine (HC.out).mono ?_
          rintro e _ ⟨rfl, rfl⟩
          go_wp2_with fail
          refine (HW.out _).mono ?_
          rintro e _ ⟨rfl, rfl⟩
          go_wp2_with fail
          go_round
          case rel => exact ⟨S + 1, by omega, by go_num, by rw [HLL2.out]; congr 1; omega⟩
          case measure => simp [intOf]; omega
      · rw [decide_eq_false hns] at HC
        have HLL2 := hide (show ll n g (S + 1) = V by rw [HLL.out, if_neg hns])
        clear HLL hns HL
        go_wp2_with fail
        refine (HC.out).mono ?_
        rintro e _ ⟨rfl, rfl⟩
        go_wp2_with fail
        go_round
        case rel => exact ⟨S + 1, by omega, by go_num, by rw [HLL2.out]⟩
        case measure => simp [intOf]; omega
    · obtain rfl : S = 2 ^ n := by have := PN.out; omega
      go_wp2_with fail
      go_ret
      exact ⟨rfl, hb⟩
end Go.Proofs.Ytecmihmopiepfaa
