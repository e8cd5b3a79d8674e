/-
  Arrays with two columns more and nothing lost: they are mended to themselves. No conditions: nothing is claimed of the program here.
-/
import Derived.Test.YtkalecdjcdgodaaMendX
import Derived.Test.YtkalecdjcdgodaaWExactRows
import Derived.Test.YtkalecdjcdgodaaLawHelp
namespace Go.Proofs.Ytkalecdjcdgodaa
open Go.RowKit

theorem bt_none (i : Nat) : bt 0 i = false := by simp [bt]
theorem clT_none (q T : Nat) : clT q 0 T = [] := by simp [clT, bt_none]
theorem cap2_none (p : Nat) : cap2 p 0 = 1 := by simp [cap2, clT_none]
theorem fillA_none (p g : Nat) (M : Nat → Nat → Int) : fillA p 0 g M = M := by rw [fillA, clT_none]; rfl
theorem W1_again (p : Nat) (M : Nat → Nat → Int) : W1 (p - 1) (plusF p M) = W1 (p - 1) M := by
  funext i j
  unfold W1
  by_cases h : j < p - 1
  · rw [if_pos h, if_pos h, plusF_low h]
  · rw [if_neg h, if_neg h, tot_congr (g := M i) (fun k hk => plusF_low hk)]
theorem plusF_again (p : Nat) (M : Nat → Nat → Int) : plusF p (plusF p M) = plusF p M := by
  show W2 p (W1 (p - 1) (plusF p M)) = W2 p (W1 (p - 1) M)
  rw [W1_again]
theorem mend_none (p : Nat) (M : Nat → Nat → Int) : mendG p 0 (plusF p M) = some 0 := by
  refine mendG_some (by rw [cap2_none]; omega) ?_ (fun t ht => by omega)
  rw [fillA_none, okT_true]
  intro i _ k _ _
  rw [plusF_again]
theorem wid_none {P q : Nat} {M : Nat → Nat → Int} (h : (P = 3 ∧ q = 2) ∨ (P = 5 ∧ q = 4)) (hM : Bin q q M) : widB P q (fun _ => q + 2) (plusF P M) 0 = true := by
  have hb : Bin q (q + 2) (plusF P M) := by
    have e : P = q + 1 := by omega
    subst e
    exact W2_bin (W1_bin (by rw [Nat.add_sub_cancel]; exact hM) _) _
  have hbit : bitsB q (fun _ => q + 2) (plusF P M) ((P : Int) - 1) ((P : Int) + 1) = true := by
    rw [bitsB_true]
    refine ⟨by omega, fun i hi => ⟨by push_cast; omega, allR_true.2 fun j hj => inR_true.2 ?_⟩⟩
    have := hb i j hi hj
    omega
  rw [widB, hbit, isA_true.2 (by omega)]
  have e2 : wt (0 : Int).toNat = 0 := by decide
  rw [e2]
  rcases h with ⟨rfl, rfl⟩ | ⟨rfl, rfl⟩ <;> decide
theorem md_none {P q : Nat} {M : Nat → Nat → Int} (h : (P = 3 ∧ q = 2) ∨ (P = 5 ∧ q = 4)) (hM : Bin q q M) :
    mdB P q (fun _ => q + 2) (plusF P M) 0 = true ∧ mdN P q (fun _ => q + 2) (plusF P M) 0 = q ∧ (∀ i, mdL P i = q) ∧ ∀ i j, i < q → j < q → mdM P q (fun _ => q + 2) (plusF P M) 0 i j = M i j := by
  have hv : mdV P q (fun _ => q + 2) (plusF P M) 0 = some 0 := by
    rw [mdV, if_pos (wid_none h hM), Int.toNat_natCast]
    exact mend_none P M
  have hb : mdB P q (fun _ => q + 2) (plusF P M) 0 = true := by rw [mdB, hv]; rfl
  refine ⟨hb, by rw [mdN, if_pos hb], fun i => by rw [mdL, Int.toNat_natCast]; omega, fun i j hi hj => ?_⟩
  rw [mdM, hv, Int.toNat_natCast]
  show fillA P 0 0 (plusF P M) i j = M i j
  rw [fillA_none, plusF_low (by omega)]
theorem totN_tot (f : Nat → Int) : ∀ n, totN f n = tot f n
  | 0 => rfl
  | n + 1 => by rw [totN, tot, totN_tot f n]
theorem even_row {P q : Nat} {M : Nat → Nat → Int} {i : Nat} (h : P = q + 1) : totN (plusF P M i) P % 2 = 0 := by
  subst h
  rw [totN, totN_tot, tot_congr (g := M i) (fun k hk => plusF_low (by omega))]
  have e : plusF (q + 1) M i q = tot (M i) q % 2 := by
    rw [plusF, W2, if_pos (by omega), W1, Nat.add_sub_cancel, if_neg (by omega)]
  rw [e]
  omega
theorem TbC.matC {R : List Sl} {w : World} {base top n m c : Nat} {A : Option Addr} {C : Nat → Nat → Int} (h : TbC R n m C) (ht : TabD w base top A n c R) : MatC w w.heap.size A n (fun _ => m) C := fun h0 => by
  rcases ht.tab.form with ⟨_, h1, _⟩ | ⟨g, rfl, _, h2, _⟩
  · omega
  · refine ⟨g, 0, rfl, h2, fun i hi => ?_⟩
    obtain ⟨b, r, e, _, _, hr, hc, _, hrow⟩ := ht.tab.at_ hi
    obtain ⟨r2, hr2, g1, g2⟩ := h.row hi
    obtain rfl : r = r2 := by rw [hr] at hr2; injection hr2
    injection e with e
    injection e with e
    subst e
    rw [Nat.zero_add]
    have hcap := hrow.cap
    have hi2 := hrow.ints
    rw [g1] at hc hcap hi2
    exact ⟨r.A, r.c, hc, hcap, hi2.congr (fun j hj => g2 j hj)⟩
end Go.Proofs.Ytkalecdjcdgodaa
