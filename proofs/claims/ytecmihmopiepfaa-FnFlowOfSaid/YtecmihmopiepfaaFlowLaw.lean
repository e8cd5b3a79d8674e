/-
  Flows and cuts, what the laws ask: plain. No conditions: nothing is claimed of the program here.
-/
import Derived.Test.YtecmihmopiepfaaWExactFlow
import Derived.Test.YtecmihmopiepfaaNetDraw2
namespace Go.Proofs.Ytecmihmopiepfaa
open Go.RowKit

theorem cs_congr {C D : Nat → Nat → Int} {n s a : Nat} (ha : a < n) (h : ∀ a b, a < n → b < n → C a b = D a b) : ∀ j, j ≤ n → cs C s a j = cs D s a j
  | 0, _ => rfl
  | j + 1, hj => by rw [cs, cs, cs_congr ha h j (by omega), h a j ha (by omega)]
theorem ct_congr {C D : Nat → Nat → Int} {n s : Nat} (h : ∀ a b, a < n → b < n → C a b = D a b) : ∀ a, a ≤ n → ct C n s a = ct D n s a
  | 0, _ => rfl
  | a + 1, ha => by rw [ct, ct, ct_congr h a (by omega), cs_congr (by omega) h n (Nat.le_refl n)]
theorem cutF_congr {C D : Nat → Nat → Int} {n gl : Nat} (h : ∀ a b, a < n → b < n → C a b = D a b) : ∀ k, cutF n gl C k = cutF n gl D k
  | 0 => rfl
  | k + 1 => by rw [cutF, cutF, cutF_congr h k, ct_congr h n (Nat.le_refl n)]
theorem netC_in {n : Nat} {M : Nat → Nat → Int} : ∀ a b, a < n → b < n → netC n M a b = M a b := fun a b ha hb => by rw [netC, if_pos ⟨ha, hb⟩]
theorem netC_bd {n : Nat} {L : Nat → Nat} {M : Nat → Nat → Int} (hv : vNet n L M = true) : ∀ a b, 0 ≤ netC n M a b ∧ netC n M a b ≤ 20 := fun a b => by
  obtain ⟨h1, h2, h3, h4⟩ := vNet_cut hv
  unfold netC
  split
  · rename_i h; exact h3 a b h.1 h.2
  · omega
theorem flowV_min {n gl : Nat} {C : Nat → Nat → Int} (hn : 2 ≤ n ∧ n ≤ 6) (ht : 1 ≤ gl ∧ gl < n) (hC : ∀ a b, 0 ≤ C a b ∧ C a b ≤ 20) :
    (∀ s, okS gl s = true → flowV n gl C ≤ ct C n s n) ∧ ∃ s, okS gl s = true ∧ flowV n gl C = ct C n s n := by
  have hN : Net n C := ⟨fun a b => (hC a b).1, fun a b => by have := hC a b; have := hC b a; omega⟩
  have hb := ct_bd 1 hn.2 (fun a b _ _ => hC a b) n (Nat.le_refl n)
  obtain ⟨h1, s, h2, h3, h4⟩ := flowF_cut (by omega) ht 721 C 0 hN (by omega)
  unfold flowV
  exact ⟨fun s hs => by have := h1 s hs; omega, s, h3, by omega⟩

/-- what is left over of the value of a valid net -/
theorem flow_ok {n : Nat} {L : Nat → Nat} {M : Nat → Nat → Int} {v : Int} (h : 0 ≤ flowOfV n L M v) : ∃ t : Nat, v = t ∧ (1 ≤ t ∧ t < n) ∧ vNet n L M = true ∧ flowOfV n L M v = flowV n t (netC n M) := by
  have hok : (vNet n L M && inR v 1 ((n : Int) - 1)) = true := by
    cases e : (vNet n L M && inR v 1 ((n : Int) - 1))
    · simp [flowOfV, e] at h
    · rfl
  have e : flowOfV n L M v = flowV n v.toNat (netC n M) := by rw [flowOfV, if_pos hok]; rfl
  rw [Bool.and_eq_true, inR_true] at hok
  obtain ⟨hv, h1, h2⟩ := hok
  exact ⟨v.toNat, by omega, by omega, hv, e⟩
theorem flow_cut (n : Nat) (L : Nat → Nat) (M : Nat → Nat → Int) (v : Int) : flowOfV n L M v = cutOfV n L M v := by
  cases e : (vNet n L M && inR v 1 ((n : Int) - 1))
  · simp [flowOfV, cutOfV, e]
  · have hok := e
    rw [Bool.and_eq_true, inR_true] at hok
    obtain ⟨hv, h1, h2⟩ := hok
    obtain ⟨hn, _⟩ := vNet_cut hv
    rw [flowOfV, cutOfV, if_pos e, if_pos e]
    show flowV n v.toNat (netC n M) = _
    rw [flowV_cut hn (by omega) (netC_bd hv)]
    exact cutF_congr netC_in _

/-- sums -/
def tot (f : Nat → Int) : Nat → Int | 0 => 0 | i + 1 => tot f i + f i
theorem tot_bd {f : Nat → Int} {n : Nat} {B : Nat} (h : ∀ i, i < n → 0 ≤ f i ∧ f i ≤ B) : ∀ j, j ≤ n → 0 ≤ tot f j ∧ tot f j ≤ B * j
  | 0, _ => by simp [tot]
  | j + 1, hj => by
    have h1 := tot_bd h j (by omega)
    have h2 := h j (by omega)
    have e : (B : Int) * ((j + 1 : Nat) : Int) = B * j + B := by push_cast; rw [Int.mul_add, Int.mul_one]
    rw [tot, e]
    omega
theorem total_any (A : Option Addr) (n c : Nat) (f : Nat → Int) (w : World) (hn : n ≤ 100) (hf : ∀ i, i < n → 0 ≤ f i ∧ f i ≤ 1000) (h : Ints w w.heap.size A n f) :
    Calls Try.prog 25 #[.slice A n c] w fun e w' => e = .returned (.int .i64 (tot f n)) ∧ w = w' := by
  have H := hide h
  have HF := hide hf
  have HB := hide (fun j hj => tot_bd (B := 1000) hf j hj)
  clear h hf
  go_enter Try.func25, Try.ntmps25
  go_wp2_with fail
  go_loop [3, 4] (fun v i => ∃ k : Nat, k ≤ n ∧ i = .int .i64 k ∧ v = .int .i64 (tot f k)) (fun _ i => n - (intOf i).toNat)
  case atStart => exact ⟨0, Nat.zero_le _, rfl, rfl⟩
  case round =>
    obtain ⟨k, hk, rfl, rfl⟩ := hrel
    have b1 := HB.out k hk
    by_cases hlt : k < n
    · obtain ⟨b, off, rfl, hbl, hc⟩ := H.out (by omega)
      have hck := hc k hlt
      have b2 := HF.out k hlt
      have HS := hide (show tot f (k + 1) = tot f k + f k from rfl)
      clear hc
      generalize tot f k = y at *
      generalize f k = z at *
      go_wp2_with fail
      go_round
      case rel => exact ⟨k + 1, by omega, by go_num, by rw [HS.out]⟩
      case measure => simp [intOf]; omega
    · obtain rfl : k = n := by omega
      go_wp2_with fail
      go_ret
      exact ⟨rfl, rfl⟩

theorem cs_off {C : Nat → Nat → Int} {s a : Nat} (h : bt s a = false) : ∀ j, cs C s a j = 0
  | 0 => rfl
  | j + 1 => by rw [cs, cs_off h j, h]; rfl
theorem cs_tot {C : Nat → Nat → Int} {n a : Nat} (s : Nat) (h : ∀ b, b < n → 0 ≤ C a b) : ∀ j, j ≤ n → cs C s a j ≤ tot (C a) j
  | 0, _ => Int.le_refl _
  | j + 1, hj => by
    have h1 := cs_tot s h j (by omega)
    have h2 := h j (by omega)
    rw [cs, tot]
    split <;> omega
theorem ct_one {C : Nat → Nat → Int} {n : Nat} : ∀ a, 1 ≤ a → ct C n 1 a = cs C 1 0 n
  | 0, h => absurd h (by omega)
  | 1, _ => by simp [ct]
  | a + 2, _ => by rw [ct, ct_one (a + 1) (by omega), cs_off (bt_one' (i := a + 1) (by omega))]; omega
theorem cs_col {C : Nat → Nat → Int} {n t s a : Nat} (hs : ∀ i, i < n → bt s i = decide (i ≠ t)) (h : ∀ b, b < n → 0 ≤ C a b) : ∀ j, j ≤ n → t < n → cs C s a j ≤ if t < j then C a t else 0
  | 0, _, _ => by simp [cs]
  | j + 1, hj, ht => by
    have h1 := cs_col hs h j (by omega) ht
    have h2 := h t ht
    rw [cs, hs j (by omega)]
    by_cases e : j = t
    · subst e
      rw [if_neg (by omega)] at h1
      rw [if_pos (show j < j + 1 by omega)]
      split <;> omega
    · have e1 : (bt s a && !decide (j ≠ t)) = false := by simp [e]
      rw [e1]
      by_cases e2 : t < j
      · rw [if_pos e2] at h1
        rw [if_pos (show t < j + 1 by omega)]
        simp; omega
      · rw [if_neg e2] at h1
        rw [if_neg (show ¬ t < j + 1 by omega)]
        simp; omega
theorem ct_col {C : Nat → Nat → Int} {n t s : Nat} (hs : ∀ i, i < n → bt s i = decide (i ≠ t)) (ht : t < n) (h : ∀ a b, a < n → b < n → 0 ≤ C a b) : ∀ a, a ≤ n → ct C n s a ≤ tot (fun a => C a t) a
  | 0, _ => Int.le_refl _
  | a + 1, ha => by
    have h1 := ct_col hs ht h a (by omega)
    have h2 := cs_col (a := a) hs (fun b hb => h a b (by omega) hb) n (Nat.le_refl n) ht
    rw [if_pos ht] at h2
    rw [ct, tot]
    omega
theorem cut_sides {n t : Nat} {L : Nat → Nat} {M : Nat → Nat → Int} (hv : vNet n L M = true) (ht : 1 ≤ t ∧ t < n) : cutV n t M ≤ tot (M 0) n ∧ cutV n t M ≤ tot (fun a => M a t) n := by
  obtain ⟨hn, _, hM, _⟩ := vNet_cut hv
  constructor
  · have h1 := @cutF_le n t M (2 ^ n) 1 (Nat.one_lt_two_pow (by omega)) (ok_one ht.1)
    rw [ct_one n (by omega)] at h1
    have h2 := cs_tot (C := M) (n := n) (a := 0) 1 (fun b hb => (hM 0 b (by omega) hb).1) n (Nat.le_refl n)
    unfold cutV; omega
  · obtain ⟨s, h1, h2⟩ := set_of (fun i => i ≠ t) n
    have h3 := @cutF_le n t M (2 ^ n) s h1 (by rw [okS, h2 0 (by omega), h2 t ht.2]; simp; omega)
    have h4 := ct_col (C := M) h2 ht.2 (fun a b ha hb => (hM a b ha hb).1) n (Nat.le_refl n)
    unfold cutV; omega

/-- one more from the first point to the goal -/
theorem flow_more {n t : Nat} {L : Nat → Nat} {M : Nat → Nat → Int} (hv : vNet n L M = true) (ht : 1 ≤ t ∧ t < n) (h20 : M 0 t + 1 ≤ 20) :
    flowOfV n (fun _ => n) (upd M 0 t (M 0 t + 1)) t = flowV n t (netC n M) + 1 := by
  obtain ⟨hn, hL, hM, hZ⟩ := vNet_cut hv
  have hv2 : vNet n (fun _ => n) (upd M 0 t (M 0 t + 1)) = true := by
    rw [vNet_true]
    refine ⟨hn, fun a ha => ⟨rfl, fun b hb => ?_⟩⟩
    by_cases e : a = 0 ∧ b = t
    · obtain ⟨rfl, rfl⟩ := e
      have := hM 0 b (by omega) hb
      exact ⟨by rw [upd_at]; exact inR_mk (by omega) (by omega), fun h => by omega⟩
    · have := hM a b ha hb
      refine ⟨by rw [upd_ne e]; exact inR_mk (by omega) (by omega), fun h => by rw [upd_ne e]; exact hZ a b ha h⟩
  rw [flowOfV, if_pos (by rw [hv2, Bool.true_and, inR_true]; omega)]
  show flowV n t (netC n (upd M 0 t (M 0 t + 1))) = _
  obtain ⟨a1, s1, a2, a3⟩ := flowV_min hn ht (netC_bd hv)
  obtain ⟨b1, s2, b2, b3⟩ := flowV_min hn ht (netC_bd hv2)
  have key : ∀ s, okS t s = true → ct (netC n (upd M 0 t (M 0 t + 1))) n s n = ct (netC n M) n s n + 1 := fun s hs => by
    rw [ct_congr (D := upd (netC n M) 0 t (M 0 t + 1)) (fun a b ha hb => ?_) n (Nat.le_refl n), ct_upd _ n s 0 t _ ht.2]
    · have hb : (bt s 0 && !bt s t) = true := hs
      rw [if_pos ⟨by omega, hb⟩, netC_in 0 t (by omega) ht.2]
      omega
    · rw [netC_in a b ha hb]
      by_cases e : a = 0 ∧ b = t
      · obtain ⟨rfl, rfl⟩ := e; rw [upd_at, upd_at]
      · rw [upd_ne e, upd_ne e, netC_in a b ha hb]
  have c1 := a1 s2 b2
  have c2 := key s2 b2
  have c3 := b1 s1 a2
  have c4 := key s1 a2
  omega
end Go.Proofs.Ytecmihmopiepfaa
