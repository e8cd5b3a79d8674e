/-
  The draw of sums that ripple. Conditions: the code is a slice of bytes that can be read.
-/
import Derived.Test.YtkalecdjcdgodaaSumDraw
import Derived.Test.YtkalecdjcdgodaaSums
namespace Go.Proofs.Ytkalecdjcdgodaa
open Go.RowKit

def DrP (W : World) (e : Ending) (w' : World) : Prop := ∃ (n : Int) (A : Option Addr) (m c : Nat) (ys : List Int) (B : Option Addr) (m2 d : Nat) (zs : List Int), e = .returned (.tuple #[.int .i64 n, .slice A m c, .slice B m2 d]) ∧ Row w' W.heap.size A m c ys ∧ m ≤ 13 ∧ Row w' W.heap.size B m2 d zs ∧ m2 ≤ 14 ∧ Below W.heap.size W w'
theorem grown_set (w : World) (p : Addr) (u : Value) : w.grownBy (w.setCell p u) (some p.block) := ⟨rfl, rfl, rfl, by simp [World.setCell], fun i _ hne => Below.heap_setCell w p u i (by rintro rfl; exact hne rfl)⟩
theorem sumsN_le (n : Nat) (f : Nat → Int) (m : Nat) (g : Nat → Int) : sumsN n f m g ≤ 12 := by
  unfold sumsN
  cases h : sumsOk n f m g
  · simp
  · have := (sumsOk_true.1 h).2.2.1
    simp; omega

set_option maxHeartbeats 1000000 in
theorem DrawRippleOf_any (a : Option Addr) (len cap : Nat) (zs : List Int) (w W : World) (h : IsRow .u8 w a len cap zs) (hb : Below w.heap.size w W) :
    Calls Try.prog 44 #[.slice a len cap] W (DrP W) := by
  have Hh := hide h
  have Hb := hide hb
  clear h hb
  go_enter Try.func44, Try.ntmps44
  go_wp2_with fail
  refine (newReader_of a len cap zs w _ Hh.out Hb.out).mono ?_
  rintro e w1 ⟨g, rfl, hg, hr, hb1⟩
  go_wp2_with fail
  refine (aList_any g _ hr).mono ?_
  rintro e w2 ⟨M, A, n, c, xs, A2, m, d, ys, rfl, htw, hn, hm, hr2, ho2⟩
  have hgl := hr.lt
  have hz1 : W.heap.size ≤ w1.heap.size := hb1.size
  have hz2 : w1.heap.size ≤ w2.heap.size := ho2.size
  obtain ⟨t1, t2, t3, t4, t5⟩ := htw
  have HS := hide (SumsOfS_any A A2 n c m d _ _ w2 (by omega) (by omega) t1.ints t3.ints)
  have HNL := hide (sumsN_le n (fun i => xs.getD i 0) m (fun i => ys.getD i 0))
  have T3 := hide t3
  have hapart : (Value.slice A2 m d).ownBlock = none ∨ ∀ b, w2.heap.size ≤ b → (Value.slice A2 m d).ownBlock ≠ some b := by
    cases e : (Value.slice A2 m d).ownBlock with
    | none => exact .inl rfl
    | some k => exact .inr (fun b hb he => by have := (t3.blk k e).2; injection he with he; omega)
  have HAP := hide hapart
  clear hapart
  have HR2 := hide hr2
  have HO2 := hide ho2
  have HB1 := hide hb1
  clear t1 t2 t3 hr2 ho2 hr hb1
  go_wp2_with fail
  refine (HS.out).mono ?_
  rintro e w3 ⟨A3, c3, rfl, hr3, hb3⟩
  generalize sumsL n (fun i => xs.getD i 0) (fun i => ys.getD i 0) (sumsN n (fun i => xs.getD i 0) m (fun i => ys.getD i 0)) = l at hr3
  generalize sumsN n (fun i => xs.getD i 0) m (fun i => ys.getD i 0) = N at *
  have hN := HNL.out
  have hz3 : w2.heap.size ≤ w3.heap.size := hb3.size
  have HR3 := hide (HR2.out.of_only hb3)
  have T3b := hide (T3.out.keep hb3)
  have HL3 := hide hr3
  have HO3 := hide (HO2.out.trans (Only.of_below (Below.mono hb3 (Nat.le_refl _))))
  clear HS HNL HR2 T3 hr3 hb3
  go_wp2_with fail
  refine (pick_rd g _ _ _ HR3.out (by omega)).mono ?_
  rintro e w4 ⟨v, rfl, _, hr4, ho4⟩
  have hz4 : w3.heap.size ≤ w4.heap.size := ho4.size
  have HR4 := hide (hr4.mono (k' := 200) (by omega))
  have T4 := hide (T3b.out.only ho4 (by omega))
  have HL4 := hide (HL3.out.only ho4 (by omega))
  have HO4 := hide (HO3.out.trans ho4)
  have hbw : ∀ w', Only g w1 w' → Below W.heap.size W w' := fun w' h => h.up HB1.out hz1 hg
  have HBX := hide hbw
  clear hr4 ho4 HR3 T3b HL3 HO3 hbw
  by_cases v0 : v = 0
  · subst v0
    by_cases hN0 : 0 < N
    · have hNI : (0 : Int) < (N : Int) := by omega
      go_wp2_with fail
      refine (pick_rd g _ _ _ HR4.out (by omega)).mono ?_
      rintro e w5 ⟨x, rfl, hx, hr5, ho5⟩
      have hz5 : w4.heap.size ≤ w5.heap.size := ho5.size
      obtain ⟨hx0, hx1, _⟩ := hx
      have hx1 := hx1 (by omega)
      obtain ⟨j, rfl⟩ := Int.eq_ofNat_of_zero_le hx0
      have hjN : j < N := by omega
      have hjI0 : (0 : Int) ≤ (j : Int) := by omega
      have HR5 := hide hr5
      have T5 := hide (T4.out.only ho5 (by omega))
      have HL5 := hide (HL4.out.only ho5 (by omega))
      have HO5 := hide (HO4.out.trans ho5)
      clear hr5 ho5 HR4 T4 HL4 HO4
      go_wp2_with fail
      refine (pick_rd g _ _ _ HR5.out (by omega)).mono ?_
      rintro e w6 ⟨y, rfl, _, hr6, ho6⟩
      have T6 := hide (T5.out.only ho6 (by omega))
      have HL6 := hide (HL5.out.only ho6 (by omega))
      have HO6 := hide (HO5.out.trans ho6)
      clear hr6 ho6 HR5 T5 HL5 HO5
      obtain ⟨b, rfl, hb1, hb2, hc, hf, hset⟩ := HL6.out.at_ (i := j) hjN
      have HSET := hide hset
      have hcap := HL6.out.cap
      clear hset
      go_wp2_with fail
      go_ret3
      exact ⟨_, _, _, _, _, _, _, _, _, rfl, (T6.out.kept (grown_set w6 ⟨b, j, none⟩ (.int .i64 y)) (HAP.out.imp id (fun h => h b hb1))).mono (by omega), by omega, (HSET.out y).mono (by omega), by omega, HBX.out _ (HO6.out.setCell (p := ⟨b, j, none⟩) (.inr (show w1.heap.size ≤ b by omega)) _)⟩
    · obtain rfl : N = 0 := by omega
      go_wp2_with fail
      go_ret3
      exact ⟨_, _, _, _, _, _, _, _, _, rfl, T4.out.mono (by omega), by omega, HL4.out.mono (by omega), by omega, HBX.out _ HO4.out⟩
  have v00 : (v == 0) = false := by simp [v0]
  by_cases v1 : v = 1
  · subst v1
    go_wp2_with (at_builtin; refine push_int rfl _ _ rfl l rfl HL4.out 0 _ rfl (by omega) (by omega) ?_; intro A5 c5 w5 hr5 hb5 hg5 hat5; have HF := hide (show _ ∧ _ ∧ _ from ⟨hr5, T4.out.kept hg5 (by
      cases e : (Value.slice A2 m d).ownBlock with
      | none => exact .inl rfl
      | some k => exact .inr (fun he => by
        rcases HAP.out with h | h
        · rw [e] at h; cases h
        · exact h k ((HL4.out.blk k he.symm).1) e)), HO4.out.of_grown hg5 (fun b hb => by have := (HL4.out.blk b hb).1; omega)⟩); clear hr5 hb5 hg5 hat5)
    go_ret3
    exact ⟨_, _, _, _, _, _, _, _, _, rfl, HF.out.2.1.mono (by omega), by omega, HF.out.1.mono (by omega), by omega, HBX.out _ HF.out.2.2⟩
  have v10 : (v == 1) = false := by simp [v1]
  by_cases v2 : v = 2
  · subst v2
    go_wp2_with fail
    refine (one_lit g 200 [8, -1, 2] _ 3 3 w4 _ HR4.out rfl rfl (by omega) (by omega) (by omega)).mono ?_
    rintro e w5 ⟨x, _, rfl, _, ho5⟩
    have HF := hide (show _ ∧ _ ∧ _ from ⟨T4.out.only ho5 (by omega), HL4.out.only ho5 (by omega), HBX.out _ (HO4.out.trans ho5)⟩)
    clear ho5
    go_wp2_with fail
    go_ret3
    exact ⟨_, _, _, _, _, _, _, _, _, rfl, HF.out.1.mono (by omega), by omega, HF.out.2.1.mono (by omega), by omega, HF.out.2.2⟩
  have v20 : (v == 2) = false := by simp [v2]
  clear v0 v1 v2
  go_wp2_with fail
  go_ret3
  exact ⟨_, _, _, _, _, _, _, _, _, rfl, T4.out.mono (by omega), by omega, HL4.out.mono (by omega), by omega, HBX.out _ HO4.out⟩
end Go.Proofs.Ytkalecdjcdgodaa
