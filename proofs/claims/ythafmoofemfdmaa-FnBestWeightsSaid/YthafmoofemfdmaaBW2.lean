/-
  BestWeights, both sides. Conditions: none.
-/
import Derived.Test.YthafmoofemfdmaaBW
namespace Go.Proofs.Ythafmoofemfdmaa
open Go.RowKit

theorem bw_start (p : Int) (n k : Nat) (w : World) (t : TypeId) (hk : k ≤ n) (h1 : 1 ≤ k) :
    (w.alloc (.cells ((madeCells #[.int .i64 0] (n + 1)).setIfInBounds 0 (.int .i64 1)) t)).rowIs w.heap.size t (n + 1) (fun x => if x < n - k + 1 then .int .i64 (bw p n (n - k + 1) x) else .int .i64 0) := by
  have h0 := ((World.rowIs_made w (.int .i64 0) (n + 1) t).set 0 (.int .i64 1)).congr (g := fun x => if x < n - k + 1 then .int .i64 (bw p n (n - k + 1) x) else .int .i64 0) (fun x hx => by
    by_cases e : x = 0
    · subst e; simp [bw]
    · rw [if_neg e]
      by_cases h : x < n - k + 1
      · rw [if_pos h]; simp [bw, e, h]
      · rw [if_neg h])
  obtain ⟨c, hb, hs, hc⟩ := h0
  refine ⟨c, ?_, hs, hc⟩
  rw [← hb, World.setCell_alloc_at _ _ _ _ _ rfl]

/-- the arguments of BestWeights are in range -/
def bwIn (p n k : Int) : Bool := isP p && inR n 1 7 && inR k 1 (if n < 4 then n else 4)

def bwLen (p n k : Int) : Nat := if bwIn p n k then n.toNat + 1 else 0
def bwF (p n k : Int) (i : Nat) : Int := bw p n.toNat (n.toNat - k.toNat + 1) i
def BwPost (p n k : Int) (w : World) (e : Ending) (w' : World) : Prop :=
  ∃ A c, e = .returned (.slice A (bwLen p n k) c) ∧ OwnI w' w.heap.size A (bwLen p n k) (bwF p n k) ∧ Below w.heap.size w w'
theorem bwPost_mk {p : Int} {n k : Nat} {w : World} (e0 : bwIn p n k = true) (c : Nat) (w' : World) (h : w'.rowIs w.heap.size 3 (n + 1) (fun x => .int .i64 (bw p n (n - k + 1) x))) (hb : Below w.heap.size w w') :
    BwPost p n k w (.returned (.slice (some ⟨w.heap.size, 0, none⟩) (n + 1) c)) w' := by
  have e1 : bwLen p n k = n + 1 := by simp [bwLen, e0]
  refine ⟨some ⟨w.heap.size, 0, none⟩, c, by rw [e1], ?_, hb⟩
  rw [e1]
  exact .inr ⟨w.heap.size, n + 1, _, rfl, Nat.le_refl _, h, Nat.le_refl _, fun i _ => by simp [bwF]⟩
theorem bwPost_at {p : Int} {n k : Nat} {w : World} (e0 : bwIn p n k = true) (B c : Nat) (w' : World) (hB : w.heap.size ≤ B) (h : w'.rowIs B 3 (n + 1) (fun x => .int .i64 (bw p n (n - k + 1) x))) (hb : Below w.heap.size w w') :
    BwPost p n k w (.returned (.slice (some ⟨B, 0, none⟩) (n + 1) c)) w' := by
  have e1 : bwLen p n k = n + 1 := by simp [bwLen, e0]
  refine ⟨some ⟨B, 0, none⟩, c, by rw [e1], ?_, hb⟩
  rw [e1]
  exact .inr ⟨B, n + 1, _, rfl, hB, h, Nat.le_refl _, fun i _ => by simp [bwF]⟩
theorem BwPost.none_ {p n k : Int} {w w' : World} (e0 : bwIn p n k = false) (hb : Below w.heap.size w w') : BwPost p n k w (.returned (.slice none 0 0)) w' := by
  have e1 : bwLen p n k = 0 := by simp [bwLen, e0]
  refine ⟨none, 0, by rw [e1], ?_, hb⟩
  rw [e1]
  exact OwnI.nil _ _ _

set_option maxHeartbeats 2000000 in
set_option maxRecDepth 100000 in
theorem BestWeightsS_any (p n k : Int) (w : World) :
    Calls Try.prog 18 #[.int .i64 p, .int .i64 n, .int .i64 k] w (BwPost p n k w) := by
  cases hp : isP p
  · have e0 : bwIn p n k = false := by simp [bwIn, hp]
    go_enter Try.func18, Try.ntmps18
    go_wp2_with (first | (go_at_call 57; refine (isPrime_any _ _).mono ?_; rintro e w' ⟨rfl, rfl⟩) | (go_at_call 58; refine (inRange_any _ _ _ _).mono ?_; rintro e w' ⟨rfl, rfl⟩))
    go_ret
    exact BwPost.none_ e0 (by go_grown)
  cases hn : inR n 1 7
  · have e0 : bwIn p n k = false := by simp [bwIn, hn]
    go_enter Try.func18, Try.ntmps18
    go_wp2_with (first | (go_at_call 57; refine (isPrime_any _ _).mono ?_; rintro e w' ⟨rfl, rfl⟩) | (go_at_call 58; refine (inRange_any _ _ _ _).mono ?_; rintro e w' ⟨rfl, rfl⟩))
    go_ret
    exact BwPost.none_ e0 (by go_grown)
  have b1 := inR_true.1 hn
  have key : ((0 < n ∧ n < 4) ∧ bwIn p n k = inR k 1 n ∧ bwIn p n k = inR k 1 n) ∨ ((4 < n ∧ 0 < n) ∧ bwIn p n k = inR k 1 4 ∧ bwIn p n k = inR k 1 4) ∨ ((4 ≤ n ∧ n ≤ 4) ∧ bwIn p n k = inR k 1 4 ∧ bwIn p n k = inR k 1 n) := by
    by_cases h4 : n < 4
    · exact .inl ⟨⟨by omega, h4⟩, by simp [bwIn, hp, hn, h4], by simp [bwIn, hp, hn, h4]⟩
    · by_cases h5 : n = 4
      · subst h5; exact .inr (.inr ⟨by omega, by simp [bwIn, hp, hn], by simp [bwIn, hp, hn]⟩)
      · exact .inr (.inl ⟨by omega, by simp [bwIn, hp, hn, h4], by simp [bwIn, hp, hn, h4]⟩)
  rcases key with ⟨⟨h4, h5⟩, ek, ek2⟩ | ⟨⟨h4, h5⟩, ek, ek2⟩ | ⟨⟨h4, h5⟩, ek, ek2⟩
  all_goals
    cases hk : bwIn p n k
    · rw [hk] at ek ek2
      have ek' := ek.symm
      have ek2' := ek2.symm
      clear ek ek2
      have H := hide (fun w1 hb => BwPost.none_ (w := w) (w' := w1) hk hb)
      clear hk
      go_enter Try.func18, Try.ntmps18
      go_wp2_with (first | (go_at_call 57; refine (isPrime_any _ _).mono ?_; rintro e w' ⟨rfl, rfl⟩) | (go_at_call 58; refine (inRange_any _ _ _ _).mono ?_; rintro e w' ⟨rfl, rfl⟩))
      all_goals (go_ret; exact H.out _ (by go_grown))
    rw [hk] at ek ek2
    have ek' := ek.symm
    have ek2' := ek2.symm
    have b2 := inR_true.1 ek'
    obtain ⟨n, rfl⟩ := Int.eq_ofNat_of_zero_le (show 0 ≤ n by omega)
    obtain ⟨k, rfl⟩ := Int.eq_ofNat_of_zero_le (show 0 ≤ k by omega)
    have b3 : k ≤ n ∧ k ≤ 4 ∧ 1 ≤ k ∧ n ≤ 7 := by omega
    have hp7 : 2 ≤ p ∧ p ≤ 7 := by rcases isP_true.1 hp with rfl | rfl | rfl | rfl <;> omega
    have Hpost := hide (bwPost_mk (w := w) hk)
    have Hp := hide hp
    clear hk ek ek2
    have hmk := run_make_row' (P := Try.prog) 28 3 (.int .i64 0) 8 Try.underlying28 info_int rfl .i64 .i64 (n + 1) (by omega) (by omega)
    rw [show (((n + 1 : Nat)) : Int) = (n : Int) + 1 by omega] at hmk
    have hc0 := (World.rowIs_made w (.int .i64 0) (n + 1) 3).cell (show 0 < n + 1 by omega)
    have hf0 := (World.rowIs_made w (.int .i64 0) (n + 1) 3).frozen 0
    go_enter Try.func18, Try.ntmps18
    go_wp2_with (first | (go_at_call 57; refine (isPrime_any _ _).mono ?_; rintro e w' ⟨rfl, rfl⟩) | (go_at_call 58; refine (inRange_any _ _ _ _).mono ?_; rintro e w' ⟨rfl, rfl⟩))
    clear hmk hc0 hf0
    go_loopw [9] (fun i wr => ∃ j : Nat, n - k + 1 ≤ j ∧ j ≤ n + 1 ∧ i = .int .i64 j ∧ wr.rowIs w.heap.size 3 (n + 1) (fun x => if x < j then .int .i64 (bw p n (n - k + 1) x) else .int .i64 0) ∧ Below w.heap.size w wr) (fun i _ => 9 - (intOf i).toNat)
    case atStart => exact ⟨n - k + 1, by omega, by omega, by go_num, bw_start _ _ _ _ _ b3.1 b3.2.2.1, by go_grown⟩
    case round =>
      obtain ⟨j, hj1, hj2, rfl, hrow, hb⟩ := hrel
      by_cases hlt : j < n + 1
      · have hjn : j ≤ n := by omega
        go_wp2_with fail
        go_loop [10, 11] (fun v i => ∃ t : Nat, t ≤ j - (n - k + 1) + 1 ∧ i = .int .i64 t ∧ v = .int .i64 (bwS p j (n - k + 1) t)) (fun _ i => 9 - (intOf i).toNat)
        case atStart => exact ⟨0, by omega, rfl, rfl⟩
        case round =>
          obtain ⟨t, ht, rfl, rfl⟩ := hrel
          obtain ⟨q1, q2, q3, q4, q5, q6⟩ := bw_bd Hp.out b3.2.2.2 b3.2.1 b3.2.2.1 b3.1 (show j ≤ n by omega) hj1 (show t < j - (n - k + 1) + 2 by omega)
          by_cases htl : t < j - (n - k + 1) + 1
          · have hstep : bwS p j (n - k + 1) (t + 1) = bwS p j (n - k + 1) t + bwT p j (n - k + 1) t := rfl
            obtain ⟨r1, r2, _⟩ := bw_bd Hp.out b3.2.2.2 b3.2.1 b3.2.2.1 b3.1 (show j ≤ n by omega) hj1 (show t + 1 < j - (n - k + 1) + 2 by omega)
            have hpw := pwN_small hp7 (j - (n - k + 1) - t + 1) (by omega)
            rw [hstep] at r1 r2
            have Hs := hide hstep
            clear hstep
            unfold bwT at r1 r2
            have Hrow := hide hrow
            clear hrow q3 q4
            go_wp2_with fail
            refine (chooseS_int _ _ _ (by omega) (by omega) (by omega)).mono ?_
            rintro e w' ⟨rfl, rfl⟩
            rw [Int.toNat_natCast, Int.toNat_natCast]
            go_wp2_with fail
            refine (timesS_int _ _ _ hp7 (by omega) (by omega)).mono ?_
            rintro e w' ⟨rfl, rfl⟩
            rw [show ((j : Int) - ((n : Int) - k + 1) - t + 1).toNat = j - (n - k + 1) - t + 1 from by omega]
            have Hdef := hide (show ∀ x, x = bwS p j (n - k + 1) t + (if t % 2 = 1 then -(chN j t * (pwN p (j - (n - k + 1) - t + 1) - 1)) else chN j t * (pwN p (j - (n - k + 1) - t + 1) - 1)) → x = bwS p j (n - k + 1) (t + 1) from fun x hx => by rw [Hs.out, hx]; rfl)
            generalize bwS p j (n - k + 1) t = S at *
            generalize chN j t = C at *
            generalize pwN p (j - (n - k + 1) - t + 1) = P at *
            by_cases hodd : t % 2 = 1
            · rw [if_pos hodd] at r1 r2
              have ho : ((t : Int) % 2 == 1) = true := by simp; omega
              have Ho := hide hodd
              clear hodd Hs
              go_wp2_with fail
              go_round
              case rel => exact ⟨t + 1, by omega, by go_num, congrArg (Value.int .i64) (Hdef.out _ (by rw [if_pos Ho.out]))⟩
              case measure => simp [intOf]; omega
            · rw [if_neg hodd] at r1 r2
              have ho : ((t : Int) % 2 == 1) = false := by simp; omega
              have Ho := hide hodd
              clear hodd Hs
              go_wp2_with fail
              go_round
              case rel => exact ⟨t + 1, by omega, by go_num, congrArg (Value.int .i64) (Hdef.out _ (by rw [if_neg Ho.out]))⟩
              case measure => simp [intOf]; omega
          · obtain rfl : t = j - (n - k + 1) + 1 := by omega
            have hcd := hrow.cell hlt
            have hfz := hrow.frozen j
            have hval : bw p n (n - k + 1) j = chN n j * bwS p j (n - k + 1) (j - (n - k + 1) + 1) := by
              unfold bw
              rw [if_neg (by omega), if_neg (by omega)]
            have Hv := hide hval
            have Hrow := hide hrow
            clear hval hrow
            generalize bwS p j (n - k + 1) (j - (n - k + 1) + 1) = S at *
            go_wp2_with fail
            refine (chooseS_int _ _ _ (by omega) (by omega) (by omega)).mono ?_
            rintro e w' ⟨rfl, rfl⟩
            rw [Int.toNat_natCast, Int.toNat_natCast]
            generalize chN n j = C at *
            go_wp2_with fail
            go_roundw
            case rel => exact ⟨j + 1, by omega, by omega, by go_num, (Hrow.out.set j _).congr (fun x _ => by
              by_cases e : x = j
              · subst e; simp [Hv.out]
              · rw [if_neg e]
                by_cases h1 : x < j
                · rw [if_pos h1, if_pos (by omega)]
                · rw [if_neg h1, if_neg (by omega)]), hb.setCell (p := ⟨w.heap.size, j, none⟩) (Nat.le_refl _) _⟩
            case measure => simp [intOf]; omega
      · obtain rfl : j = n + 1 := by omega
        have Hrow := hide hrow
        clear hrow
        go_wp2_with fail
        go_ret
        exact Hpost.out _ _ (Hrow.out.congr (fun x hx => by rw [if_pos hx])) hb
end Go.Proofs.Ythafmoofemfdmaa
