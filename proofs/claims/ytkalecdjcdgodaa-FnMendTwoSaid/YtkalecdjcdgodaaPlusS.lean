/-
  Arrays with two columns more, the reference's side. Conditions: the rows can be read, and are of 0 and 1.
-/
import Derived.Test.YtkalecdjcdgodaaPlus
namespace Go.Proofs.Ytkalecdjcdgodaa
open Go.RowKit

theorem w1_row {q k : Nat} {M : Nat → Nat → Int} : ∀ j, j < q + 1 → (listOf q (M k) ++ [tot (M k) q % 2]).getD j 0 = W1 q M k j := fun j hj => by
  unfold W1
  by_cases h : j < q
  · rw [if_pos h, List.getD, List.getElem?_append_left (by rw [listOf_len]; exact h), listOf_get _ h]; rfl
  · have e : j = q := by omega
    subst e
    rw [if_neg h]
    simp [List.getD, listOf_len]
theorem w2_row {p k : Nat} {W : Nat → Nat → Int} : ∀ j, j < p + 1 → (listOf p (W k) ++ [dg2 p W k (p - 1) % 2]).getD j 0 = W2 p W k j := fun j hj => by
  unfold W2
  by_cases h : j < p
  · rw [if_pos h, List.getD, List.getElem?_append_left (by rw [listOf_len]; exact h), listOf_get _ h]; rfl
  · have e : j = p := by omega
    subst e
    rw [if_neg h]
    simp [List.getD, listOf_len]
/-- what a maker of tables gives -/
def TbPost (n m : Nat) (C : Nat → Nat → Int) (w : World) (e : Ending) (w' : World) : Prop :=
  ∃ A' c' R, e = .returned (.slice A' n c') ∧ TabD w' w.heap.size w'.heap.size A' n c' R ∧ TbC R n m C ∧ Below w.heap.size w w'

set_option maxHeartbeats 1000000 in
theorem rowPlus_any (A : Option Addr) (n c q : Nat) (M : Nat → Nat → Int) (w : World) (hn : n ≤ 6) (hq : 1 ≤ q ∧ q ≤ 6) (hM : Bin n q M) (h : Mat w w.heap.size A n (fun _ => q) M) :
    Calls Try.prog 68 #[.slice A n c] w (TbPost n (q + 1) (W1 q M) w) := by
  have Hh := hide h
  have HB := hide hM
  clear h hM
  go_enter Try.func68, Try.ntmps68
  go_wp2_with fail
  go_loopw [3, 4] (fun v i wr => ∃ (k : Nat) (A' : Option Addr) (c' : Nat) (R : List Sl), k ≤ n ∧ i = .int .i64 k ∧ v = .slice A' k c' ∧ TabD wr w.heap.size wr.heap.size A' k c' R ∧ TbC R k (q + 1) (W1 q M) ∧ Below w.heap.size w wr) (fun _ i _ => n - (intOf i).toNat)
  case atStart => exact ⟨0, _, _, [], by omega, rfl, rfl, TabD.empty0 0 rfl (Nat.le_refl _), TbC.nil _ _, by go_grown⟩
  case round =>
    obtain ⟨k, A', c', R, hk, rfl, rfl, ht, hcp, hb⟩ := hrel
    have HT := hide ht
    have HC := hide hcp
    have hz := hb.size
    clear ht hcp
    by_cases hlt : k < n
    · obtain ⟨b, off, rfl, hbl, hc⟩ := Hh.out (by omega)
      obtain ⟨R1, C1, e1, e2⟩ := hc k hlt
      have hck := (hb.cell (p := ⟨b, off + k, none⟩) hbl).trans e1
      have hbl2 : b < wr.heap.size := by omega
      have HI := hide (show Ints (wr.alloc (.cells #[] 3)) w.heap.size R1 q (M k) from e2.keep (hb.alloc (by omega) _) (Nat.le_refl _))
      have HI0 := hide (e2.keep hb (Nat.le_refl _))
      have HTB := hide (fun j hj => tot_bd (f := M k) (B := 1) (fun i hi => by have := HB.out k i hlt hi; omega) j hj)
      have HBK := hide (fun j hj => HB.out k j hlt hj)
      clear hc e1 e2
      go_wp2_with fail
      go_loop [5, 6] (fun v i => ∃ j : Nat, j ≤ q ∧ i = .int .i64 j ∧ v = .int .i64 (tot (M k) j)) (fun _ i => q - (intOf i).toNat)
      case atStart => exact ⟨0, by omega, rfl, rfl⟩
      case round =>
        obtain ⟨j, hj, rfl, rfl⟩ := hrel
        have b1 := HTB.out j hj
        by_cases hjq : j < q
        · obtain ⟨br, ro, rfl, hbr, hcr⟩ := HI0.out (by omega)
          have hcj := hcr j hjq
          have b2 := HBK.out j hjq
          have HS := hide (show tot (M k) (j + 1) = tot (M k) j + M k j from rfl)
          clear hcr
          generalize tot (M k) j = z at *
          generalize M k j = x at *
          go_wp2_with fail
          go_round
          case rel => exact ⟨j + 1, by omega, by go_num, by rw [HS.out]⟩
          case measure => simp [intOf]; omega
        · obtain rfl : j = q := by omega
          have HP := hide (fun (A : Option Addr) (c : Nat) => HC.out.push (A := A) (c := c) (xs := listOf j (M k) ++ [tot (M k) j % 2]) (by simp [listOf_len]) w1_row)
          generalize tot (M k) j = y at *
          go_wp2_with (first | (at_builtin; refine push_ints rfl _ _ rfl [] rfl (Row.lit (cs := #[]) (xs := []) (n := 0) (base := wr.heap.size) rfl rfl (Nat.le_refl _)) (M k) HI.out (by omega) rfl (by omega) (by simp) ?_; intro A2 c2 w2 hr2 hb2 hg2; rw [Nat.zero_add] at hr2; rw [List.nil_append] at hr2; rw [Nat.zero_add]; have hz2 : wr.heap.size + 1 ≤ w2.heap.size := (by have := hg2.size; simpa using this); have HF := hide (show Row w2 wr.heap.size A2 (j) c2 (listOf (j) (M k)) ∧ Below wr.heap.size wr w2 from ⟨hr2, ((Below.refl _ _).alloc (Nat.le_refl _) _).trans hb2⟩); clear hr2 hb2 hg2) | (at_builtin; refine push_int rfl _ _ rfl _ rfl HF.out.1 (y % 2) _ rfl (by omega) (by omega) ?_; intro A4 c4 w4 hr4 hb4 hg4 hat4; have hz4 := hb4.size; have HF4 := hide (show Row w4 wr.heap.size A4 (j + 1) c4 (listOf (j) (M k) ++ [y % 2]) ∧ Below wr.heap.size wr w4 from ⟨hr4, HF.out.2.trans hb4⟩); clear hr4 hb4 hg4 hat4) | (at_builtin; refine push_row rfl _ _ rfl R rfl (HT.out.keep HF4.out.2).tab A4 (j + 1) c4 (listOf (j) (M k) ++ [y % 2]) (HF4.out.1.mono hz) _ rfl (by omega) (by omega) ?_; intro A3 c3 w3 ht3 hb3 hg3 hat3; have hz3 := hb3.size; have HX := hide (show _ ∧ _ from ⟨(HT.out.keep HF4.out.2).push (top' := w3.heap.size) HF4.out.1 ht3 (by omega) (fun q hq => by have := (HF4.out.1.blk q (by rw [ownBlock_slice]; exact hq)).2; omega), (hb.trans (HF4.out.2.mono hz)).trans (hb3.mono (by omega))⟩); clear ht3 hb3 hg3 hat3))
          go_roundw
          case rel => first | exact ⟨k + 1, _, _, _, by omega, by go_num, rfl, HX.out.1, HP.out A4 c4, HX.out.2⟩ | ((repeat apply Exists.intro); exact ⟨⟨k + 1, _, _, _, by omega, by go_num, rfl, HX.out.1, HP.out A4 c4, HX.out.2⟩, rfl⟩)
          case measure => simp [intOf]; omega
    · obtain rfl : k = n := by omega
      go_wp2_with fail
      go_ret
      exact ⟨_, _, _, rfl, HT.out, HC.out, hb⟩

set_option maxHeartbeats 2000000 in
theorem diag3_any (A : Option Addr) (c : Nat) (W : Nat → Nat → Int) (w : World) (hM : Bin 2 3 W) (h : Mat w w.heap.size A 2 (fun _ => 3) W) :
    Calls Try.prog 67 #[.int .i64 3, .slice A 2 c] w (TbPost 2 (3 + 1) (W2 3 W) w) := by
  obtain ⟨b, off, rfl, hbl, hc⟩ := h (by omega)
  have HB := hide hM
  have HC0 := hide hc
  clear h hM hc
  go_enter Try.func67, Try.ntmps67
  go_wp2_with fail
  go_loopw [5, 6] (fun v i wr => ∃ (k : Nat) (A' : Option Addr) (c' : Nat) (R : List Sl), k ≤ 2 ∧ i = .int .i64 k ∧ v = .slice A' k c' ∧ TabD wr w.heap.size wr.heap.size A' k c' R ∧ TbC R k (3 + 1) (W2 3 W) ∧ Below w.heap.size w wr) (fun _ i _ => 2 - (intOf i).toNat)
  case atStart => exact ⟨0, _, _, [], by omega, rfl, rfl, TabD.empty0 0 rfl (Nat.le_refl _), TbC.nil _ _, by go_grown⟩
  case round =>
    obtain ⟨k, A', c', R, hk, rfl, rfl, ht, hcp, hb⟩ := hrel
    have HT := hide ht
    have HC := hide hcp
    have hz := hb.size
    clear ht hcp
    by_cases hlt : k < 2
    · obtain ⟨R1, C1, e1, e2⟩ := HC0.out k hlt
      have HCK := hide ((hb.cell (p := ⟨b, off + k, none⟩) hbl).trans e1)
      have hbl2 : b < wr.heap.size := by omega
      have HI := hide (show Ints (wr.alloc (.cells #[] 3)) w.heap.size R1 3 (W k) from e2.keep (hb.alloc (by omega) _) (Nat.le_refl _))
      clear e1 e2
      go_wp2_with fail
      go_loop [7, 8] (fun v i => ∃ r : Nat, r ≤ 2 ∧ i = .int .i64 r ∧ v = .int .i64 (dg2 3 W k r)) (fun _ i => 2 - (intOf i).toNat)
      case atStart => exact ⟨0, by omega, rfl, rfl⟩
      case round =>
        obtain ⟨r, hr, rfl, rfl⟩ := hrel
        have b1 := dg2_bd HB.out (by omega) (i := k) r hr
        by_cases hrq : r < 2
        · obtain ⟨R2, C2, f1, f2⟩ := HC0.out r hrq
          have hcr := (hb.cell (p := ⟨b, off + r, none⟩) hbl).trans f1
          obtain ⟨br, ro, rfl, hbr, hcw⟩ := f2 (by omega)
          have HCW := hide (fun j hj => (hb.cell (p := ⟨br, ro + j, none⟩) hbr).trans (hcw j hj))
          have HD1 := hide (fun j hj => dg1_bd HB.out (i := k) hrq j hj)
          have HS2 := hide (show dg2 3 W k (r + 1) = dg2 3 W k r + dg1 3 W k r 3 from rfl)
          clear f1 f2 hcw
          generalize dg2 3 W k r = z at *
          go_wp2_with fail
          go_loop [7, 9] (fun v i => ∃ j : Nat, j ≤ 3 ∧ i = .int .i64 j ∧ v = .int .i64 (z + dg1 3 W k r j)) (fun _ i => 3 - (intOf i).toNat)
          case atStart => exact ⟨0, by omega, rfl, by simp [dg1]⟩
          case round =>
            obtain ⟨j, hj, rfl, rfl⟩ := hrel
            have b3 := HD1.out j hj
            by_cases hjp : j < 3
            · have hcj := HCW.out j hjp
              have b2 := HB.out r j hrq hjp
              have HS := hide (show dg1 3 W k r (j + 1) = dg1 3 W k r j + (if (r + j) % 3 = k then W r j else 0) from rfl)
              generalize dg1 3 W k r j = s at *
              generalize W r j = x at *
              by_cases he : (r + j) % 3 = k
              · have he' : (((r : Int) + (j : Int)) % 3 == (k : Int)) = true := by rw [beq_iff_eq]; omega
                rw [if_pos he] at HS
                clear he
                go_wp2_with fail
                go_round
                case rel => exact ⟨j + 1, by omega, by go_num, by rw [HS.out]; go_num⟩
                case measure => simp [intOf]; omega
              · have he' : (((r : Int) + (j : Int)) % 3 == (k : Int)) = false := by rw [beq_eq_false_iff_ne]; omega
                rw [if_neg he] at HS
                clear he
                go_wp2_with fail
                go_round
                case rel => exact ⟨j + 1, by omega, by go_num, by rw [HS.out]; go_num⟩
                case measure => simp [intOf]; omega
            · obtain rfl : j = 3 := by omega
              go_wp2_with fail
              go_round
              case rel => exact ⟨r + 1, by omega, by go_num, by rw [HS2.out]⟩
              case measure => simp [intOf]; omega
        · obtain rfl : r = 2 := by omega
          have HP := hide (fun (A : Option Addr) (c : Nat) => HC.out.push (A := A) (c := c) (xs := listOf 3 (W k) ++ [dg2 3 W k 2 % 2]) (by simp [listOf_len]) (w2_row (p := 3)))
          have hck := HCK.out
          generalize dg2 3 W k 2 = y at *
          go_wp2_with (first | (at_builtin; refine push_ints rfl _ _ rfl [] rfl (Row.lit (cs := #[]) (xs := []) (n := 0) (base := wr.heap.size) rfl rfl (Nat.le_refl _)) (W k) HI.out (by omega) rfl (by omega) (by simp) ?_; intro A2 c2 w2 hr2 hb2 hg2; rw [Nat.zero_add] at hr2; rw [List.nil_append] at hr2; rw [Nat.zero_add]; have hz2 : wr.heap.size + 1 ≤ w2.heap.size := (by have := hg2.size; simpa using this); have HF := hide (show Row w2 wr.heap.size A2 (3) c2 (listOf (3) (W k)) ∧ Below wr.heap.size wr w2 from ⟨hr2, ((Below.refl _ _).alloc (Nat.le_refl _) _).trans hb2⟩); clear hr2 hb2 hg2) | (at_builtin; refine push_int rfl _ _ rfl _ rfl HF.out.1 (y % 2) _ rfl (by omega) (by omega) ?_; intro A4 c4 w4 hr4 hb4 hg4 hat4; have hz4 := hb4.size; have HF4 := hide (show Row w4 wr.heap.size A4 (3 + 1) c4 (listOf (3) (W k) ++ [y % 2]) ∧ Below wr.heap.size wr w4 from ⟨hr4, HF.out.2.trans hb4⟩); clear hr4 hb4 hg4 hat4) | (at_builtin; refine push_row rfl _ _ rfl R rfl (HT.out.keep HF4.out.2).tab A4 (3 + 1) c4 (listOf (3) (W k) ++ [y % 2]) (HF4.out.1.mono hz) _ rfl (by omega) (by omega) ?_; intro A3 c3 w3 ht3 hb3 hg3 hat3; have hz3 := hb3.size; have HX := hide (show _ ∧ _ from ⟨(HT.out.keep HF4.out.2).push (top' := w3.heap.size) HF4.out.1 ht3 (by omega) (fun q hq => by have := (HF4.out.1.blk q (by rw [ownBlock_slice]; exact hq)).2; omega), (hb.trans (HF4.out.2.mono hz)).trans (hb3.mono (by omega))⟩); clear ht3 hb3 hg3 hat3))
          go_roundw
          case rel => first | exact ⟨k + 1, _, _, _, by omega, by go_num, rfl, HX.out.1, HP.out A4 c4, HX.out.2⟩ | ((repeat apply Exists.intro); exact ⟨⟨k + 1, _, _, _, by omega, by go_num, rfl, HX.out.1, HP.out A4 c4, HX.out.2⟩, rfl⟩)
          case measure => simp [intOf]; omega
    · obtain rfl : k = 2 := by omega
      go_wp2_with fail
      go_ret
      exact ⟨_, _, _, rfl, HT.out, HC.out, hb⟩

set_option maxHeartbeats 2000000 in
theorem diag5_any (A : Option Addr) (c : Nat) (W : Nat → Nat → Int) (w : World) (hM : Bin 4 5 W) (h : Mat w w.heap.size A 4 (fun _ => 5) W) :
    Calls Try.prog 67 #[.int .i64 5, .slice A 4 c] w (TbPost 4 (5 + 1) (W2 5 W) w) := by
  obtain ⟨b, off, rfl, hbl, hc⟩ := h (by omega)
  have HB := hide hM
  have HC0 := hide hc
  clear h hM hc
  go_enter Try.func67, Try.ntmps67
  go_wp2_with fail
  go_loopw [5, 6] (fun v i wr => ∃ (k : Nat) (A' : Option Addr) (c' : Nat) (R : List Sl), k ≤ 4 ∧ i = .int .i64 k ∧ v = .slice A' k c' ∧ TabD wr w.heap.size wr.heap.size A' k c' R ∧ TbC R k (5 + 1) (W2 5 W) ∧ Below w.heap.size w wr) (fun _ i _ => 4 - (intOf i).toNat)
  case atStart => exact ⟨0, _, _, [], by omega, rfl, rfl, TabD.empty0 0 rfl (Nat.le_refl _), TbC.nil _ _, by go_grown⟩
  case round =>
    obtain ⟨k, A', c', R, hk, rfl, rfl, ht, hcp, hb⟩ := hrel
    have HT := hide ht
    have HC := hide hcp
    have hz := hb.size
    clear ht hcp
    by_cases hlt : k < 4
    · obtain ⟨R1, C1, e1, e2⟩ := HC0.out k hlt
      have HCK := hide ((hb.cell (p := ⟨b, off + k, none⟩) hbl).trans e1)
      have hbl2 : b < wr.heap.size := by omega
      have HI := hide (show Ints (wr.alloc (.cells #[] 3)) w.heap.size R1 5 (W k) from e2.keep (hb.alloc (by omega) _) (Nat.le_refl _))
      clear e1 e2
      go_wp2_with fail
      go_loop [7, 8] (fun v i => ∃ r : Nat, r ≤ 4 ∧ i = .int .i64 r ∧ v = .int .i64 (dg2 5 W k r)) (fun _ i => 4 - (intOf i).toNat)
      case atStart => exact ⟨0, by omega, rfl, rfl⟩
      case round =>
        obtain ⟨r, hr, rfl, rfl⟩ := hrel
        have b1 := dg2_bd HB.out (by omega) (i := k) r hr
        by_cases hrq : r < 4
        · obtain ⟨R2, C2, f1, f2⟩ := HC0.out r hrq
          have hcr := (hb.cell (p := ⟨b, off + r, none⟩) hbl).trans f1
          obtain ⟨br, ro, rfl, hbr, hcw⟩ := f2 (by omega)
          have HCW := hide (fun j hj => (hb.cell (p := ⟨br, ro + j, none⟩) hbr).trans (hcw j hj))
          have HD1 := hide (fun j hj => dg1_bd HB.out (i := k) hrq j hj)
          have HS2 := hide (show dg2 5 W k (r + 1) = dg2 5 W k r + dg1 5 W k r 5 from rfl)
          clear f1 f2 hcw
          generalize dg2 5 W k r = z at *
          go_wp2_with fail
          go_loop [7, 9] (fun v i => ∃ j : Nat, j ≤ 5 ∧ i = .int .i64 j ∧ v = .int .i64 (z + dg1 5 W k r j)) (fun _ i => 5 - (intOf i).toNat)
          case atStart => exact ⟨0, by omega, rfl, by simp [dg1]⟩
          case round =>
            obtain ⟨j, hj, rfl, rfl⟩ := hrel
            have b3 := HD1.out j hj
            by_cases hjp : j < 5
            · have hcj := HCW.out j hjp
              have b2 := HB.out r j hrq hjp
              have HS := hide (show dg1 5 W k r (j + 1) = dg1 5 W k r j + (if (r + j) % 5 = k then W r j else 0) from rfl)
              generalize dg1 5 W k r j = s at *
              generalize W r j = x at *
              by_cases he : (r + j) % 5 = k
              · have he' : (((r : Int) + (j : Int)) % 5 == (k : Int)) = true := by rw [beq_iff_eq]; omega
                rw [if_pos he] at HS
                clear he
                go_wp2_with fail
                go_round
                case rel => exact ⟨j + 1, by omega, by go_num, by rw [HS.out]; go_num⟩
                case measure => simp [intOf]; omega
              · have he' : (((r : Int) + (j : Int)) % 5 == (k : Int)) = false := by rw [beq_eq_false_iff_ne]; omega
                rw [if_neg he] at HS
                clear he
                go_wp2_with fail
                go_round
                case rel => exact ⟨j + 1, by omega, by go_num, by rw [HS.out]; go_num⟩
                case measure => simp [intOf]; omega
            · obtain rfl : j = 5 := by omega
              go_wp2_with fail
              go_round
              case rel => exact ⟨r + 1, by omega, by go_num, by rw [HS2.out]⟩
              case measure => simp [intOf]; omega
        · obtain rfl : r = 4 := by omega
          have HP := hide (fun (A : Option Addr) (c : Nat) => HC.out.push (A := A) (c := c) (xs := listOf 5 (W k) ++ [dg2 5 W k 4 % 2]) (by simp [listOf_len]) (w2_row (p := 5)))
          have hck := HCK.out
          generalize dg2 5 W k 4 = y at *
          go_wp2_with (first | (at_builtin; refine push_ints rfl _ _ rfl [] rfl (Row.lit (cs := #[]) (xs := []) (n := 0) (base := wr.heap.size) rfl rfl (Nat.le_refl _)) (W k) HI.out (by omega) rfl (by omega) (by simp) ?_; intro A2 c2 w2 hr2 hb2 hg2; rw [Nat.zero_add] at hr2; rw [List.nil_append] at hr2; rw [Nat.zero_add]; have hz2 : wr.heap.size + 1 ≤ w2.heap.size := (by have := hg2.size; simpa using this); have HF := hide (show Row w2 wr.heap.size A2 (5) c2 (listOf (5) (W k)) ∧ Below wr.heap.size wr w2 from ⟨hr2, ((Below.refl _ _).alloc (Nat.le_refl _) _).trans hb2⟩); clear hr2 hb2 hg2) | (at_builtin; refine push_int rfl _ _ rfl _ rfl HF.out.1 (y % 2) _ rfl (by omega) (by omega) ?_; intro A4 c4 w4 hr4 hb4 hg4 hat4; have hz4 := hb4.size; have HF4 := hide (show Row w4 wr.heap.size A4 (5 + 1) c4 (listOf (5) (W k) ++ [y % 2]) ∧ Below wr.heap.size wr w4 from ⟨hr4, HF.out.2.trans hb4⟩); clear hr4 hb4 hg4 hat4) | (at_builtin; refine push_row rfl _ _ rfl R rfl (HT.out.keep HF4.out.2).tab A4 (5 + 1) c4 (listOf (5) (W k) ++ [y % 2]) (HF4.out.1.mono hz) _ rfl (by omega) (by omega) ?_; intro A3 c3 w3 ht3 hb3 hg3 hat3; have hz3 := hb3.size; have HX := hide (show _ ∧ _ from ⟨(HT.out.keep HF4.out.2).push (top' := w3.heap.size) HF4.out.1 ht3 (by omega) (fun q hq => by have := (HF4.out.1.blk q (by rw [ownBlock_slice]; exact hq)).2; omega), (hb.trans (HF4.out.2.mono hz)).trans (hb3.mono (by omega))⟩); clear ht3 hb3 hg3 hat3))
          go_roundw
          case rel => first | exact ⟨k + 1, _, _, _, by omega, by go_num, rfl, HX.out.1, HP.out A4 c4, HX.out.2⟩ | ((repeat apply Exists.intro); exact ⟨⟨k + 1, _, _, _, by omega, by go_num, rfl, HX.out.1, HP.out A4 c4, HX.out.2⟩, rfl⟩)
          case measure => simp [intOf]; omega
    · obtain rfl : k = 4 := by omega
      go_wp2_with fail
      go_ret
      exact ⟨_, _, _, rfl, HT.out, HC.out, hb⟩

end Go.Proofs.Ytkalecdjcdgodaa
