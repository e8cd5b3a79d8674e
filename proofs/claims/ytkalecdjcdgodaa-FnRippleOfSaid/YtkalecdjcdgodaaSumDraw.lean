/-
  The draws of numbers and sets of them. Conditions: the reader is one that newReader has made; the code is a slice of bytes that can be read.
-/
import Derived.Test.YtkalecdjcdgodaaOwn3
import Derived.Test.YtkalecdjcdgodaaBits
namespace Go.Proofs.Ytkalecdjcdgodaa
open Go.RowKit

def lenOf : Value → Nat | .slice _ n _ => n | _ => 0
/-- two rows of the call's own, the first one's block under M, the second one's above -/
def Two (w : World) (base M : Nat) (A : Option Addr) (n c : Nat) (xs : List Int) (A2 : Option Addr) (m d : Nat) (ys : List Int) : Prop :=
  Row w base A n c xs ∧ (∀ k, (Value.slice A n c).ownBlock = some k → k < M) ∧ Row w M A2 m d ys ∧ base ≤ M ∧ M ≤ w.heap.size
theorem and_int (x y : Int) : ∃ z : Int, bits .and .i64 x y = z := ⟨_, rfl⟩

set_option maxHeartbeats 1000000 in
theorem aList_any (g : Nat) (w : World) (h : Rd w g 0) :
    Calls Try.prog 52 #[.pointer (some ⟨g, 0, none⟩)] w fun e w' => ∃ M A n c xs A2 m d ys, e = .returned (.tuple #[.slice A n c, .slice A2 m d]) ∧ Two w' w.heap.size M A n c xs A2 m d ys ∧ n ≤ 7 ∧ m ≤ 12 ∧ Rd w' g 100 ∧ Only g w w' := by
  have hg := h.lt
  go_enter Try.func52, Try.ntmps52
  go_wp2_with fail
  rw [show w.heap.size + 1 = (w.alloc (.cells #[] 3)).heap.size by simp]
  refine (one_lit g 0 [4, 5, 3, 2, 7, 1, 0] _ 7 7 (w.alloc (.cells #[] 3)) _ (h.alloc _) rfl rfl (by omega) (by omega) (by omega)).mono ?_
  rintro e w1 ⟨v, hv, rfl, hr1, ho1⟩
  have hn : 0 ≤ v ∧ v ≤ 7 := by simp at hv; omega
  clear hv
  obtain ⟨n, rfl⟩ := Int.eq_ofNat_of_zero_le (show 0 ≤ v by omega)
  have HO1 := hide (show Only g w w1 from ((Only.refl g w).alloc _).trans ho1)
  have HR := hide (show Row w1 w.heap.size (some ⟨w.heap.size, 0, none⟩) 0 0 [] from (Row.lit (cs := #[]) (xs := []) (n := 0) (base := w.heap.size) rfl rfl (Nat.le_refl _)).only ho1 (by omega))
  have hz1 : w.heap.size ≤ w1.heap.size := HO1.out.size
  clear ho1
  go_wp2_with fail
  go_loopw [4] (fun v wr => ∃ (k : Nat) (A : Option Addr) (c : Nat) (xs : List Int), k ≤ n ∧ v = .slice A k c ∧ Row wr w.heap.size A k c xs ∧ Rd wr g (1 + k) ∧ Only g w wr) (fun v _ => n - lenOf v)
  case atStart => exact ⟨0, _, _, [], by omega, rfl, HR.out, hr1, HO1.out⟩
  case round =>
    obtain ⟨k, A, c, xs, hk, rfl, hrow, hr, ho⟩ := hrel
    have Hrow := hide hrow
    clear hrow HR hr1 HO1
    have hz := ho.size
    by_cases hlt : k < n
    · go_wp2_with fail
      refine (pick_rd g _ _ _ hr (by omega)).mono ?_
      rintro e w2 ⟨v, rfl, hv, hr2, ho2⟩
      have hz2 : wr.heap.size ≤ w2.heap.size := ho2.size
      have Hrow2 := hide (Hrow.out.only ho2 (by omega))
      clear hv
      go_wp2_with (at_builtin; refine push_int rfl _ _ rfl xs rfl Hrow2.out _ _ rfl (by omega) (by omega) ?_; intro A2 c2 w3 hr3 hb3 hg3 hat3; have HF := hide (show _ ∧ _ ∧ _ from ⟨hr3, Rd.grown hr2 hg3 (fun b hb => by have := (Hrow2.out.blk b hb).1; omega), (ho.trans ho2).of_grown hg3 (fun b hb => (Hrow2.out.blk b hb).1)⟩); clear hr3 hb3 hg3 hat3)
      go_roundw
      case rel => exact ⟨k + 1, _, _, _, by omega, rfl, HF.out.1, HF.out.2.1.mono (by omega), HF.out.2.2⟩
      case measure => simp [lenOf]; omega
    · obtain rfl : k = n := by omega
      obtain ⟨w4, hw4⟩ : ∃ x, x = wr := ⟨_, rfl⟩
      rw [← hw4] at hr ho Hrow hz
      rw [← hw4]
      clear hw4
      have hg4 := hr.lt
      have HPn := hide (fun W => powerS_any k W (by omega))
      have p1 := two_pow_pos k
      have p2 := two_pow_le (show k ≤ 7 by omega)
      rw [show (2 : Int) ^ 7 = 128 by decide] at p2
      generalize (2 : Int) ^ k = pn at *
      go_wp2_with fail
      rw [show w4.heap.size + 1 = (w4.alloc (.cells #[] 3)).heap.size by simp]
      refine (one_lit g _ [5, 6, 4, 8, 3, 12, 0] _ 7 7 (w4.alloc (.cells #[] 3)) _ (hr.alloc _) rfl rfl (by omega) (by omega) (by omega)).mono ?_
      rintro e w5 ⟨v, hv, rfl, hr5, ho5⟩
      have hm : 0 ≤ v ∧ v ≤ 12 := by simp at hv; omega
      clear hv
      obtain ⟨m, rfl⟩ := Int.eq_ofNat_of_zero_le (show 0 ≤ v by omega)
      have HO5 := hide (show Only g w4 w5 from ((Only.refl g w4).alloc _).trans ho5)
      have HR5 := hide (show Row w5 w4.heap.size (some ⟨w4.heap.size, 0, none⟩) 0 0 [] from (Row.lit (cs := #[]) (xs := []) (n := 0) (base := w4.heap.size) rfl rfl (Nat.le_refl _)).only ho5 (by omega))
      have hz5 : w4.heap.size ≤ w5.heap.size := HO5.out.size
      clear ho5
      go_wp2_with fail
      go_loopw [6] (fun v wr => ∃ (j : Nat) (A2 : Option Addr) (d : Nat) (ys : List Int), j ≤ m ∧ v = .slice A2 j d ∧ Row wr w4.heap.size A2 j d ys ∧ Rd wr g (20 + 5 * j) ∧ Only g w4 wr) (fun v _ => m - lenOf v)
      case atStart => exact ⟨0, _, _, [], by omega, rfl, HR5.out, hr5.mono (by omega), HO5.out⟩
      case round =>
        obtain ⟨j, A2, d, ys, hj, rfl, hrow2, hr6, ho6⟩ := hrel
        have Hrow2 := hide hrow2
        clear hrow2 HR5 hr5 HO5
        have hz6 := ho6.size
        by_cases hjm : j < m
        · go_wp2_with fail
          refine (HPn.out _).mono ?_
          rintro e _ ⟨rfl, rfl⟩
          go_wp2_with fail
          refine (pick_rd g _ _ _ hr6 (by omega)).mono ?_
          rintro e w7 ⟨x1, rfl, hv7, hr7, ho7⟩
          go_wp2_with fail
          refine (pick_rd g _ _ _ hr7 (by omega)).mono ?_
          rintro e w8 ⟨v8, rfl, hv8, hr8, ho8⟩
          have HO8 := hide (ho7.trans ho8)
          clear hv7 ho7 ho8 hr6 hr7
          by_cases v80 : v8 = 0
          · subst v80
            go_wp2_with fail
            refine (HPn.out _).mono ?_
            rintro e _ ⟨rfl, rfl⟩
            go_wp2_with fail
            refine (pick_rd g _ _ _ hr8 (by omega)).mono ?_
            rintro e w9 ⟨v9, rfl, hv9, hr9, ho9⟩
            have HO9 := hide (HO8.out.trans ho9)
            clear ho9 hr8 HO8 hv9
            go_wp2_with fail
            refine (pick_rd g _ _ _ hr9 (by omega)).mono ?_
            rintro e w10 ⟨v10, rfl, hv10, hr10, ho10⟩
            have HO10 := hide (HO9.out.trans ho10)
            clear ho10 hr9 HO9 hv10
            by_cases v100 : v10 = 0
            · subst v100
              go_wp2_with fail
              all_goals
                refine (pick_rd g _ _ _ hr10 (by omega)).mono ?_
                rintro e w11 ⟨v11, rfl, hv11, hr11, ho11⟩
                have HO11 := hide (HO10.out.trans ho11)
                obtain ⟨y, rfl⟩ := Int.eq_ofNat_of_zero_le hv11.1
                have hy7 : y ≤ 7 := by omega
                have HPy := hide (fun W => powerS_any y W (by omega))
                have p3 := two_pow_pos y
                have p4 := two_pow_le hy7
                rw [show (2 : Int) ^ 7 = 128 by decide] at p4
                generalize (2 : Int) ^ y = py at *
                clear ho11 hv11 hr10 HO10
                go_wp2_with fail
                refine (HPy.out _).mono ?_
                rintro e _ ⟨rfl, rfl⟩
                go_wp2_with fail
                refine (HPn.out _).mono ?_
                rintro e _ ⟨rfl, rfl⟩
                have hz11 : wr.heap.size ≤ w11.heap.size := HO11.out.size
                have HrowX := hide (Hrow2.out.only HO11.out (by omega))
                go_wp2_with (at_builtin; refine push_int rfl _ _ rfl ys rfl HrowX.out _ _ rfl (by omega) (by omega) ?_; intro A3 c3 w3 hr3 hb3 hg3 hat3; have HF := hide (show _ ∧ _ ∧ _ from ⟨hr3, Rd.grown hr11 hg3 (fun b hb => by have := (HrowX.out.blk b hb).1; omega), (ho6.trans HO11.out).of_grown hg3 (fun b hb => (HrowX.out.blk b hb).1)⟩); clear hr3 hb3 hg3 hat3)
                all_goals
                  go_roundw
                  case rel => first | exact ⟨j + 1, _, _, _, by omega, rfl, HF.out.1, HF.out.2.1.mono (by omega), HF.out.2.2⟩ | ((repeat apply Exists.intro); exact ⟨⟨j + 1, _, _, _, by omega, rfl, HF.out.1, HF.out.2.1.mono (by omega), HF.out.2.2⟩, rfl⟩)
                  case measure => simp [lenOf]; omega
            have v101 : (v10 == 0) = false := by simp [v100]
            clear v100
            obtain ⟨w11, hw11⟩ : ∃ x, x = w10 := ⟨_, rfl⟩
            rw [← hw11]
            rw [← hw11] at hr10 HO10
            clear hw11
            have hr11 := hr10
            have HO11 := HO10
            clear hr10 HO10
            go_wp2_with fail
            refine (HPn.out _).mono ?_
            rintro e _ ⟨rfl, rfl⟩
            have hz11 : wr.heap.size ≤ w11.heap.size := HO11.out.size
            have HrowX := hide (Hrow2.out.only HO11.out (by omega))
            go_wp2_with (at_builtin; refine push_int rfl _ _ rfl ys rfl HrowX.out _ _ rfl (by omega) (by omega) ?_; intro A3 c3 w3 hr3 hb3 hg3 hat3; have HF := hide (show _ ∧ _ ∧ _ from ⟨hr3, Rd.grown hr11 hg3 (fun b hb => by have := (HrowX.out.blk b hb).1; omega), (ho6.trans HO11.out).of_grown hg3 (fun b hb => (HrowX.out.blk b hb).1)⟩); clear hr3 hb3 hg3 hat3)
            all_goals
              go_roundw
              case rel => first | exact ⟨j + 1, _, _, _, by omega, rfl, HF.out.1, HF.out.2.1.mono (by omega), HF.out.2.2⟩ | ((repeat apply Exists.intro); exact ⟨⟨j + 1, _, _, _, by omega, rfl, HF.out.1, HF.out.2.1.mono (by omega), HF.out.2.2⟩, rfl⟩)
              case measure => simp [lenOf]; omega
          have v81 : (v8 == 0) = false := by simp [v80]
          clear v80
          have hr9 := hr8
          have HO9 := HO8
          clear hr8 HO8
          go_wp2_with fail
          refine (pick_rd g _ _ _ hr9 (by omega)).mono ?_
          rintro e w10 ⟨v10, rfl, hv10, hr10, ho10⟩
          have HO10 := hide (HO9.out.trans ho10)
          clear ho10 hr9 HO9 hv10
          by_cases v100 : v10 = 0
          · subst v100
            go_wp2_with fail
            all_goals
              refine (pick_rd g _ _ _ hr10 (by omega)).mono ?_
              rintro e w11 ⟨v11, rfl, hv11, hr11, ho11⟩
              have HO11 := hide (HO10.out.trans ho11)
              obtain ⟨y, rfl⟩ := Int.eq_ofNat_of_zero_le hv11.1
              have hy7 : y ≤ 7 := by omega
              have HPy := hide (fun W => powerS_any y W (by omega))
              have p3 := two_pow_pos y
              have p4 := two_pow_le hy7
              rw [show (2 : Int) ^ 7 = 128 by decide] at p4
              generalize (2 : Int) ^ y = py at *
              clear ho11 hv11 hr10 HO10
              go_wp2_with fail
              refine (HPy.out _).mono ?_
              rintro e _ ⟨rfl, rfl⟩
              go_wp2_with fail
              refine (HPn.out _).mono ?_
              rintro e _ ⟨rfl, rfl⟩
              have hz11 : wr.heap.size ≤ w11.heap.size := HO11.out.size
              have HrowX := hide (Hrow2.out.only HO11.out (by omega))
              go_wp2_with (at_builtin; refine push_int rfl _ _ rfl ys rfl HrowX.out _ _ rfl (by omega) (by omega) ?_; intro A3 c3 w3 hr3 hb3 hg3 hat3; have HF := hide (show _ ∧ _ ∧ _ from ⟨hr3, Rd.grown hr11 hg3 (fun b hb => by have := (HrowX.out.blk b hb).1; omega), (ho6.trans HO11.out).of_grown hg3 (fun b hb => (HrowX.out.blk b hb).1)⟩); clear hr3 hb3 hg3 hat3)
              all_goals
                go_roundw
                case rel => first | exact ⟨j + 1, _, _, _, by omega, rfl, HF.out.1, HF.out.2.1.mono (by omega), HF.out.2.2⟩ | ((repeat apply Exists.intro); exact ⟨⟨j + 1, _, _, _, by omega, rfl, HF.out.1, HF.out.2.1.mono (by omega), HF.out.2.2⟩, rfl⟩)
                case measure => simp [lenOf]; omega
          have v101 : (v10 == 0) = false := by simp [v100]
          clear v100
          obtain ⟨w11, hw11⟩ : ∃ x, x = w10 := ⟨_, rfl⟩
          rw [← hw11]
          rw [← hw11] at hr10 HO10
          clear hw11
          have hr11 := hr10
          have HO11 := HO10
          clear hr10 HO10
          go_wp2_with fail
          refine (HPn.out _).mono ?_
          rintro e _ ⟨rfl, rfl⟩
          have hz11 : wr.heap.size ≤ w11.heap.size := HO11.out.size
          have HrowX := hide (Hrow2.out.only HO11.out (by omega))
          go_wp2_with (at_builtin; refine push_int rfl _ _ rfl ys rfl HrowX.out _ _ rfl (by omega) (by omega) ?_; intro A3 c3 w3 hr3 hb3 hg3 hat3; have HF := hide (show _ ∧ _ ∧ _ from ⟨hr3, Rd.grown hr11 hg3 (fun b hb => by have := (HrowX.out.blk b hb).1; omega), (ho6.trans HO11.out).of_grown hg3 (fun b hb => (HrowX.out.blk b hb).1)⟩); clear hr3 hb3 hg3 hat3)
          all_goals
            go_roundw
            case rel => first | exact ⟨j + 1, _, _, _, by omega, rfl, HF.out.1, HF.out.2.1.mono (by omega), HF.out.2.2⟩ | ((repeat apply Exists.intro); exact ⟨⟨j + 1, _, _, _, by omega, rfl, HF.out.1, HF.out.2.1.mono (by omega), HF.out.2.2⟩, rfl⟩)
            case measure => simp [lenOf]; omega

        · obtain rfl : j = m := by omega
          have HF := hide (show Two _ _ _ _ _ _ _ _ _ _ _ from ⟨Hrow.out.only ho6 (by omega), fun k hk => (Hrow.out.blk k hk).2, Hrow2.out, hz, ho6.size⟩)
          go_wp2_with fail
          go_ret2
          exact ⟨_, _, _, _, _, _, _, _, _, rfl, HF.out, by omega, by omega, hr6.mono (by omega), ho.trans ho6⟩


theorem Two.mono {w : World} {base base' M n c m d : Nat} {A A2 : Option Addr} {xs ys : List Int} (h : Two w base M A n c xs A2 m d ys) (hb : base' ≤ base) : Two w base' M A n c xs A2 m d ys :=
  ⟨h.1.mono hb, h.2.1, h.2.2.1, Nat.le_trans hb h.2.2.2.1, h.2.2.2.2⟩

set_option maxHeartbeats 1000000 in
theorem DrawSumsOf_any (a : Option Addr) (len cap : Nat) (zs : List Int) (w W : World) (h : IsRow .u8 w a len cap zs) (hb : Below w.heap.size w W) :
    Calls Try.prog 20 #[.slice a len cap] W fun e w' => ∃ A n c xs A2 m d ys, e = .returned (.tuple #[.slice A n c, .slice A2 m d]) ∧ Row w' W.heap.size A n c xs ∧ n ≤ 8 ∧ Row w' W.heap.size A2 m d ys ∧ m ≤ 13 ∧ Below W.heap.size W w' := by
  have Hh := hide h
  have Hb := hide hb
  clear h hb
  go_enter Try.func20, Try.ntmps20
  go_wp2_with fail
  refine (newReader_of a len cap zs w _ Hh.out Hb.out).mono ?_
  rintro e w1 ⟨g, rfl, hg, hr, hb1⟩
  go_wp2_with fail
  refine (aList_any g _ hr).mono ?_
  rintro e w2 ⟨M, A, n, c, xs, A2, m, d, ys, rfl, htw, hn, hm, hr2, ho2⟩
  go_wp2_with fail
  refine (pick_rd g _ _ _ hr2 (by omega)).mono ?_
  rintro e w3 ⟨v, rfl, hv, hr3, ho3⟩
  have hgl := hr.lt
  obtain ⟨t1, t2, t3, t4, t5⟩ := htw
  have hz1 : W.heap.size ≤ w1.heap.size := hb1.size
  have hz3 : w2.heap.size ≤ w3.heap.size := ho3.size
  have T1 := hide ((t1.only ho3 hgl).mono hz1)
  have T2 := hide t2
  have T3 := hide (t3.only ho3 (by omega))
  have HB := hide ((ho2.trans ho3).up hb1 hb1.size hg)
  clear t1 t2 t3 hr2 hr3 ho2 ho3 hr hb1 hv
  by_cases v0 : v = 0
  · subst v0
    go_wp2_with (at_builtin; refine push_int rfl _ _ rfl xs rfl T1.out _ _ rfl (by omega) (by omega) ?_; intro A3 c3 w4 hr4 hb4 hg4 hat4; have HF := hide (show _ ∧ _ ∧ _ from ⟨hr4, T3.out.kept hg4 (by
      cases e : (Value.slice A2 m d).ownBlock with
      | none => exact .inl rfl
      | some k => exact .inr (fun he => by have := (T3.out.blk k e).1; have := T2.out k he.symm; omega)), HB.out.trans hb4⟩); clear hr4 hb4 hg4 hat4)
    go_ret2
    exact ⟨_, _, _, _, _, _, _, _, rfl, HF.out.1, by omega, HF.out.2.1.mono (by omega), by omega, HF.out.2.2⟩
  have v00 : (v == 0) = false := by simp [v0]
  by_cases v1 : v = 1
  · subst v1
    go_wp2_with (at_builtin; refine push_int rfl _ _ rfl ys rfl T3.out _ _ rfl (by omega) (by omega) ?_; intro A3 c3 w4 hr4 hb4 hg4 hat4; have HF := hide (show _ ∧ _ ∧ _ from ⟨T1.out.kept hg4 (by
      cases e : (Value.slice A n c).ownBlock with
      | none => exact .inl rfl
      | some k => exact .inr (fun he => by have := (T3.out.blk k he.symm).1; have := T2.out k e; omega)), hr4, HB.out.trans (hb4.mono (by omega))⟩); clear hr4 hb4 hg4 hat4)
    go_ret2
    exact ⟨_, _, _, _, _, _, _, _, rfl, HF.out.1, by omega, HF.out.2.1.mono (by omega), by omega, HF.out.2.2⟩
  have v11 : (v == 1) = false := by simp [v1]
  clear v0 v1
  go_wp2_with fail
  go_ret2
  exact ⟨_, _, _, _, _, _, _, _, rfl, T1.out, by omega, T3.out.mono (by omega), by omega, HB.out⟩
end Go.Proofs.Ytkalecdjcdgodaa
