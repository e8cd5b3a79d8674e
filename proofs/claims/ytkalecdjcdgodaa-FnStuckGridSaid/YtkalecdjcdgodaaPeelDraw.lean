/-
  The draw of a grid. Conditions: the code is a slice of bytes that can be read.
-/
import Derived.Test.YtkalecdjcdgodaaOwn3
import Derived.Test.YtkalecdjcdgodaaBits
namespace Go.Proofs.Ytkalecdjcdgodaa
open Go.RowKit

theorem results_tmp4 {fn : Func} {t u v x : Tmp} (h : fn.results = #[.tmp t, .tmp u, .tmp v, .tmp x]) (tmps : Array Value) (P : Program) (w : World) :
    (results fn tmps).run P w = .ok (.tuple #[tmps.getD t undef, tmps.getD u undef, tmps.getD v undef, tmps.getD x undef]) w := by
  simp [results, h]
macro "go_ret4" : tactic => `(tactic|
  ((try simp only [Exit.inBlock, Exit.then]); refine bodyPost_ret (results_tmp4 rfl _ _ _) rfl ?_))
def lenOf' : Value → Nat | .slice _ n _ => n | _ => 0

set_option maxRecDepth 100000 in
set_option maxHeartbeats 1000000 in
theorem DrawPeelGrid_any (a : Option Addr) (len cap : Nat) (zs : List Int) (w W : World) (h : IsRow .u8 w a len cap zs) (hb : Below w.heap.size w W) :
    Calls Try.prog 30 #[.slice a len cap] W fun e w' => ∃ A n c xs, ∃ cols br bc : Int, e = .returned (.tuple #[.slice A n c, .int .i64 cols, .int .i64 br, .int .i64 bc]) ∧ Row w' W.heap.size A n c xs ∧ n ≤ 6 ∧ Below W.heap.size W w' := by
  have Hh := hide h
  have Hb := hide hb
  clear h hb
  go_enter Try.func30, Try.ntmps30
  go_wp2_with fail
  refine (newReader_of a len cap zs w _ Hh.out Hb.out).mono ?_
  rintro e w1 ⟨g, rfl, hg, hr1, hb1⟩
  have HB1 := hide hb1
  have hz1 : W.heap.size ≤ w1.heap.size := hb1.size
  have hg1 := hr1.lt
  clear hb1
  go_wp2_with fail
  refine (one_lit g _ [4, 5, 3, 7, 2, 1, 0, 8] _ 8 8 w1 _ hr1 rfl rfl (by omega) (by omega) (by omega)).mono ?_
  rintro e w2 ⟨v, hv, rfl, hr2, ho2⟩
  have hcl : 0 ≤ v ∧ v ≤ 8 := by simp at hv; omega
  clear hv
  obtain ⟨cl, rfl⟩ := Int.eq_ofNat_of_zero_le (show 0 ≤ v by omega)
  have hz2 : w1.heap.size ≤ w2.heap.size := ho2.size
  go_wp2_with fail
  rw [show w2.heap.size + 1 = (w2.alloc (.cells #[] 3)).heap.size by simp]
  refine (one_lit g _ [4, 3, 5, 6, 2, 1, 0] _ 7 7 (w2.alloc (.cells #[] 3)) _ (hr2.alloc _) rfl rfl (by omega) (by omega) (by omega)).mono ?_
  rintro e w3 ⟨v, hv, rfl, hr3, ho3⟩
  have hn : 0 ≤ v ∧ v ≤ 6 := by simp at hv; omega
  clear hv
  obtain ⟨n, rfl⟩ := Int.eq_ofNat_of_zero_le (show 0 ≤ v by omega)
  have HO3 := hide (show Only g w1 w3 from (ho2.alloc _).trans ho3)
  have HR := hide (show Row w3 w2.heap.size (some ⟨w2.heap.size, 0, none⟩) 0 0 [] from (Row.lit (cs := #[]) (xs := []) (n := 0) (base := w2.heap.size) rfl rfl (Nat.le_refl _)).only ho3 (by omega))
  have hz3 : w2.heap.size ≤ w3.heap.size := Nat.le_trans (by simp) ho3.size
  clear ho3 ho2
  have HPc := hide (fun W => powerS_any cl W (by omega))
  have HP7 := hide (show ∀ W, Calls Try.prog 64 #[.int .i64 7] W fun e w' => e = .returned (.int .i64 128) ∧ W = w' from fun W => powerS_any 7 W (by omega))
  go_wp2_with fail
  go_loopw [8] (fun v wr => ∃ (k : Nat) (A : Option Addr) (c : Nat) (xs : List Int), k ≤ n ∧ v = .slice A k c ∧ Row wr w2.heap.size A k c xs ∧ Rd wr g (10 + 2 * k) ∧ Only g w1 wr ∧ w2.heap.size ≤ wr.heap.size) (fun v _ => n - lenOf' v)
  case atStart => exact ⟨0, _, _, [], by omega, rfl, HR.out, hr3.mono (by omega), HO3.out, hz3⟩
  case round =>
    obtain ⟨k, A, c, xs, hk, rfl, hrow, hr, ho, hz⟩ := hrel
    have Hrow := hide hrow
    clear hrow HR hr3 HO3
    by_cases hlt : k < n
    · go_wp2_with fail
      all_goals
        first
          | (with_reducible refine (HPc.out _).mono ?_; rintro e _ ⟨rfl, rfl⟩)
          | (with_reducible refine (HP7.out _).mono ?_; rintro e _ ⟨rfl, rfl⟩)
        go_wp2_with fail
        refine (pick_rd g _ _ _ hr (by omega)).mono ?_
        rintro e w4 ⟨v4, rfl, hv4, hr4, ho4⟩
        go_wp2_with fail
        refine (pick_rd g _ _ _ hr4 (by omega)).mono ?_
        rintro e w5 ⟨v5, rfl, hv5, hr5, ho5⟩
        have ho6 := ho4.trans ho5
        have hz6 : wr.heap.size ≤ w5.heap.size := ho6.size
        have Hrow2 := hide (Hrow.out.only ho6 (by omega))
        clear hv4 hv5
        go_wp2_with (at_builtin; refine push_int rfl _ _ rfl xs rfl Hrow2.out _ _ rfl (by omega) (by omega) ?_; intro A2 c2 w6 hr6 hb6 hg6 hat6; have HF := hide (show _ ∧ _ ∧ _ ∧ _ from ⟨hr6, Rd.grown hr5 hg6 (fun b hb => by have := (Hrow2.out.blk b hb).1; omega), (ho.trans ho6).of_grown hg6 (fun b hb => by have := (Hrow2.out.blk b hb).1; omega), Nat.le_trans hz (Nat.le_trans hz6 hg6.size)⟩); clear hr6 hb6 hg6 hat6)
        go_roundw
        case rel => exact ⟨k + 1, _, _, _, by omega, rfl, HF.out.1, HF.out.2.1.mono (by omega), HF.out.2.2.1, HF.out.2.2.2⟩
        case measure => simp [lenOf']; omega
    · obtain rfl : k = n := by omega
      by_cases k0 : k = 0
      · subst k0
        go_wp2_with fail
        obtain ⟨wx, hwx⟩ : ∃ x, x = wr := ⟨_, rfl⟩
        rw [← hwx] at hr ho Hrow hz
        rw [← hwx]
        clear hwx
        go_wp2_with fail
        refine (one_lit g _ [1, 1, 2, 0, 3, 8] _ 6 6 wx _ hr rfl rfl (by omega) (by omega) (by omega)).mono ?_
        rintro e w8 ⟨v8, _, rfl, hr8, ho8⟩
        go_wp2_with fail
        refine (one_lit g _ [1, 1, 2, 0, 3, -1] _ 6 6 w8 _ hr8 rfl rfl (by omega) (by omega) (by omega)).mono ?_
        rintro e w9 ⟨v9, _, rfl, hr9, ho9⟩
        have HX := hide (show _ ∧ _ from ⟨(Hrow.out.only (ho8.trans ho9) (by omega)).mono (show W.heap.size ≤ w2.heap.size by omega), Only.up (Only.trans ho (ho8.trans ho9)) HB1.out hz1 hg⟩)
        clear ho8 ho9 hr8 hr9
        go_wp2_with fail
        go_ret4
        exact ⟨_, _, _, _, _, _, _, rfl, HX.out.1, by omega, HX.out.2⟩
      go_wp2_with fail
      refine (pick_rd g _ _ _ hr (by omega)).mono ?_
      rintro e w7 ⟨v7, rfl, hv7, hr7, ho7⟩
      have ho7' := hide (ho.trans ho7)
      have Hrow7 := hide (Hrow.out.only ho7 (by omega))
      have hz7 : w2.heap.size ≤ w7.heap.size := Nat.le_trans hz ho7.size
      clear hv7 ho7 hr
      by_cases v70 : v7 = 0
      · subst v70
        go_wp2_with fail
        refine (one_lit g _ [-1, 128] _ 2 2 w7 _ hr7 rfl rfl (by omega) (by omega) (by omega)).mono ?_
        rintro e w10 ⟨v10, _, rfl, hr10, ho10⟩
        obtain ⟨b0, rfl, q1, q2, q3, q4, q5⟩ := (Hrow7.out.only ho10 (by omega)).at_ (i := 0) (by omega)
        have Q := hide (q5 v10)
        have ho11 := hide (ho7'.out.trans ho10)
        clear q5 ho10
        have hx2 := hr10.set1 (p := ⟨b0, 0, none⟩) (by dsimp only; omega) (.int .i64 v10)
        have hx3 := hide (ho11.out.setCell (p := ⟨b0, 0, none⟩) (.inr (by dsimp only; omega)) (.int .i64 v10))
        obtain ⟨wx, hwx⟩ : ∃ x, x = w10.setCell ⟨b0, 0, none⟩ (.int .i64 v10) := ⟨_, rfl⟩
        have hsx : wx.heap.size = w10.heap.size := by rw [hwx]; simp [World.setCell]
        have HQ := hide (Q.out)
        rw [← hwx] at hx2 hx3 HQ
        clear Q
        have hzx : w2.heap.size ≤ wx.heap.size := by omega
        go_wp2_with fail
        rw [← hwx, ← hsx]
        refine (one_lit g _ [1, 1, 2, 0, 3, 8] _ 6 6 wx _ hx2 rfl rfl (by omega) (by omega) (by omega)).mono ?_
        rintro e w8 ⟨v8, _, rfl, hr8, ho8⟩
        go_wp2_with fail
        refine (one_lit g _ [1, 1, 2, 0, 3, -1] _ 6 6 w8 _ hr8 rfl rfl (by omega) (by omega) (by omega)).mono ?_
        rintro e w9 ⟨v9, _, rfl, hr9, ho9⟩
        have HX := hide (show _ ∧ _ from ⟨(HQ.out.only (ho8.trans ho9) (by omega)).mono (show W.heap.size ≤ w2.heap.size by omega), Only.up (Only.trans hx3.out (ho8.trans ho9)) HB1.out hz1 hg⟩)
        clear ho8 ho9 hr8 hr9
        go_wp2_with fail
        go_ret4
        exact ⟨_, _, _, _, _, _, _, rfl, HX.out.1, by omega, HX.out.2⟩
      have v71 : (v7 == 0) = false := by simp [v70]
      clear v70
      go_wp2_with fail
      refine (one_lit g _ [1, 1, 2, 0, 3, 8] _ 6 6 w7 _ hr7 rfl rfl (by omega) (by omega) (by omega)).mono ?_
      rintro e w8 ⟨v8, _, rfl, hr8, ho8⟩
      go_wp2_with fail
      refine (one_lit g _ [1, 1, 2, 0, 3, -1] _ 6 6 w8 _ hr8 rfl rfl (by omega) (by omega) (by omega)).mono ?_
      rintro e w9 ⟨v9, _, rfl, hr9, ho9⟩
      have HX := hide (show _ ∧ _ from ⟨(Hrow7.out.only (ho8.trans ho9) (by omega)).mono (show W.heap.size ≤ w2.heap.size by omega), Only.up (Only.trans ho7'.out (ho8.trans ho9)) HB1.out hz1 hg⟩)
      clear ho8 ho9 hr8 hr9
      go_wp2_with fail
      go_ret4
      exact ⟨_, _, _, _, _, _, _, rfl, HX.out.1, by omega, HX.out.2⟩

end Go.Proofs.Ytkalecdjcdgodaa
