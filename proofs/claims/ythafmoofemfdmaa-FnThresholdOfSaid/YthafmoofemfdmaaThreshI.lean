/-
  ThresholdOf, the program's side. Conditions: none.
-/
import Derived.Test.YthafmoofemfdmaaThresh
import Derived.RegionTactic
import Derived.ChangeAlike
namespace Go.Proofs.Ythafmoofemfdmaa
open Go.RowKit

set_option maxHeartbeats 2000000 in
theorem ThresholdOfI_any (p n k : Int) (w : World) :
    Calls Try.prog 34 #[.int .i64 p, .int .i64 n, .int .i64 k] w (ThPost p n k w) := by
  go_enter Try.func34, Try.ntmps34
  go_upto_region 2 with (first | (go_at_call 60; refine (fieldOf_any _ _).mono ?_; rintro e w' ⟨rfl, hb0⟩))
  go_cut [9, 35] (fun _ v wx => v = .bool (!thIn p n k) ∧ Below w.heap.size w wx ∧ Blk wx w.heap.size 44 #[.int .i64 0, .slice none 0 0, .slice none 0 0])
  case first =>
    have hB : Below w.heap.size w w' := up hb0 (by go_grown) (by simp)
    have hK : Blk w' w.heap.size 44 #[.int .i64 0, .slice none 0 0, .slice none 0 0] := (Blk.new w _ _).below hb0 (by simp)
    cases hp : isP p
    · go_wp2_with (first | (go_at_call 61; refine (within_any _ _ _ _).mono ?_; rintro e w' ⟨rfl, rfl⟩))
      go_meet
      exact ⟨by simp [thIn, hp], hB, hK⟩
    have hp4 : (2 ≤ p ∧ p - 1 < 5) ∨ (5 < p - 1 ∧ p ≤ 7) := by rcases isP_true.1 hp with rfl | rfl | rfl | rfl <;> omega
    rcases hp4 with ⟨h2, h5⟩ | ⟨h5, h7⟩
    · have em : thIn p n k = (inR n 1 (p - 1) && inR k 1 (if n < 4 then n else 4)) := by rw [thIn, hp, if_pos h5]; rfl
      cases hn : inR n 1 (p - 1)
      · go_wp2_with (first | (go_at_call 61; refine (within_any _ _ _ _).mono ?_; rintro e w' ⟨rfl, rfl⟩))
        go_meet
        exact ⟨by rw [em, hn]; rfl, hB, hK⟩
      have hn1 := inR_true.1 hn
      by_cases h4 : n < 4
      · rw [hn, if_pos h4] at em
        go_wp2_with (first | (go_at_call 61; refine (within_any _ _ _ _).mono ?_; rintro e w' ⟨rfl, rfl⟩))
        go_meet
        exact ⟨by rw [em]; simp, hB, hK⟩
      · rw [hn, if_neg h4] at em
        by_cases h6 : n = 4
        · subst h6
          go_wp2_with (first | (go_at_call 61; refine (within_any _ _ _ _).mono ?_; rintro e w' ⟨rfl, rfl⟩))
          go_meet
          exact ⟨by rw [em]; simp, hB, hK⟩
        · have h6' : 4 < n := by omega
          clear h6 h4
          go_wp2_with (first | (go_at_call 61; refine (within_any _ _ _ _).mono ?_; rintro e w' ⟨rfl, rfl⟩))
          go_meet
          exact ⟨by rw [em]; simp, hB, hK⟩
    · have em : thIn p n k = (inR n 1 5 && inR k 1 (if n < 4 then n else 4)) := by rw [thIn, hp, if_neg (by omega)]; rfl
      cases hn : inR n 1 5
      · go_wp2_with (first | (go_at_call 61; refine (within_any _ _ _ _).mono ?_; rintro e w' ⟨rfl, rfl⟩))
        go_meet
        exact ⟨by rw [em, hn]; rfl, hB, hK⟩
      have hn1 := inR_true.1 hn
      by_cases h4 : n < 4
      · rw [hn, if_pos h4] at em
        go_wp2_with (first | (go_at_call 61; refine (within_any _ _ _ _).mono ?_; rintro e w' ⟨rfl, rfl⟩))
        go_meet
        exact ⟨by rw [em]; simp, hB, hK⟩
      · rw [hn, if_neg h4] at em
        by_cases h6 : n = 4
        · subst h6
          go_wp2_with (first | (go_at_call 61; refine (within_any _ _ _ _).mono ?_; rintro e w' ⟨rfl, rfl⟩))
          go_meet
          exact ⟨by rw [em]; simp, hB, hK⟩
        · have h6' : 4 < n := by omega
          clear h6 h4
          go_wp2_with (first | (go_at_call 61; refine (within_any _ _ _ _).mono ?_; rintro e w' ⟨rfl, rfl⟩))
          go_meet
          exact ⟨by rw [em]; simp, hB, hK⟩
  case rest =>
    clear hb0
    obtain ⟨w1, rfl⟩ : ∃ x, x = wc := ⟨_, rfl⟩
    obtain ⟨rfl, hb1, hK⟩ := hcut
    have k0 := hK.at_ (i := 0) rfl
    have k1 := hK.at_ (i := 1) rfl
    have k2 := hK.at_ (i := 2) rfl
    have kf := hK.frozen
    cases hin : thIn p n k
    · have H := hide (fun w' hb => thPost_no (w := w) (w' := w') hin hb)
      go_wp2_with fail
      exact bodyPost_ret (v := .tuple #[.agg #[.int .i64 0, .slice none 0 0, .slice none 0 0], .bool false]) (by simp [results, Try.results34, go_sem, k0, k1, k2, kf]) rfl (H.out _ (by go_grown))
    obtain ⟨hp, hn, hk⟩ := th_bd hin
    obtain ⟨n, rfl⟩ := Int.eq_ofNat_of_zero_le (show 0 ≤ n by omega)
    obtain ⟨k, rfl⟩ := Int.eq_ofNat_of_zero_le (show 0 ≤ k by omega)
    have HIN := hide hin
    have HK := hide hK
    clear hin hK k0 k1 k2 kf
    have hmk1 := run_make0 (P := Try.prog) 36 28 (.slice none 0 0) 24 Try.underlying36 info_ints rfl .i64 .i64 n (by omega) (by omega)
    have hmk2 := run_make0 (P := Try.prog) 28 3 (.int .i64 0) 8 Try.underlying28 info_int rfl .i64 .i64 n (by omega) (by omega)
    have hmk3 := run_make0 (P := Try.prog) 28 3 (.int .i64 0) 8 Try.underlying28 info_int rfl .i64 .i64 k (by omega) (by omega)
    go_wp2_with fail
    go_cut [10] (fun v wx => ∃ (S : Nat) (A : Option Addr) (c : Nat) (O : Option Addr) (d : Nat), v = .pointer (some ⟨S, 0, none⟩) ∧ Sch wx (w.heap.size + 1) wx.heap.size S p 0 A c [] O d [] ∧ Below w1.heap.size w1 wx ∧ w.heap.size + 1 ≤ S)
    case first =>
      have z1 := hb1.size
      go_region
      all_goals
        go_wp2_with fail
        go_meet
        (repeat apply Exists.intro)
        refine ⟨rfl, ?s, ?b, by have := HK.out.lt; omega⟩
        case s =>
         apply Sch.mk
         case blk =>
           refine Blk.drew ?_
           first | exact Blk.newAt (by simp) _ _ | exact Blk.alloc (Blk.newAt (by simp) _ _) _ | exact Blk.alloc (Blk.alloc (Blk.newAt (by simp) _ _) _) _
         case tab =>
           refine TabD.drew ?_
           first | exact TabD.emptyAt (by simp) _ _ (by have := HK.out.lt; omega) (by omega) | exact TabD.alloc (TabD.emptyAt (by simp) _ _ (by have := HK.out.lt; omega) (by omega)) _ | exact TabD.alloc (TabD.alloc (TabD.emptyAt (by simp) _ _ (by have := HK.out.lt; omega) (by omega)) _) _
         case own =>
           refine Row.drew ?_
           first | exact Row.emptyAt (by simp) _ _ (by have := HK.out.lt; omega) (by omega) | exact Row.alloc (Row.emptyAt (by simp) _ _ (by have := HK.out.lt; omega) (by omega)) _ | exact Row.alloc (Row.alloc (Row.emptyAt (by simp) _ _ (by have := HK.out.lt; omega) (by omega)) _) _
         case under =>
           intro q hq; simp at hq; simp; omega
         case sep => simp
        case b => first | go_grown | exact Below.drew (by go_grown)
    case rest =>
      obtain ⟨w2, rfl⟩ : ∃ x, x = wc := ⟨_, rfl⟩
      obtain ⟨S, A0, c0, O0, d0, rfl, hs0, hb2, hSS⟩ := hcut
      have HS0 := hide hs0
      have hb02 : Below w.heap.size w w2 := up hb2 hb1 hb1.size
      have HK2 := hide (HK.out.below hb2 HK.out.lt)
      clear hs0 hmk1 hmk2
      go_wp2_with fail
      go_loopw [44] (fun i wr => ∃ (x : Nat) (A : Option Addr) (c : Nat) (R : List Sl) (O : Option Addr) (d : Nat) (xs : List Int), x ≤ n ∧ i = .int .i64 x ∧ Sch wr (w.heap.size + 1) wr.heap.size S p x A c R O d xs ∧ ThT p k x R xs ∧ Below w.heap.size w wr ∧ Blk wr w.heap.size 44 #[.int .i64 0, .slice none 0 0, .slice none 0 0]) (fun i _ => n - (intOf i).toNat)
      case atStart => exact ⟨0, _, _, [], _, _, [], by omega, rfl, HS0.out, ⟨rfl, rfl⟩, hb02, HK2.out⟩
      case round =>
        obtain ⟨x, A, c, R, O, d, xs, hx, rfl, hs, ht, hb, hr0⟩ := hrel
        obtain ⟨wo, rfl⟩ : ∃ x, x = wr := ⟨_, rfl⟩
        have HS := hide hs
        have HT := hide ht
        have HR0 := hide hr0
        have hz := hb.size
        have hlt0 := hs.blk.lt
        have hlt1 := hr0.lt
        clear hs ht hr0
        by_cases hlt : x < n
        · go_wp2_with fail
          clear hmk3
          go_loopw [12, 50] (fun v i wr => ∃ (j : Nat) (A1 : Option Addr) (c1 : Nat), j ≤ k ∧ i = .int .i64 j ∧ v = .slice A1 j c1 ∧ Row wr wo.heap.size A1 j c1 (thRow p j x) ∧ Below wo.heap.size wo wr) (fun _ i _ => k - (intOf i).toNat)
          case atStart => exact ⟨0, _, _, by omega, rfl, rfl, Row.empty k _ (Nat.le_refl _) (by omega), by go_grown⟩
          case round =>
            obtain ⟨j, A1, c1, hj, rfl, rfl, hrow, hbi⟩ := hrel
            have Hrow := hide hrow
            have hzi := hbi.size
            clear hrow
            by_cases hlj : j < k
            · have HPB := hide (powerP_any ((x : Int) + 1) j wr (by omega) (by omega))
              have hpb := pw_bd (x := (x : Int) + 1) (by omega) j (by omega)
              have HRE := hide (fun W => rest_any p (pw ((x : Int) + 1) j) W hp (by omega))
              have HRS := hide (thRow_succ p j x)
              rw [← pw_mod (p := p) (by omega) j] at HRS
              generalize pw ((x : Int) + 1) j = y0 at *
              go_wp2_with fail
              refine (HPB.out).mono ?_
              rintro e _ ⟨rfl, rfl⟩
              go_wp2_with fail
              refine (HRE.out _).mono ?_
              rintro e _ ⟨rfl, rfl⟩
              generalize y0 % p = y at *
              go_wp2_with (at_builtin; refine push_int rfl _ _ rfl _ rfl Hrow.out y _ rfl (by omega) hzi ?_; intro A2 c2 w2 hr2 hb2 hg2 hat2)
              have HF := hide (show _ ∧ _ from ⟨hr2, hb2⟩)
              clear hr2 hb2 hg2 hat2
              go_roundw
              case rel => first | exact ⟨j + 1, A2, c2, by omega, by go_num, rfl, by rw [HRS.out]; exact HF.out.1, hbi.trans HF.out.2⟩ | ((repeat apply Exists.intro); exact ⟨⟨j + 1, A2, c2, by omega, by go_num, rfl, by rw [HRS.out]; exact HF.out.1, hbi.trans HF.out.2⟩, rfl⟩)
              case measure => simp [intOf]; omega
            · obtain rfl : j = k := by omega
              have HS1 := hide (HS.out.keep hbi)
              have hS := HS1.out.blk
              have s1 := hS.at_ (i := 1) rfl
              have HRT := hide (HT.out.push (A1 := A1) (c1 := c1))
              generalize thRow p j x = ys at *
              clear hS
              go_upto_region 15 with (at_builtin; refine push_row rfl _ _ rfl R rfl HS1.out.tab.tab A1 j c1 ys (Hrow.out.mono (by omega)) _ rfl (by omega) (by omega) ?_; intro A2 c2 w2 ht2 hb2 hg2 hat2; obtain ⟨k1, k2, k3⟩ := HS1.out.row (n1 := j) ht2 hb2 hg2; have s1' := k3.at_ (i := 1) rfl; have f1 := k3.frozen 1; have z2 := hb2.size; have HF := hide (show _ ∧ _ ∧ _ ∧ _ ∧ _ from ⟨ht2, hb2, hg2, k2, k1⟩); clear k1 k2 k3 ht2 hb2 hg2 hat2)
              refine nameCode (fun wx => Hid (wx = w2.setCell ⟨S, 1, none⟩ (.slice A2 (x + 1) c2)) ∧ Row wx (w.heap.size + 1) O x d xs ∧ Blk wx S 44 #[.int .i64 p, .slice A2 (x + 1) c2, .slice O x d] ∧ w2.heap.size ≤ wx.heap.size) ⟨hide rfl, HF.out.2.2.2.1, HF.out.2.2.2.2, by simp [World.setCell]⟩ ?_
              rintro wx ⟨hwx, hown, hblk, zx⟩
              have s2 := hblk.at_ (i := 2) rfl
              have HO := hide hown
              have HB := hide hblk
              clear hown hblk s1' f1
              go_wp2_with (at_builtin; refine push_int rfl _ _ rfl xs rfl HO.out (x : Int) _ rfl (by omega) (by omega) ?_; intro O3 d3 w3 hr3 hb3 hg3 hat3; have kb := HB.out.grown hg3 (fun e => own_blk_ne' HO.out.2 HB.out (by decide) e.symm); have s2' := kb.at_ (i := 2) rfl; have f2 := kb.frozen 2; have z3 := hb3.size; have HG := hide (show _ ∧ _ ∧ _ ∧ _ from ⟨hr3, hb3, hg3, hat3⟩); clear kb hr3 hb3 hg3 hat3)
              have HSP := hide (show Sch (w3.setCell ⟨S, 2, none⟩ (.slice O3 (x + 1) d3)) (w.heap.size + 1) w3.heap.size S p (x + 1) A2 c2 (R ++ [⟨A1, c1, ys⟩]) O3 d3 (xs ++ [(x : Int)]) from by
                have e := hwx.out
                subst e
                exact HS1.out.push Hrow.out HF.out.1 HF.out.2.1 HF.out.2.2.1 HG.out.1 HG.out.2.1 HG.out.2.2.1 HG.out.2.2.2 (by omega) hzi)
              have HBW := hide (show Below w.heap.size w w3 from by
                have e := hwx.out
                subst e
                exact (((hb.trans (hbi.mono hz)).trans (HF.out.2.1.mono (by omega))).setCell (p := ⟨S, 1, none⟩) (by dsimp only; omega) _).trans (HG.out.2.1.mono (by omega)))
              have HR3 := hide (show Blk w3 w.heap.size 44 #[.int .i64 0, .slice none 0 0, .slice none 0 0] from by
                have e := hwx.out
                subst e
                exact (((HR0.out.below hbi (by omega)).below HF.out.2.1 (by omega)).far (p := ⟨S, 1, none⟩) (by dsimp only; omega) _).below HG.out.2.1 (by omega))
              go_roundw
              case rel => first | exact ⟨x + 1, A2, c2, _, O3, d3, _, by omega, by go_num, HSP.out.mono (by simp [World.setCell]), HRT.out, HBW.out.setCell (p := ⟨S, 2, none⟩) (by dsimp only; omega) _, HR3.out.far (p := ⟨S, 2, none⟩) (by dsimp only; omega) _⟩ | ((repeat apply Exists.intro); exact ⟨⟨x + 1, A2, c2, _, O3, d3, _, by omega, by go_num, HSP.out.mono (by simp [World.setCell]), HRT.out, HBW.out.setCell (p := ⟨S, 2, none⟩) (by dsimp only; omega) _, HR3.out.far (p := ⟨S, 2, none⟩) (by dsimp only; omega) _⟩, rfl⟩)
              case measure => simp [intOf]; omega
        · obtain rfl : x = n := by omega
          have hS := HS.out.blk
          have s0 := hS.at_ (i := 0) rfl
          have s1 := hS.at_ (i := 1) rfl
          have s2 := hS.at_ (i := 2) rfl
          have g0 := HR0.out.at_ (i := 0) rfl
          have g1 := HR0.out.at_ (i := 1) rfl
          have g2 := HR0.out.at_ (i := 2) rfl
          have gf := HR0.out.frozen
          clear hS
          go_wp2_with fail
          refine bodyPost_ret (v := .tuple #[.agg #[.int .i64 p, .slice A x c, .slice O x d], .bool true]) (by simp [results, Try.results34, go_sem, g0, g1, g2, gf]) rfl ?_
          refine thPost_yes HIN.out HS.out HT.out ?_ ?_ (by omega)
          · exact ((hb.setCell (p := ⟨w.heap.size, 0, none⟩) (Nat.le_refl _) _).setCell (p := ⟨w.heap.size, 1, none⟩) (Nat.le_refl _) _).setCell (p := ⟨w.heap.size, 2, none⟩) (Nat.le_refl _) _
          · exact (((Outside.refl w.heap.size (w.heap.size + 1) wo).set_ (p := ⟨w.heap.size, 0, none⟩) (by dsimp only; omega) _).set_ (p := ⟨w.heap.size, 1, none⟩) (by dsimp only; omega) _).set_ (p := ⟨w.heap.size, 2, none⟩) (by dsimp only; omega) _
end Go.Proofs.Ythafmoofemfdmaa
