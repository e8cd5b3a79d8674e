/-
  QuotientsOf, the program's side. Conditions: the numbers can be read.
-/
import Derived.Test.YthafmoofemfdmaaQuot
import Derived.Test.YthafmoofemfdmaaConcat
namespace Go.Proofs.Ythafmoofemfdmaa
open Go.RowKit

theorem Row.capMax {w : World} {base n c : Nat} {A : Option Addr} {xs : List Int} (h : Row w base A n c xs) : c ≤ 9223372036854775807 := by
  rcases h.2.2 with ⟨h1, h2⟩ | ⟨g, cap, cur, h1, h2, h3, h4, h5, _⟩
  · injection h1 with h1 _ h3; omega
  · injection h1 with h1 _ h6
    unfold maxLen at h5; omega
theorem Row.zerosIn {w : World} {base : Nat} (k c : Nat) (hk : k ≤ c) (hb : base ≤ w.heap.size) (hm : c ≤ 1000000) : Row (w.alloc (.cells (madeCells #[.int .i64 0] c) 3)) base (some ⟨w.heap.size, 0, none⟩) k c (List.replicate k 0) :=
  ⟨by simp, by simp, .inr ⟨w.heap.size, c, _, rfl, hb, heap_alloc_new w _, hk, by unfold maxLen; omega, by simp [madeCells], by simp [toList_madeCells_one, List.take_replicate, Nat.min_eq_left hk]⟩⟩

set_option maxRecDepth 100000 in
set_option maxHeartbeats 2000000 in
theorem QuotientsOfI_any (p : Int) (A1 : Option Addr) (n1 c1 : Nat) (f : Nat → Int) (A2 : Option Addr) (n2 c2 : Nat) (g : Nat → Int) (w : World) (hn1 : n1 ≤ 1048576) (h1 : Ints w w.heap.size A1 n1 f) (hn2 : n2 ≤ 1048576) (h2 : Ints w w.heap.size A2 n2 g) :
    Calls Try.prog 56 #[.int .i64 p, .slice A1 n1 c1, .slice A2 n2 c2] w (QtPost p n1 f n2 g w) := by
  have HI1 := hide (fun (W : World) (hb : Below w.heap.size w W) => h1.keep hb hb.size)
  have HI2 := hide (fun (W : World) (hb : Below w.heap.size w W) => h2.keep hb hb.size)
  have HD := hide (fun (A : Option Addr) (c : Nat) (W : World) (B : Nat) (hl : n1 + n2 ≤ 7) (hp : 2 ≤ p ∧ p ≤ 7) (h : Row W B A (n1 + n2) c (listOf n1 f ++ listOf n2 g)) => differentI_any p A (n1 + n2) c (qtC n1 f n2 g) W (by omega) h.cap h.capMax hp h.ints)
  clear h1 h2
  go_enter Try.func56, Try.ntmps56
  go_upto_region 2 with (first | (go_at_call 60; refine (fieldOf_any _ _).mono ?_; rintro e w' ⟨rfl, hb0⟩))
  go_cut [9, 50] (fun _ v wx => v = .bool (!qtOk p n1 f n2 g) ∧ Below w.heap.size w wx ∧ Blk wx w.heap.size 58 #[.int .i64 0, .slice none 0 0])
  case first =>
    have hB : Below w.heap.size w w' := up hb0 (by go_grown) (by simp)
    have hK : Blk w' w.heap.size 58 #[.int .i64 0, .slice none 0 0] := (Blk.new w _ _).below hb0 (by simp)
    cases hp : isP p
    · go_wp2_with (first | (go_at_call 61; refine (within_any _ _ _ _).mono ?_; rintro e w' ⟨rfl, rfl⟩))
      go_meet
      exact ⟨by simp [qtOk, hp], hB, hK⟩
    have hp7 : 2 ≤ p ∧ p ≤ 7 := by rcases isP_true.1 hp with rfl | rfl | rfl | rfl <;> omega
    cases hk : inR n1 1 4
    · go_wp2_with (first | (go_at_call 61; refine (within_any _ _ _ _).mono ?_; rintro e w' ⟨rfl, rfl⟩))
      go_meet
      exact ⟨by simp [qtOk, hp, hk], hB, hK⟩
    have hk1 := inR_true.1 hk
    by_cases hn0 : n2 = 0
    · subst hn0
      have hf : inR ((0 : Nat) : Int) 1 (7 - (n1 : Int)) = false := inR_false.2 (by omega)
      have HQF := hide (show qtOk p n1 f _ g = false by rw [qtOk, hf]; simp)
      clear hf
      go_wp2_with (first | (go_at_call 61; refine (within_any _ _ _ _).mono ?_; rintro e w' ⟨rfl, rfl⟩))
      go_meet
      exact ⟨by rw [HQF.out]; rfl, hB, hK⟩
    have hn0I : ¬ (n2 : Int) < 1 := by omega
    by_cases h7 : 7 < n1 + n2
    · have h7I : (7 : Int) < (n1 : Int) + (n2 : Int) := by omega
      have hf : inR (n2 : Int) 1 (7 - (n1 : Int)) = false := inR_false.2 (by omega)
      have HQF := hide (show qtOk p n1 f _ g = false by rw [qtOk, hf]; simp)
      clear hf
      go_wp2_with (first | (go_at_call 61; refine (within_any _ _ _ _).mono ?_; rintro e w' ⟨rfl, rfl⟩))
      go_meet
      exact ⟨by rw [HQF.out]; rfl, hB, hK⟩
    have h7I : ¬ (7 : Int) < (n1 : Int) + (n2 : Int) := by omega
    have hf : inR (n2 : Int) 1 (7 - (n1 : Int)) = true := inR_true.2 (by omega)
    have HE1 := hide (show qtOk p n1 f n2 g = diffB p (n1 + n2) (qtC n1 f n2 g) by simp [qtOk, hp, hk, hf])
    have HCC := hide (fun t => slConcat2_any w'.heap.size 0 2 A1 n1 c1 f A2 n2 c2 g (w'.alloc (.cells #[.slice A1 n1 c1, .slice A2 n2 c2] t)) (by simp) (by simp) (by simp) (by omega) (by omega) (HI1.out _ (hB.alloc hB.size _)) (HI2.out _ (hB.alloc hB.size _)))
    have hlt := hK.lt
    have HB := hide hB
    have HK := hide hK
    clear hf hB hK
    go_wp2_with (first | (go_at_call 61; refine (within_any _ _ _ _).mono ?_; rintro e w' ⟨rfl, rfl⟩))
    refine (HCC.out _).mono ?_
    rintro e w5 ⟨A5, c5, rfl, hr5, hb5⟩
    have HX := hide (show _ ∧ _ ∧ _ from ⟨hr5, (HB.out.alloc HB.out.size _).trans (hb5.mono (by have := HB.out.size; simp; omega)), (HK.out.alloc _).below hb5 (by simp; omega)⟩)
    clear hr5 hb5
    go_wp2_with fail
    refine (HD.out _ _ _ _ (by omega) hp7 HX.out.1).mono ?_
    rintro e w6 ⟨rfl, hb6⟩
    have HY := hide (show _ ∧ _ from ⟨up hb6 HX.out.2.1 HX.out.2.1.size, HX.out.2.2.below hb6 HX.out.2.2.lt⟩)
    clear hb6
    go_wp2_with fail
    go_meet
    exact ⟨by rw [HE1.out, decide_eq_false (show ¬ (n2 : Int) < 1 by omega), decide_eq_false (show ¬ (7 : Int) < (n1 : Int) + (n2 : Int) by omega)]; rfl, HY.out.1, HY.out.2⟩
  case rest =>
    clear hb0
    obtain ⟨w1, rfl⟩ : ∃ x, x = wc := ⟨_, rfl⟩
    obtain ⟨rfl, hb1, hK⟩ := hcut
    have k0 := hK.at_ (i := 0) rfl
    have k1 := hK.at_ (i := 1) rfl
    have kf := hK.frozen
    clear HD
    cases hin : qtOk p n1 f n2 g
    · have H := hide (fun w' hb => qtPost_no (w := w) (w' := w') hin hb)
      go_wp2_with fail
      exact bodyPost_ret (v := .tuple #[.agg #[.int .i64 0, .slice none 0 0], .bool false]) (by simp [results, Try.results56, go_sem, k0, k1, kf]) rfl (H.out _ (by go_grown))
    obtain ⟨hP, hp, hk, hmk, hf, hg, hd⟩ := qt_ok hin
    have HIN := hide hin
    have HK := hide hK
    have HF := hide hf
    have HG := hide hg
    have HDF := hide hd
    have HB1 := hide hb1
    have HP := hide hP
    have hz1 : w.heap.size < w1.heap.size := hK.lt
    clear hin hK hf hg hd k0 k1 kf hb1 hP
    have hmk1 := run_make0 (P := Try.prog) 36 28 (.slice none 0 0) 24 Try.underlying36 info_ints rfl .i64 .i64 n1 (by omega) (by omega)
    have hmk2 : ∀ W : World, (Instr.makeSlice 28 (.int .i64 (n1 : Int)) (.int .i64 ((n1 : Int) + (n2 : Int)))).run Try.prog W = .ok (.slice (some ⟨W.heap.size, 0, none⟩) n1 (n1 + n2)) (W.alloc (.cells (madeCells #[.int .i64 0] (n1 + n2)) 3)) := fun W => by
      obtain ⟨i0, hi, hz, hz1', hz2⟩ := parts_of info_int
      have h := run_makeSlice (P := Try.prog) W 28 3 i0 (.int .i64 0) Try.underlying28 hi hz .i64 .i64 (n1 : Int) ((n1 : Int) + (n2 : Int)) (by omega) (by omega) (by rw [hz1']; omega) (by rw [hz2]; omega) (by omega)
      rw [hz1'] at h
      have e1 : ((n1 : Int) + (n2 : Int)).toNat = n1 + n2 := by omega
      rw [e1, Int.toNat_natCast, Nat.mul_one] at h
      exact h
    go_wp2_with fail
    go_loopw [10, 57] (fun v i wr => ∃ (x : Nat) (A : Option Addr) (c : Nat) (R : List Sl), x ≤ n1 ∧ i = .int .i64 x ∧ v = .slice A x c ∧ TabD wr w1.heap.size wr.heap.size A x c R ∧ TbC R x (n1 + n2) (qtM p n1 f g) ∧ Below w1.heap.size w1 wr) (fun _ i _ => n1 - (intOf i).toNat)
    case atStart => exact ⟨0, _, _, [], by omega, rfl, rfl, TabD.emptyAt rfl _ _ (by omega) (by omega), TbC.nil _ _, by go_grown⟩
    case round =>
      obtain ⟨x, A, c, R, hx, rfl, rfl, ht, hc, hb⟩ := hrel
      obtain ⟨wo, hwo⟩ : ∃ x, x = wr := ⟨_, rfl⟩
      rw [← hwo] at ht hb
      rw [← hwo]
      clear hwo
      have HT := hide ht
      have HC := hide hc
      have HB := hide hb
      have hz := hb.size
      clear ht hc hb hmk1
      by_cases hlt : x < n1
      · have hxI : (x : Int) < (n1 : Int) := by omega
        have hxI0 : (0 : Int) ≤ (x : Int) := by omega
        obtain ⟨b, off, rfl, hbl, hcc⟩ := HI1.out wo (up HB.out HB1.out (by omega)) (by omega)
        have hcx := hcc x hlt
        have hfx := HF.out x hlt
        have hr0 := Row.zerosIn (w := wo) (base := wo.heap.size) n1 (n1 + n2) (by omega) (Nat.le_refl _) (by omega)
        obtain ⟨b0, e0, y1, y2, y3, y4, y5⟩ := hr0.at_ (i := x) hlt
        obtain rfl : wo.heap.size = b0 := by simpa using e0
        rw [show (List.replicate n1 (0 : Int)).getD x 0 = 0 by simp [List.getD, List.getElem?_replicate, hlt]] at y3
        have h5 := y5 1
        rw [qt_row0 (p := p) (f := f) (g := g)] at h5
        have e6 : (wo.alloc (.cells (madeCells #[.int .i64 0] (n1 + n2)) 3)).setCell ⟨wo.heap.size, x, none⟩ (.int .i64 1) = wo.alloc (.cells ((madeCells #[.int .i64 0] (n1 + n2)).setIfInBounds x (.int .i64 1)) 3) := by go_simp
        rw [e6] at h5
        have H5 := hide h5
        clear h5 y5 e0 hr0 e6 hcc
        go_wp2_with fail
        clear hmk2 y3 y4 hcx
        go_loopw [13, 75] (fun v i wr => ∃ (j : Nat) (A3 : Option Addr) (c3 : Nat), j ≤ n2 ∧ i = .int .i64 j ∧ v = .slice A3 (n1 + j) c3 ∧ Row wr wo.heap.size A3 (n1 + j) c3 (listOf (n1 + j) (qtM p n1 f g x)) ∧ Below wo.heap.size wo wr) (fun _ i _ => n2 - (intOf i).toNat)
        case atStart => exact ⟨0, _, _, by omega, rfl, rfl, H5.out, by go_grown⟩
        case round =>
          obtain ⟨j, A3, c3, hj, rfl, rfl, hrow, hbi⟩ := hrel
          have Hrow := hide hrow
          have HBI := hide hbi
          have hzi := hbi.size
          clear hrow hbi
          by_cases hlj : j < n2
          · obtain ⟨bg, og, rfl, hbg, hcg⟩ := HI2.out wr (up (up HBI.out HB.out hz) HB1.out (by omega)) (by omega)
            have hcj := hcg j hlj
            have hgj := HG.out j hlj
            obtain ⟨hd1, hd2⟩ := HDF.out x j hlt hlj
            have HRS := hide (qt_snoc (p := p) (n1 := n1) (x := x) (j := j) (f := f) (g := g))
            have HRE := hide (fun W => rest_any p (f x - g j) W hp (by omega))
            have HIV := hide (fun W => inverseI_any p ((f x - g j) % p) W HP.out hd1 hd2)
            have hjI : (j : Int) < (n2 : Int) := by omega
            have hjI0 : (0 : Int) ≤ (j : Int) := by omega
            clear hcg
            generalize (f x - g j) % p = z at *
            generalize f x = fx at *
            generalize g j = gj at *
            generalize inv p z = y at *
            go_wp2_with fail
            refine (HRE.out _).mono ?_
            rintro e _ ⟨rfl, rfl⟩
            go_wp2_with fail
            refine (HIV.out _).mono ?_
            rintro e _ ⟨rfl, rfl⟩
            go_wp2_with (at_builtin; refine push_int rfl _ _ rfl _ rfl Hrow.out y _ rfl (by omega) hzi ?_; intro A4 c4 w2 hr2 hb2 hg2 hat2; have HX := hide (show Row w2 wo.heap.size A4 (n1 + (j + 1)) c4 (listOf (n1 + (j + 1)) (qtM p n1 f g x)) ∧ Below wo.heap.size wo w2 from ⟨by rw [HRS.out]; exact hr2, HBI.out.trans hb2⟩); clear hr2 hb2 hg2 hat2)
            go_roundw
            case rel => first | exact ⟨j + 1, A4, c4, by omega, by go_num, rfl, HX.out.1, HX.out.2⟩ | ((repeat apply Exists.intro); exact ⟨⟨j + 1, A4, c4, by omega, by go_num, rfl, HX.out.1, HX.out.2⟩, rfl⟩)
            case measure => simp [intOf]; omega
          · obtain rfl : j = n2 := by omega
            have HT1 := hide (HT.out.keep HBI.out)
            go_wp2_with (at_builtin; refine push_row rfl _ _ rfl R rfl HT1.out.tab A3 (n1 + j) c3 (listOf (n1 + j) (qtM p n1 f g x)) (Hrow.out.mono (by omega)) _ rfl (by omega) (by omega) ?_; intro A5 c5 w2 ht2 hb2 hg2 hat2; have z2 := hb2.size; have HX := hide (show _ ∧ _ from ⟨HT1.out.push (top' := w2.heap.size) Hrow.out ht2 (by omega) (fun q hq => by have := (Hrow.out.blk q (by rw [ownBlock_slice]; exact hq)).2; omega), (HB.out.trans (HBI.out.mono hz)).trans (hb2.mono (by omega))⟩); clear ht2 hb2 hg2 hat2)
            have HP2 := hide (HC.out.push (A := A3) (c := c3) (listOf_len (n1 + j) (qtM p n1 f g x)) (fun q hq => listOf_getD (qtM p n1 f g x) hq))
            go_roundw
            case rel => first | exact ⟨x + 1, A5, c5, _, by omega, by go_num, rfl, HX.out.1, HP2.out, HX.out.2⟩ | ((repeat apply Exists.intro); exact ⟨⟨x + 1, A5, c5, _, by omega, by go_num, rfl, HX.out.1, HP2.out, HX.out.2⟩, rfl⟩)
            case measure => simp [intOf]; omega
      · obtain rfl : x = n1 := by omega
        have hK := HK.out.below HB.out hz1
        have g0 := hK.at_ (i := 0) rfl
        have g1 := hK.at_ (i := 1) rfl
        have gf := hK.frozen
        clear hK
        go_wp2_with fail
        refine bodyPost_ret (v := .tuple #[.agg #[.int .i64 p, .slice A x c], .bool true]) (by simp [results, Try.results56, go_sem, g0, g1, gf]) rfl ?_
        refine qtPost_yes HIN.out HT.out HC.out ?_ ?_ (by omega)
        · exact ((HB1.out.trans (HB.out.mono (by omega))).setCell (p := ⟨w.heap.size, 0, none⟩) (Nat.le_refl _) _).setCell (p := ⟨w.heap.size, 1, none⟩) (Nat.le_refl _) _
        · exact ((Outside.refl w.heap.size _ wo).set_ (p := ⟨w.heap.size, 0, none⟩) (by dsimp only; omega) _).set_ (p := ⟨w.heap.size, 1, none⟩) (by dsimp only; omega) _
end Go.Proofs.Ythafmoofemfdmaa
