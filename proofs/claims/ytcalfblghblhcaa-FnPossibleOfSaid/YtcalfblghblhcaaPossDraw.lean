/-
  The draws of shares that may be false. Conditions: the code is a slice of bytes that can be read.
-/
import Derived.Test.YtcalfblghblhcaaShDraw
import Derived.Test.YtcalfblghblhcaaSharesS
namespace Go.Proofs.Ytcalfblghblhcaa
open Go.RowKit

theorem sh_six (p : Int) (n : Nat) (L : Nat → Nat) (M : Nat → Nat → Int) (m : Nat) (f : Nat → Int) (n1 : Nat) (g : Nat → Int) : shN p n L M m f n1 g ≤ 6 := by
  unfold shN
  cases h : shIn p n L M m f n1 g
  · simp
  · have h2 := h
    simp only [shIn, Bool.and_eq_true] at h2
    have := (vSch_rows h2.1).2.1
    simp; omega
/-- shares drawn -/
def SfP (g k : Nat) (w : World) (e : Ending) (w' : World) : Prop := ∃ B nB cB xs, e = .returned (.slice B nB cB) ∧ Row w' w.heap.size B nB cB xs ∧ nB ≤ 8 ∧ Rd w' g (k + 20) ∧ Only g w w'
set_option maxHeartbeats 2000000 in
theorem sharesFor_any (g k base : Nat) (p : Int) (A : Option Addr) (n c : Nat) (O : Option Addr) (m d : Nat) (L : Nat → Nat) (M : Nat → Nat → Int) (f : Nat → Int) (w : World) (h : Rd w g k) (hk : k ≤ 1000) (hs : Smx w base p A n c O m d L M f) (hgb : g < base) (hnm : 1 ≤ n ∧ n ≤ m) :
    Calls Try.prog 75 #[.pointer (some ⟨g, 0, none⟩), .agg #[.int .i64 p, .slice A n c, .slice O m d]] w (SfP g k w) := by
  have hg := h.lt
  have hp7 := hs.ok.hp
  have hn6 := hs.ok.hn
  have hm7 := hs.ok.hm
  have hL0 := hs.ok.hL 0 (by omega)
  have HL := hide (fun i (hi : i < n) => Nat.le_trans (hs.ok.hL i hi).2 (show 4 ≤ 1048576 by omega))
  have hn0 : 0 < n := by omega
  obtain ⟨ba, oa, rfl, hba, hca⟩ := hs.mat (by omega)
  obtain ⟨R0, C0, r0, _⟩ := hca 0 (by omega)
  simp only [Nat.add_zero] at r0
  have HM := hide (fun (W : World) (ho : Only g w W) => (hs.keep (KeepL.only ho hgb)).mat.mat)
  have HI := hide (fun (W : World) (ho : Only g w W) => (hs.keep (KeepL.only ho hgb)).ints.ints)
  have HV := hide (fun (W : World) (ho : Only g w W) => validSchemeS_any p (some ⟨ba, oa, none⟩) O n c m d L M f W (by omega) (fun i hi => Nat.le_trans (HL.out i hi) (by omega)) (by omega) (HM.out W ho) (HI.out W ho))
  have HSH := hide (fun (W : World) (ho : Only g w W) (B : Option Addr) (nB cB : Nat) (u : Nat → Int) (hnB : nB ≤ 1048576) (hu : Ints W W.heap.size B nB u) => SharesOfS_any p (some ⟨ba, oa, none⟩) n c L M O m d f B nB cB u W (by omega) HL.out (by omega) (HM.out W ho) (HI.out W ho) hnB hu)
  have hbg : ba ≠ g := by omega
  have R00 := hide r0
  have H := hide h
  clear h hs hca r0
  cases hv : vSch p n L M m f
  · rw [hv] at HV
    clear hv
    go_enter Try.func75, Try.ntmps75
    go_wp2_with fail
    refine (HV.out _ (Only.of_below (below_box _))).mono ?_
    rintro x w1 ⟨rfl, hb1⟩
    obtain ⟨hbw, hbox⟩ := box_plain hb1
    have x0 := hbox.at_ (i := 0) (v := .int .i64 p) rfl
    have x1 := hbox.at_ (i := 1) (v := .slice (some ⟨ba, oa, none⟩) n c) rfl
    have hbxl := hbox.lt
    have hz1 := hbw.size
    have HO1 := hide (Only.of_below (g := g) hbw)
    have HR1 := hide (H.out.keepB hbw hg)
    have HBX := hide hbox
    clear hb1 hbw hbox
    go_wp2_with fail
    refine (aWord_any g (k) p n _ HR1.out (by omega) hp7 (by omega)).mono ?_
    rintro e w2 ⟨B, nB, cB, xs, rfl, hrow, hnB, hr9, ho9⟩
    have HF := hide (show SfP g k w (.returned (.slice B nB cB)) w2 from ⟨B, nB, cB, xs, rfl, hrow.mono hz1, by omega, hr9.mono (by omega), HO1.out.trans ho9⟩)
    clear hrow hr9 ho9
    go_wp2_with fail
    go_ret
    exact HF.out
  rw [hv] at HV
  clear hv
  go_enter Try.func75, Try.ntmps75
  go_wp2_with fail
  refine (HV.out _ (Only.of_below (below_box _))).mono ?_
  rintro x w1 ⟨rfl, hb1⟩
  obtain ⟨hbw, hbox⟩ := box_plain hb1
  have x0 := hbox.at_ (i := 0) (v := .int .i64 p) rfl
  have x1 := hbox.at_ (i := 1) (v := .slice (some ⟨ba, oa, none⟩) n c) rfl
  have hbxl := hbox.lt
  have hz1 := hbw.size
  have HO1 := hide (Only.of_below (g := g) hbw)
  have HR1 := hide (H.out.keepB hbw hg)
  have HBX := hide hbox
  clear hb1 hbw hbox
  go_wp2_with fail
  refine (pick_rd g k _ _ HR1.out (by omega)).mono ?_
  rintro e w2 ⟨v, rfl, hv, hr2, ho2⟩
  clear x0 x1 hv
  have hk2 := HBX.out.keepG ho2 (by omega)
  have x0 := hk2.at_ (i := 0) (v := .int .i64 p) rfl
  have x1 := hk2.at_ (i := 1) (v := .slice (some ⟨ba, oa, none⟩) n c) rfl
  have hl2 := hk2.lt
  have HO2 := hide (HO1.out.trans ho2)
  have HR2 := hide hr2
  have K2 := hide hk2
  have hz2 : w.heap.size ≤ w2.heap.size := HO2.out.size
  clear hr2 ho2 hk2
  by_cases hv0 : v = 0
  · subst hv0
    go_wp2_with fail
    refine (aWord_any g (k + 1) p n _ HR2.out (by omega) hp7 (by omega)).mono ?_
    rintro e w3 ⟨B, nB, cB, xs, rfl, hrow, hnB, hr9, ho9⟩
    have HF := hide (show SfP g k w (.returned (.slice B nB cB)) w3 from ⟨B, nB, cB, xs, rfl, hrow.mono hz2, by omega, hr9.mono (by omega), HO2.out.trans ho9⟩)
    clear hrow hr9 ho9
    go_wp2_with fail
    go_ret
    exact HF.out
  have hv1 : (v == 0) = false := by simp [hv0]
  have HV0 := hide hv0
  clear hv0 x0 x1
  go_wp2_with fail
  go_loopw [5, 6] (fun ov kv wr => ∃ (j : Nat) (A1 : Option Addr) (c1 : Nat) (xs : List Int), j ≤ L 0 ∧ kv = .int .i64 j ∧ ov = .slice A1 j c1 ∧ Row wr (w.heap.size + 1) A1 j c1 xs ∧ Rd wr g (k + 1 + j) ∧ Only g w wr ∧ Blk wr w.heap.size 29 #[.int .i64 p, .slice (some ⟨ba, oa, none⟩) n c, .slice O m d]) (fun _ kv _ => L 0 - (intOf kv).toNat)
  case atStart => exact ⟨0, _, _, [], by omega, rfl, rfl, Row.lit (n := 0) (xs := []) rfl rfl (by omega), HR2.out.alloc _, HO2.out.alloc _, K2.out.alloc _⟩
  case round =>
    obtain ⟨j, A1, c1, xs, hj, rfl, rfl, hrow, hrd, ho, hkx⟩ := hrel
    have x0 := hkx.at_ (i := 0) (v := .int .i64 p) rfl
    have x1 := hkx.at_ (i := 1) (v := .slice (some ⟨ba, oa, none⟩) n c) rfl
    have x2 := hkx.at_ (i := 2) (v := .slice O m d) rfl
    have r0 := (ho.cells.1 ba oa hba.2 hbg).trans R00.out
    have lx := hkx.lt
    have hzr := ho.size
    have lb : ba < wr.heap.size := by omega
    have HR := hide hrow
    have HRD := hide hrd
    have HO := hide ho
    have HK := hide hkx
    clear hrow hrd ho hkx
    by_cases hjn : j < L 0
    · have hjI : (j : Int) < ((L 0 : Nat) : Int) := by omega
      go_wp2_with fail
      refine (pick_rd g _ _ _ HRD.out (by omega)).mono ?_
      rintro e w3 ⟨v, rfl, hv, hr3, ho3⟩
      have HR3 := hide (HR.out.keepG ho3 (by omega))
      have HRD3 := hide hr3
      have HO3 := hide (HO.out.trans ho3)
      have hz3 : w.heap.size + 1 ≤ w3.heap.size := by have := ho3.size; omega
      have K3 := hide (HK.out.keepG ho3 (by omega))
      clear hv hr3 ho3 x0 x1 x2 r0
      go_wp2_with (at_builtin; refine push_int rfl _ _ rfl xs rfl HR3.out v _ rfl (by omega) hz3 ?_; intro A3 c3 w4 hr4 hb4 hg4 hat4; have HF := hide (show _ ∧ _ ∧ _ ∧ _ from ⟨hr4, HRD3.out.keepB hb4 (show g < w.heap.size + 1 by omega), (⟨hb4.os.trans HO3.out.os, hb4.tape.trans HO3.out.tape, hb4.output.trans HO3.out.output, Nat.le_trans HO3.out.size hb4.size, fun i hi hne => (hb4.block i (by omega)).trans (HO3.out.block i hi hne)⟩ : Only g w w4), K3.out.below hb4 (Nat.lt_succ_self _)⟩); clear hr4 hb4 hg4 hat4)
      go_roundw
      case rel => first | exact ⟨j + 1, A3, c3, _, by omega, by go_num, rfl, HF.out.1, HF.out.2.1, HF.out.2.2.1, HF.out.2.2.2⟩ | ((repeat apply Exists.intro); exact ⟨⟨j + 1, A3, c3, _, by omega, by go_num, rfl, HF.out.1, HF.out.2.1, HF.out.2.2.1, HF.out.2.2.2⟩, rfl⟩)
      case measure => simp [intOf]; omega
    · obtain hjL : j = L 0 := by omega
      have hge : ¬ (j : Int) < ((L 0 : Nat) : Int) := by omega
      have HJ := hide hjL
      clear hjL
      have HSS := hide (HSH.out wr HO.out A1 j c1 _ (by omega) HR.out.ints)
      have hN := sh_six p n L M m f j (fun i => xs.getD i 0)
      unfold ShPost at HSS
      generalize shN p n L M m f j (fun i => xs.getD i 0) = N at *
      go_wp2_with fail
      refine HSS.out.mono ?_
      rintro e w5 ⟨A5, c5, rfl, hr5, hb5⟩
      have hgr : g < wr.heap.size := by omega
      have HF := hide (show SfP g k w (.returned (.slice A5 N c5)) w5 from ⟨A5, N, c5, _, rfl, hr5.mono hzr, by omega, (HRD.out.keepB hb5 hgr).mono (by omega), HO.out.then_ (hb5.mono hzr)⟩)
      clear hr5 hb5
      go_wp2_with fail
      go_ret
      exact HF.out

set_option maxHeartbeats 2000000 in
set_option maxRecDepth 100000 in
theorem DrawSecretOf_any (a : Option Addr) (len cap : Nat) (zs : List Int) (w W : World) (h : IsRow .u8 w a len cap zs) (hb : Below w.heap.size w W) :
    Calls Try.prog 55 #[.slice a len cap] W fun e w' => ∃ p A n c O m d L M f B n1 c1 xs, ∃ v : Int, e = .returned (.tuple #[.agg #[.int .i64 p, .slice A n c, .slice O m d], .slice B n1 c1, .int .i64 v]) ∧ Sdx W w' p A n c O m d L M f ∧ Row w' W.heap.size B n1 c1 xs ∧ n1 ≤ 8 := by
  have Hh := hide h
  have Hb := hide hb
  clear h hb
  go_enter Try.func55, Try.ntmps55
  go_wp2_with fail
  refine (newReader_of a len cap zs w _ Hh.out (Hb.out.alloc Hb.out.size _)).mono ?_
  rintro e w1 ⟨g, rfl, hg, hr, hb1⟩
  simp only [World.size_alloc] at hg
  have hgl := hr.lt
  have hbl : Blk w1 W.heap.size 29 #[.int .i64 0, .slice none 0 0, .slice none 0 0] := (Blk.new W _ _).below hb1 (by simp)
  have hz1 := hbl.lt
  have HBL := hide hbl
  have HB1 := hide (show Below W.heap.size W w1 from up hb1 (by go_grown) (by simp))
  clear hbl hb1
  go_wp2_with fail
  refine (someScheme_any g _ hr).mono ?_
  rintro e w2 ⟨p, A, n, c, O, m, d, L, M, f, rfl, hnm, hs, hr2, ho2⟩
  have HS := hide hs
  have HNM := hide hnm
  have HO2 := hide ho2
  have HR2 := hide hr2
  have hz2 : w1.heap.size ≤ w2.heap.size := ho2.size
  clear hs hnm ho2 hr2
  go_wp2_with fail
  refine (sharesFor_any g 100 w1.heap.size p A n c O m d L M f _ (HR2.out.alloc _) (by omega) (HS.out.keepB (below_box _)) hgl HNM.out).mono ?_
  rintro e w3 ⟨B, nB, cB, xs, rfl, hrow, hnB, hr3, ho3⟩
  have HQ := hide ((Blk.new w2 29 #[.int .i64 p, .slice A n c, .slice O m d]).keepG ho3 (by omega))
  have HRB := hide (((HBL.out.keepG HO2.out (by omega)).alloc _).keepG ho3 (by omega))
  have HS3 := hide ((HS.out.keepB (below_box _)).keep (KeepL.only ho3 hgl))
  have HO3 := hide ((HO2.out.alloc _).trans ho3)
  have HRW := hide hrow
  have HR3 := hide hr3
  have x0 := HQ.out.at_ (i := 0) rfl
  have x1 := HQ.out.at_ (i := 1) rfl
  have x2 := HQ.out.at_ (i := 2) rfl
  have hz3 : w2.heap.size < w3.heap.size := HQ.out.lt
  have hne1 : W.heap.size ≠ w2.heap.size := by omega
  clear hrow hr3 ho3
  go_wp2_with fail
  go_region_held3 (fun w' => w'.cell? ⟨w2.heap.size, 0, none⟩ = some (.int .i64 p) ∧ w'.cell? ⟨w2.heap.size, 1, none⟩ = some (.slice A n c) ∧ w'.cell? ⟨w2.heap.size, 2, none⟩ = some (.slice O m d)) (first | exact ⟨x0, x1, x2⟩ | exact ⟨y0, y1, y2⟩ | exact ⟨(cell_put3 hne1).trans y0, (cell_put3 hne1).trans y1, (cell_put3 hne1).trans y2⟩) (first | (go_at_call 65; refine (groupOf_any g 120 _ (by first | exact HR3.out | exact HR3.out.drew) (by omega)).mono ?_; rintro e w4 ⟨v, rfl, hr4, ho4'⟩; have ho4 : Only g w3 w4 := ⟨ho4'.os, ho4'.tape, ho4'.output, ho4'.size, ho4'.block⟩; have hq4 := HQ.out.keepG ho4 (by omega); have y0 := hq4.at_ (i := 0) rfl; have y1 := hq4.at_ (i := 1) rfl; have y2 := hq4.at_ (i := 2) rfl; have hrb4 := HRB.out.keepG ho4 (by omega); have u0 := hrb4.at_ (i := 0) rfl; have u1 := hrb4.at_ (i := 1) rfl; have u2 := hrb4.at_ (i := 2) rfl; have f0 := hrb4.frozen 0; have f1 := hrb4.frozen 1; have f2 := hrb4.frozen 2; have HW4 := hide (show _ ∧ _ ∧ _ from ⟨HRW.out.keepG ho4 (by simp; omega), HS3.out.keep (KeepL.only ho4 hgl), HO3.out.trans ho4⟩); clear hq4 hrb4 hr4))
  all_goals
    have HF := hide (show Sdx W (((w4.setCell ⟨W.heap.size, 0, none⟩ (.int .i64 p)).setCell ⟨W.heap.size, 1, none⟩ (.slice A n c)).setCell ⟨W.heap.size, 2, none⟩ (.slice O m d)) p A n c O m d L M f ∧ Row (((w4.setCell ⟨W.heap.size, 0, none⟩ (.int .i64 p)).setCell ⟨W.heap.size, 1, none⟩ (.slice A n c)).setCell ⟨W.heap.size, 2, none⟩ (.slice O m d)) W.heap.size B nB cB xs from
      ⟨⟨HNM.out, (HW4.out.2.1.put3 (by omega)).mono (by omega), (((HW4.out.2.2.up HB1.out (by omega) (by omega)).setCell (p := ⟨W.heap.size, 0, none⟩) (Nat.le_refl _) _).setCell (p := ⟨W.heap.size, 1, none⟩) (Nat.le_refl _) _).setCell (p := ⟨W.heap.size, 2, none⟩) (Nat.le_refl _) _⟩,
        (((HW4.out.1.setFar (p := ⟨W.heap.size, 0, none⟩) (fun q hq => by have := (HW4.out.1.blk q hq).1; simp only [World.size_alloc] at this; dsimp only; omega) _).setFar (p := ⟨W.heap.size, 1, none⟩) (fun q hq => by have := (HW4.out.1.blk q hq).1; simp only [World.size_alloc] at this; dsimp only; omega) _).setFar (p := ⟨W.heap.size, 2, none⟩) (fun q hq => by have := (HW4.out.1.blk q hq).1; simp only [World.size_alloc] at this; dsimp only; omega) _).mono (by simp; omega)⟩)
    go_wp2_with fail
    exact bodyPost_ret (v := .tuple #[.agg #[.int .i64 p, .slice A n c, .slice O m d], .slice B nB cB, .int .i64 v]) (by simp [results, Try.results55, go_sem, u0, u1, u2]) rfl ⟨p, _, n, c, O, m, d, L, M, f, B, nB, cB, xs, v, rfl, HF.out.1, HF.out.2, by omega⟩

set_option maxHeartbeats 1000000 in
theorem DrawPossibleOf_any (a : Option Addr) (len cap : Nat) (zs : List Int) (w W : World) (h : IsRow .u8 w a len cap zs) (hb : Below w.heap.size w W) :
    Calls Try.prog 18 #[.slice a len cap] W fun e w' => ∃ p A n c O m d L M f B n1 c1 xs, ∃ v : Int, e = .returned (.tuple #[.agg #[.int .i64 p, .slice A n c, .slice O m d], .slice B n1 c1, .int .i64 v]) ∧ Sdx W w' p A n c O m d L M f ∧ Row w' W.heap.size B n1 c1 xs ∧ n1 ≤ 8 := by
  have Hh := hide h
  have Hb := hide hb
  clear h hb
  go_enter Try.func18, Try.ntmps18
  go_wp2_with fail
  refine (DrawSecretOf_any a len cap zs w _ Hh.out (Hb.out.alloc Hb.out.size _)).mono ?_
  rintro e w1 ⟨p, A, n, c, O, m, d, L, M, f, B, n1, c1, xs, v, rfl, hs, hrow, hn1⟩
  have hbl : Blk w1 W.heap.size 29 #[.int .i64 0, .slice none 0 0, .slice none 0 0] := (Blk.new W _ _).below hs.bel (by simp)
  have g0 := hbl.at_ (i := 0) rfl
  have g1 := hbl.at_ (i := 1) rfl
  have g2 := hbl.at_ (i := 2) rfl
  have gf0 := hbl.frozen 0
  have gf1 := hbl.frozen 1
  have gf2 := hbl.frozen 2
  have hb1 : Below W.heap.size W w1 := up hs.bel (by go_grown) (by simp)
  have HF := hide (show Sdx W (((w1.setCell ⟨W.heap.size, 0, none⟩ (.int .i64 p)).setCell ⟨W.heap.size, 1, none⟩ (.slice A n c)).setCell ⟨W.heap.size, 2, none⟩ (.slice O m d)) p A n c O m d L M f ∧ Row (((w1.setCell ⟨W.heap.size, 0, none⟩ (.int .i64 p)).setCell ⟨W.heap.size, 1, none⟩ (.slice A n c)).setCell ⟨W.heap.size, 2, none⟩ (.slice O m d)) W.heap.size B n1 c1 xs from
      ⟨⟨hs.nm, (hs.smx.put3 (by simp)).mono (by simp), ((hb1.setCell (p := ⟨W.heap.size, 0, none⟩) (Nat.le_refl _) _).setCell (p := ⟨W.heap.size, 1, none⟩) (Nat.le_refl _) _).setCell (p := ⟨W.heap.size, 2, none⟩) (Nat.le_refl _) _⟩,
        (((hrow.setFar (p := ⟨W.heap.size, 0, none⟩) (fun q hq => by have := (hrow.blk q hq).1; simp only [World.size_alloc] at this; dsimp only; omega) _).setFar (p := ⟨W.heap.size, 1, none⟩) (fun q hq => by have := (hrow.blk q hq).1; simp only [World.size_alloc] at this; dsimp only; omega) _).setFar (p := ⟨W.heap.size, 2, none⟩) (fun q hq => by have := (hrow.blk q hq).1; simp only [World.size_alloc] at this; dsimp only; omega) _).mono (by simp)⟩)
  clear hs hrow hbl hb1
  go_wp2_with fail
  exact bodyPost_ret (v := .tuple #[.agg #[.int .i64 p, .slice A n c, .slice O m d], .slice B n1 c1, .int .i64 v]) (by simp [results, Try.results18, go_sem, g0, g1, g2]) rfl ⟨p, A, n, c, O, m, d, L, M, f, B, n1, c1, xs, v, rfl, HF.out.1, HF.out.2, hn1⟩
end Go.Proofs.Ytcalfblghblhcaa
