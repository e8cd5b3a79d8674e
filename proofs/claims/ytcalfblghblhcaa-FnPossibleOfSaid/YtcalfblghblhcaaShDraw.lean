/-
  The draws of shares. Conditions: the code is a slice of bytes that can be read.
  The draws of schemes from a code. Conditions: the code is a slice of bytes that can be read.
-/
import Derived.Test.YtcalfblghblhcaaSomeS
import Derived.Test.YtcalfblghblhcaaDrawP
import Derived.Test.YtcalfblghblhcaaShares
import Derived.Deep.RegionHeld3
namespace Go.Proofs.Ytcalfblghblhcaa
open Go.RowKit

/-- a scheme drawn behind W -/
structure Sdx (W w' : World) (p : Int) (A : Option Addr) (n c : Nat) (O : Option Addr) (m d : Nat) (L : Nat → Nat) (M : Nat → Nat → Int) (f : Nat → Int) : Prop where
  nm : 1 ≤ n ∧ n ≤ m
  smx : Smx w' W.heap.size p A n c O m d L M f
  bel : Below W.heap.size W w'

theorem groupOf_any (g k : Nat) (w : World) (h : Rd w g k) (hk : k ≤ 100000) :
    Calls Try.prog 65 #[.pointer (some ⟨g, 0, none⟩)] w fun e w' => ∃ v : Int, e = .returned (.int .i64 v) ∧ Rd w' g (k + 3) ∧ Only g w w' := by
  go_enter Try.func65, Try.ntmps65
  go_wp2_with fail
  refine (pick_rd g k _ _ h (by omega)).mono ?_
  rintro e w1 ⟨v1, rfl, hv1, hr1, ho1⟩
  clear hv1
  by_cases h0 : v1 = 0
  · subst h0
    go_wp2_with fail
    refine (one_lit g (k + 1) [-1, 32] _ 2 2 w1 _ hr1 rfl rfl (by omega) (by omega) (by omega)).mono ?_
    rintro e w2 ⟨v, hv, rfl, hr, ho⟩
    clear hv
    go_wp2_with fail
    go_ret
    exact ⟨v, rfl, hr.mono (by omega), ho1.trans ho⟩
  · have h1 : (v1 == 0) = false := by simp [h0]
    clear h0
    go_wp2_with fail
    refine (pick_rd g (k + 1) _ _ hr1 (by omega)).mono ?_
    rintro e w2 ⟨v2, rfl, hv2, hr2, ho2⟩
    go_wp2_with fail
    refine (one_lit g (k + 2) [0, 3, 0, 12, 31] _ 5 5 w2 _ hr2 rfl rfl (by omega) (by omega) (by omega)).mono ?_
    rintro e w3 ⟨v3, hv3, rfl, hr3, ho3⟩
    clear hv2 hv3
    go_wp2_with fail
    go_ret
    exact ⟨_, rfl, hr3, (ho1.trans ho2).trans ho3⟩

set_option maxHeartbeats 1000000 in
theorem DrawDoesKnow_any (a : Option Addr) (len cap : Nat) (zs : List Int) (w W : World) (h : IsRow .u8 w a len cap zs) (hb : Below w.heap.size w W) :
    Calls Try.prog 27 #[.slice a len cap] W fun e w' => ∃ p A n c O m d L M f, ∃ v : Int, e = .returned (.tuple #[.agg #[.int .i64 p, .slice A n c, .slice O m d], .int .i64 v]) ∧ Sdx W w' p A n c O m d L M f := by
  have Hh := hide h
  have Hb := hide hb
  clear h hb
  go_enter Try.func27, Try.ntmps27
  go_wp2_with fail
  refine (newReader_of a len cap zs w _ Hh.out (Hb.out.alloc Hb.out.size _)).mono ?_
  rintro e w1 ⟨g, rfl, hg, hr, hb1⟩
  simp only [World.size_alloc] at hg
  have hgl := hr.lt
  have hbl : Blk w1 W.heap.size 29 #[.int .i64 0, .slice none 0 0, .slice none 0 0] := (Blk.new W _ _).below hb1 (by simp)
  have hz1 := hbl.lt
  have HBL := hide hbl
  have HB1 := hide (show Below W.heap.size W w1 from up hb1 (by go_grown) (by simp))
  clear hbl hb1
  go_wp2_with fail
  refine (someScheme_any g _ hr).mono ?_
  rintro e w2 ⟨p, A, n, c, O, m, d, L, M, f, rfl, hnm, hs, hr2, ho2⟩
  have HS := hide hs
  have HNM := hide hnm
  have HO2 := hide ho2
  clear hs hnm ho2
  go_wp2_with fail
  refine (groupOf_any g 100 _ hr2 (by omega)).mono ?_
  rintro e w3 ⟨v, rfl, hr3, ho3⟩
  have hbl2 := (HBL.out).keepG (HO2.out.trans ho3) (by omega)
  have g0 := hbl2.at_ (i := 0) rfl
  have g1 := hbl2.at_ (i := 1) rfl
  have g2 := hbl2.at_ (i := 2) rfl
  have gf0 := hbl2.frozen 0
  have gf1 := hbl2.frozen 1
  have gf2 := hbl2.frozen 2
  have HF := hide (show Sdx W (((w3.setCell ⟨W.heap.size, 0, none⟩ (.int .i64 p)).setCell ⟨W.heap.size, 1, none⟩ (.slice A n c)).setCell ⟨W.heap.size, 2, none⟩ (.slice O m d)) p A n c O m d L M f from
    ⟨HNM.out, ((HS.out.keep (KeepL.only ho3 hgl)).put3 (by omega)).mono (by omega), ((((HO2.out.trans ho3).up HB1.out (by omega) (by omega)).setCell (p := ⟨W.heap.size, 0, none⟩) (Nat.le_refl _) _).setCell (p := ⟨W.heap.size, 1, none⟩) (Nat.le_refl _) _).setCell (p := ⟨W.heap.size, 2, none⟩) (Nat.le_refl _) _⟩)
  clear hr2 hr3 ho3 hbl2
  go_wp2_with fail
  exact bodyPost_ret (v := .tuple #[.agg #[.int .i64 p, .slice A n c, .slice O m d], .int .i64 v]) (by simp [results, Try.results27, go_sem, g0, g1, g2]) rfl ⟨p, A, n, c, O, m, d, L, M, f, v, rfl, HF.out⟩
end Go.Proofs.Ytcalfblghblhcaa
namespace Go.Proofs.Ytcalfblghblhcaa
open Go.RowKit

/-- a list drawn -/
def AwP (g k n : Nat) (w : World) (e : Ending) (w' : World) : Prop := ∃ A m c xs, e = .returned (.slice A m c) ∧ Row w' w.heap.size A m c xs ∧ m ≤ n + 1 ∧ Rd w' g (k + n + 2) ∧ Only g w w'
set_option maxHeartbeats 1000000 in
theorem aWord_any (g k : Nat) (p : Int) (n : Nat) (w : World) (h : Rd w g k) (hk : k ≤ 10000) (hp : 0 ≤ p ∧ p ≤ 7) (hn : n ≤ 7) :
    Calls Try.prog 69 #[.pointer (some ⟨g, 0, none⟩), .int .i64 p, .int .i64 n] w (AwP g k n w) := by
  have hg := h.lt
  have H := hide h
  clear h
  go_enter Try.func69, Try.ntmps69
  go_wp2_with fail
  go_loopw [7] (fun v wr => ∃ (j : Nat) (A : Option Addr) (c : Nat) (xs : List Int), j ≤ n ∧ v = .slice A j c ∧ Row wr w.heap.size A j c xs ∧ Rd wr g (k + j) ∧ Only g w wr) (fun v _ => match v with | .slice _ j _ => n - j | _ => 0)
  case atStart => exact ⟨0, _, _, [], by omega, rfl, Row.lit (n := 0) (xs := []) rfl rfl (Nat.le_refl _), H.out.alloc _, (Only.refl _ _).alloc _⟩
  case round =>
    obtain ⟨j, A, c, xs, hj, rfl, hrow, hrd, ho⟩ := hrel
    have HR := hide hrow
    have HRD := hide hrd
    have HO := hide ho
    have hz := ho.size
    clear hrow hrd ho
    by_cases hjn : j < n
    · have hjI : (j : Int) < (n : Int) := by omega
      by_cases hp1 : 1 ≤ p
      · have hpx : ¬ p < 1 := by omega
        go_wp2_with fail
        refine (pick_rd g _ _ _ HRD.out (by omega)).mono ?_
        rintro e w2 ⟨v, rfl, hv, hr2, ho2⟩
        have HR2 := hide (HR.out.keepG ho2 (by omega))
        have HRD2 := hide hr2
        have HO2 := hide (HO.out.trans ho2)
        have hz2 : w.heap.size ≤ w2.heap.size := HO2.out.size
        clear hv hr2 ho2
        go_wp2_with (at_builtin; refine push_int rfl _ _ rfl xs rfl HR2.out v _ rfl (by omega) hz2 ?_; intro A3 c3 w3 hr3 hb3 hg3 hat3; have HF := hide (show _ ∧ _ ∧ _ from ⟨hr3, HRD2.out.keepB hb3 hg, (⟨hb3.os.trans HO2.out.os, hb3.tape.trans HO2.out.tape, hb3.output.trans HO2.out.output, Nat.le_trans HO2.out.size hb3.size, fun i hi hne => (hb3.block i hi).trans (HO2.out.block i hi hne)⟩ : Only g w w3)⟩); clear hr3 hb3 hg3 hat3)
        go_roundw
        case rel => first | exact ⟨j + 1, A3, c3, _, by omega, rfl, HF.out.1, HF.out.2.1, HF.out.2.2⟩ | ((repeat apply Exists.intro); exact ⟨⟨j + 1, A3, c3, _, by omega, rfl, HF.out.1, HF.out.2.1, HF.out.2.2⟩, rfl⟩)
        case measure => simp; omega
      · have hpx : p < 1 := by omega
        go_wp2_with fail
        refine (pick_rd g _ _ _ HRD.out (by omega)).mono ?_
        rintro e w2 ⟨v, rfl, hv, hr2, ho2⟩
        have HR2 := hide (HR.out.keepG ho2 (by omega))
        have HRD2 := hide hr2
        have HO2 := hide (HO.out.trans ho2)
        have hz2 : w.heap.size ≤ w2.heap.size := HO2.out.size
        clear hv hr2 ho2
        go_wp2_with (at_builtin; refine push_int rfl _ _ rfl xs rfl HR2.out v _ rfl (by omega) hz2 ?_; intro A3 c3 w3 hr3 hb3 hg3 hat3; have HF := hide (show _ ∧ _ ∧ _ from ⟨hr3, HRD2.out.keepB hb3 hg, (⟨hb3.os.trans HO2.out.os, hb3.tape.trans HO2.out.tape, hb3.output.trans HO2.out.output, Nat.le_trans HO2.out.size hb3.size, fun i hi hne => (hb3.block i hi).trans (HO2.out.block i hi hne)⟩ : Only g w w3)⟩); clear hr3 hb3 hg3 hat3)
        go_roundw
        case rel => first | exact ⟨j + 1, A3, c3, _, by omega, rfl, HF.out.1, HF.out.2.1, HF.out.2.2⟩ | ((repeat apply Exists.intro); exact ⟨⟨j + 1, A3, c3, _, by omega, rfl, HF.out.1, HF.out.2.1, HF.out.2.2⟩, rfl⟩)
        case measure => simp; omega
    · obtain rfl : j = n := by omega
      go_wp2_with fail
      refine (pick_rd g _ _ _ HRD.out (by omega)).mono ?_
      rintro e w2 ⟨v, rfl, hv, hr2, ho2⟩
      have HR2 := hide (HR.out.keepG ho2 (by omega))
      have HRD2 := hide hr2
      have HO2 := hide (HO.out.trans ho2)
      have hz2 : w.heap.size ≤ w2.heap.size := HO2.out.size
      clear hv hr2 ho2
      by_cases v0 : v = 0
      · subst v0
        go_wp2_with (at_builtin; refine push_int rfl _ _ rfl xs rfl HR2.out 0 _ rfl (by omega) hz2 ?_; intro A3 c3 w3 hr3 hb3 hg3 hat3; have HF := hide (show _ ∧ _ ∧ _ from ⟨hr3, HRD2.out.keepB hb3 hg, (⟨hb3.os.trans HO2.out.os, hb3.tape.trans HO2.out.tape, hb3.output.trans HO2.out.output, Nat.le_trans HO2.out.size hb3.size, fun i hi hne => (hb3.block i hi).trans (HO2.out.block i hi hne)⟩ : Only g w w3)⟩); clear hr3 hb3 hg3 hat3)
        go_ret
        exact ⟨_, _, _, _, rfl, HF.out.1, by omega, HF.out.2.1.mono (by omega), HF.out.2.2⟩
      have w0' : (v == 0) = false := by simp [v0]
      by_cases v1 : v = 1
      · subst v1
        by_cases hj0 : 0 < j
        · obtain ⟨b, rfl, hb1, hb2, hc0, hf0, hset⟩ := HR2.out.at_ hj0
          have HC0 := hide hc0
          have HF0 := hide hf0
          have hjI : (0 : Int) < (j : Int) := by omega
          clear hset hc0 hf0
          go_wp2_with fail
          refine (one_lit g _ [-1, p] _ 2 2 w2 _ HRD2.out rfl rfl (by omega) (by omega) (by omega)).mono ?_
          rintro e w3 ⟨y, hy, rfl, hr3, ho3⟩
          obtain ⟨b', e', _, hb2', hc0, hf0, hset⟩ := (HR2.out.keepG ho3 (by omega)).at_ hj0
          obtain rfl : b = b' := by simpa using e'
          have HF := hide (show _ ∧ _ ∧ _ from ⟨hset y, hr3.set_ (p := ⟨b, 0, none⟩) (by dsimp only; omega) (.int .i64 y), (HO2.out.trans ho3).setCell (p := ⟨b, 0, none⟩) (.inr hb1) (.int .i64 y)⟩)
          clear hset e' hy hr3 ho3
          go_wp2_with fail
          go_ret
          exact ⟨_, _, _, _, rfl, HF.out.1, by omega, HF.out.2.1.mono (by omega), HF.out.2.2⟩
        · obtain rfl : j = 0 := by omega
          go_wp2_with fail
          go_ret
          exact ⟨_, _, _, _, rfl, HR2.out, by omega, HRD2.out.mono (by omega), HO2.out⟩
      have w1' : (v == 1) = false := by simp [v1]
      have V := hide (⟨v0, v1⟩ : _ ∧ _)
      clear v0 v1
      go_wp2_with fail
      go_ret
      exact ⟨_, _, _, _, rfl, HR2.out, by omega, HRD2.out.mono (by omega), HO2.out⟩

theorem cell_put3 {w : World} {S b o : Nat} {x y z : Value} (h : S ≠ b) : (((w.setCell ⟨S, 0, none⟩ x).setCell ⟨S, 1, none⟩ y).setCell ⟨S, 2, none⟩ z).cell? ⟨b, o, none⟩ = w.cell? ⟨b, o, none⟩ := by
  rw [World.cell?_setCell_other _ _ _ _ (fun e => h (by injection e)), World.cell?_setCell_other _ _ _ _ (fun e => h (by injection e)), World.cell?_setCell_other _ _ _ _ (fun e => h (by injection e))]
set_option maxHeartbeats 2000000 in
set_option maxRecDepth 100000 in
theorem DrawSharesOf_any (a : Option Addr) (len cap : Nat) (zs : List Int) (w W : World) (h : IsRow .u8 w a len cap zs) (hb : Below w.heap.size w W) :
    Calls Try.prog 34 #[.slice a len cap] W fun e w' => ∃ p A n c O m d L M f B n1 c1 xs, e = .returned (.tuple #[.agg #[.int .i64 p, .slice A n c, .slice O m d], .slice B n1 c1]) ∧ Sdx W w' p A n c O m d L M f ∧ Row w' W.heap.size B n1 c1 xs ∧ n1 ≤ 8 := by
  have Hh := hide h
  have Hb := hide hb
  clear h hb
  go_enter Try.func34, Try.ntmps34
  go_wp2_with fail
  refine (newReader_of a len cap zs w _ Hh.out (Hb.out.alloc Hb.out.size _)).mono ?_
  rintro e w1 ⟨g, rfl, hg, hr, hb1⟩
  simp only [World.size_alloc] at hg
  have hgl := hr.lt
  have hbl : Blk w1 W.heap.size 29 #[.int .i64 0, .slice none 0 0, .slice none 0 0] := (Blk.new W _ _).below hb1 (by simp)
  have hz1 := hbl.lt
  have HBL := hide hbl
  have HB1 := hide (show Below W.heap.size W w1 from up hb1 (by go_grown) (by simp))
  clear hbl hb1
  go_wp2_with fail
  refine (someScheme_any g _ hr).mono ?_
  rintro e w2 ⟨p, A, n, c, O, m, d, L, M, f, rfl, hnm, hs, hr2, ho2⟩
  have HS := hide hs
  have HNM := hide hnm
  have HO2 := hide ho2
  have hp7 := hs.ok.hp
  have hL0 := hs.ok.hL 0 (by omega)
  obtain ⟨ba, oa, rfl, hba, hca⟩ := hs.mat (by omega)
  obtain ⟨R0, C0, r0, _⟩ := hca 0 (by omega)
  simp only [Nat.add_zero] at r0
  have hn0 : 0 < n := by omega
  have hz2 : w1.heap.size ≤ w2.heap.size := ho2.size
  clear hs ho2 hca
  go_wp2_with fail
  refine nameCode (fun wx => Blk wx w2.heap.size 29 #[.int .i64 p, .slice (some ⟨ba, oa, none⟩) n c, .slice O m d] ∧ Blk wx W.heap.size 29 #[.int .i64 0, .slice none 0 0, .slice none 0 0] ∧ Smx wx w1.heap.size p (some ⟨ba, oa, none⟩) n c O m d L M f ∧ Rd wx g 100 ∧ Only g w1 wx ∧ wx.cell? ⟨ba, oa, none⟩ = some (.slice R0 (L 0) C0) ∧ w2.heap.size < wx.heap.size) ⟨Blk.new w2 _ _, ((HBL.out).keepG HO2.out (by omega)).alloc _, HS.out.keepB (below_box _), hr2.alloc _, HO2.out.alloc _, by rw [World.cell?_alloc_past _ _ _ hba.2]; exact r0, by simp⟩ ?_
  clear r0 hr2 HS HBL HO2
  rintro w3 ⟨hq, hrb, hs, hr3, ho3, r0, hz3⟩
  have x0 := hq.at_ (i := 0) rfl
  have x1 := hq.at_ (i := 1) rfl
  have x2 := hq.at_ (i := 2) rfl
  have HQ := hide hq
  have HRB := hide hrb
  have HS := hide hs
  have HR3 := hide hr3
  have HO3 := hide ho3
  have hba3 : ba < w3.heap.size := by omega
  have hne1 : W.heap.size ≠ w2.heap.size := by omega
  have hne2 : W.heap.size ≠ ba := by omega
  have HAW := hide (fun (W' : World) (hr : Rd W' g 100) => aWord_any g 100 p (L 0) W' hr (by omega) hp7 (by omega))
  clear hq hrb hs hr3 ho3
  go_region_held3 (fun w' => w'.cell? ⟨w2.heap.size, 0, none⟩ = some (.int .i64 p) ∧ w'.cell? ⟨w2.heap.size, 1, none⟩ = some (.slice (some ⟨ba, oa, none⟩) n c) ∧ w'.cell? ⟨w2.heap.size, 2, none⟩ = some (.slice O m d) ∧ w'.cell? ⟨ba, oa, none⟩ = some (.slice R0 (L 0) C0)) (first | exact ⟨x0, x1, x2, r0⟩ | exact ⟨y0, y1, y2, y3⟩ | exact ⟨(cell_put3 hne1).trans y0, (cell_put3 hne1).trans y1, (cell_put3 hne1).trans y2, (cell_put3 hne2).trans y3⟩) (first | (go_at_call 69; refine (HAW.out _ (by first | exact HR3.out | exact HR3.out.drew)).mono ?_; rintro e w4 ⟨B, n1, c1, xs, rfl, hrow, hn1, hr4, ho4'⟩; have ho4 : Only g w3 w4 := ⟨ho4'.os, ho4'.tape, ho4'.output, ho4'.size, ho4'.block⟩; have hq4 := HQ.out.keepG ho4 (by omega); have y0 := hq4.at_ (i := 0) rfl; have y1 := hq4.at_ (i := 1) rfl; have y2 := hq4.at_ (i := 2) rfl; have y3 := (ho4.cells.1 ba oa hba3 (by omega)).trans r0; have hrb4 := HRB.out.keepG ho4 (by omega); have u0 := hrb4.at_ (i := 0) rfl; have u1 := hrb4.at_ (i := 1) rfl; have u2 := hrb4.at_ (i := 2) rfl; have f0 := hrb4.frozen 0; have f1 := hrb4.frozen 1; have f2 := hrb4.frozen 2; have HW4 := hide (show _ ∧ _ ∧ _ from ⟨(show Row w4 w3.heap.size B n1 c1 xs from hrow), HS.out.keep (KeepL.only ho4 hgl), HO3.out.trans ho4⟩); clear hq4 hrb4 hrow hr4))
  all_goals
    have HF := hide (show Sdx W (((w4.setCell ⟨W.heap.size, 0, none⟩ (.int .i64 p)).setCell ⟨W.heap.size, 1, none⟩ (.slice (some ⟨ba, oa, none⟩) n c)).setCell ⟨W.heap.size, 2, none⟩ (.slice O m d)) p (some ⟨ba, oa, none⟩) n c O m d L M f ∧ Row (((w4.setCell ⟨W.heap.size, 0, none⟩ (.int .i64 p)).setCell ⟨W.heap.size, 1, none⟩ (.slice (some ⟨ba, oa, none⟩) n c)).setCell ⟨W.heap.size, 2, none⟩ (.slice O m d)) W.heap.size B n1 c1 xs from
      ⟨⟨HNM.out, (HW4.out.2.1.put3 (by omega)).mono (by omega), (((HW4.out.2.2.up HB1.out (by omega) (by omega)).setCell (p := ⟨W.heap.size, 0, none⟩) (Nat.le_refl _) _).setCell (p := ⟨W.heap.size, 1, none⟩) (Nat.le_refl _) _).setCell (p := ⟨W.heap.size, 2, none⟩) (Nat.le_refl _) _⟩,
        (((HW4.out.1.setFar (p := ⟨W.heap.size, 0, none⟩) (fun q hq => by have := (HW4.out.1.blk q hq).1; dsimp only; omega) _).setFar (p := ⟨W.heap.size, 1, none⟩) (fun q hq => by have := (HW4.out.1.blk q hq).1; dsimp only; omega) _).setFar (p := ⟨W.heap.size, 2, none⟩) (fun q hq => by have := (HW4.out.1.blk q hq).1; dsimp only; omega) _).mono (by omega)⟩)
    go_wp2_with fail
    exact bodyPost_ret (v := .tuple #[.agg #[.int .i64 p, .slice (some ⟨ba, oa, none⟩) n c, .slice O m d], .slice B n1 c1]) (by simp [results, Try.results34, go_sem, u0, u1, u2]) rfl ⟨p, _, n, c, O, m, d, L, M, f, B, n1, c1, xs, rfl, HF.out.1, HF.out.2, by omega⟩
end Go.Proofs.Ytcalfblghblhcaa
