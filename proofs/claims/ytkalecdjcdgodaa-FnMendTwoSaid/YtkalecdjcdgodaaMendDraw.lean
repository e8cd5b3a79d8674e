/-
  The draw of an array to be mended. Conditions: the code is a slice of bytes that can be read.
-/
import Derived.Test.YtkalecdjcdgodaaArrDraw
import Derived.Test.YtkalecdjcdgodaaMendAgain
import Derived.Deep.RegionHeld3
namespace Go.Proofs.Ytkalecdjcdgodaa
open Go.RowKit

theorem Tab.matC {R : List Sl} {w : World} {base n c : Nat} {A : Option Addr} (h : Tab w base A n c R) : MatC w w.heap.size A n (fun i => (R.getD i ⟨none, 0, []⟩).xs.length) (fun i j => (R.getD i ⟨none, 0, []⟩).xs.getD j 0) := fun h0 => by
  rcases h.form with ⟨_, h1, _⟩ | ⟨g, rfl, _, h2, _⟩
  · omega
  · refine ⟨g, 0, rfl, h2, fun i hi => ?_⟩
    obtain ⟨b, r, e, _, _, hr, hc, _, hrow⟩ := h.at_ hi
    injection e with e
    injection e with e
    subst e
    have e2 : R.getD i ⟨none, 0, []⟩ = r := by simp [List.getD, hr]
    rw [Nat.zero_add]
    dsimp only
    rw [e2]
    exact ⟨r.A, r.c, hc, hrow.cap, hrow.ints⟩
/-- what the draw gives -/
def DmPost (W : World) (e : Ending) (w' : World) : Prop := ∃ (p : Int) (A : Option Addr) (n c : Nat) (L : Nat → Nat) (M : Nat → Nat → Int) (lost : Int), e = .returned (.tuple #[.int .i64 p, .slice A n c, .int .i64 lost]) ∧ MatC w' w'.heap.size A n L M ∧ (∀ i, i < n → L i ≤ 8) ∧ n ≤ 8 ∧ Below W.heap.size W w'
theorem DmPost.of {W w' : World} {p lost : Int} {A : Option Addr} {n m c base top : Nat} {R : List Sl} {C : Nat → Nat → Int} (ht : TabD w' base top A n c R) (h : TbC R n m C) (hn : n ≤ 8) (hm : m ≤ 8) (hb : Below W.heap.size W w') : DmPost W (.returned (.tuple #[.int .i64 p, .slice A n c, .int .i64 lost])) w' :=
  ⟨p, A, n, c, _, _, lost, rfl, h.matC ht, fun _ _ => hm, hn, hb⟩
theorem Mat.const2 {w : World} {B n m : Nat} {A : Option Addr} {L : Nat → Nat} {M : Nat → Nat → Int} (h : Mat w B A n L M) (hl : ∀ i, i < n → L i = m) : Mat w B A n (fun _ => m) M := fun h0 => by
  obtain ⟨b, off, e, hb, hc⟩ := h h0
  exact ⟨b, off, e, hb, fun i hi => by obtain ⟨R, C, h1, h2⟩ := hc i hi; rw [hl i hi] at h1 h2; exact ⟨R, C, h1, h2⟩⟩
theorem powerN_any (n : Nat) (w : World) (hn : n ≤ 62) :
    Calls Try.prog 64 #[.int .i64 n] w fun e w' => e = .returned (.int .i64 ((2 ^ n : Nat) : Int)) ∧ w = w' :=
  (powerS_any n w hn).mono fun _ _ ⟨he, hw⟩ => ⟨by rw [he]; simp, hw⟩

theorem AtC.same {w : World} {base top b n m c i j b0 c0 b1 c1 : Nat} {C : Nat → Nat → Int} (h : AtC w base top b n m c C i j b1 c1) (hh : w.cell? ⟨b, i, none⟩ = some (.slice (some ⟨b0, 0, none⟩) m c0)) : b1 = b0 := by
  have := h.row.symm.trans hh
  simp at this
  exact this.1
theorem cell_put1 {w : World} {b b2 o o2 : Nat} {x : Value} (h : b2 ≠ b) : (w.setCell ⟨b2, o2, none⟩ x).cell? ⟨b, o, none⟩ = w.cell? ⟨b, o, none⟩ := World.cell?_setCell_other _ _ _ _ (by intro hh; injection hh; omega)

set_option maxRecDepth 100000 in
set_option maxHeartbeats 4000000 in
theorem DrawMendTwo_any (a : Option Addr) (len cap : Nat) (zs : List Int) (w W : World) (h : IsRow .u8 w a len cap zs) (hb : Below w.heap.size w W) :
    Calls Try.prog 46 #[.slice a len cap] W (DmPost W) := by
  have Hh := hide h
  have Hb := hide hb
  clear h hb
  go_enter Try.func46, Try.ntmps46
  go_wp2_with fail
  refine (newReader_of a len cap zs w _ Hh.out Hb.out).mono ?_
  rintro e w1 ⟨g, rfl, hg, hr1, hb1⟩
  have HB1 := hide hb1
  have hz1 : W.heap.size ≤ w1.heap.size := hb1.size
  clear hb1
  go_wp2_with fail
  refine (anArray_any g w1 hr1).mono ?_
  rintro e w2 ⟨p, A, n, c, R, rfl, ht, hl, hn, hr2, ho⟩
  have hgl := hr2.lt
  have HB2 := hide (Only.up ho HB1.out hz1 hg)
  have HR2 := hide hr2
  have hm := ht.matC
  have hL : ∀ i, i < n → (fun i => (R.getD i ⟨none, 0, []⟩).xs.length) i ≤ 8 := fun i hi => by
    have hi' : i < R.length := by rw [ht.1]; exact hi
    simp only [List.getD, List.getElem?_eq_getElem hi', Option.getD_some]
    exact hl _ (List.getElem_mem hi')
  clear ht hl ho hr2
  generalize (fun i => (R.getD i ⟨none, 0, []⟩).xs.length) = L at *
  generalize (fun i j => (R.getD i ⟨none, 0, []⟩).xs.getD j 0) = M at *
  have HM := hide hm
  have HL := hide hL
  have HV := hide (validArray_any p A n c L M w2 (by omega) (fun i hi => by have := hL i hi; omega) hm.mat)
  clear hm hL
  cases hok : arrB p n L M
  · rw [hok] at HV
    clear hok
    go_wp2_with fail
    refine (HV.out).mono ?_
    rintro e _ ⟨rfl, rfl⟩
    go_wp2_with fail
    go_ret3
    exact ⟨_, _, _, _, _, _, _, rfl, HM.out, HL.out, by omega, HB2.out⟩
  rw [hok] at HV
  obtain ⟨hpn, hle, hbin⟩ := arr_ok hok
  have HMM := hide (Mat.const2 (MatC.mat HM.out) hle)
  have HBIN := hide hbin
  clear hok hle hbin HM HL
  rcases hpn with ⟨rfl, rfl⟩ | ⟨rfl, rfl⟩
  · have HRP := hide (rowPlus_any A 2 c 2 M w2 (by omega) (by omega) HBIN.out HMM.out)
    have HP1 := hide (W1_bin HBIN.out 3)
    go_wp2_with fail
    refine (HV.out).mono ?_
    rintro e _ ⟨rfl, rfl⟩
    go_wp2_with fail
    refine (HRP.out).mono ?_
    rintro e w3 ⟨A3, c3, R3, rfl, ht3, hc3, hb3⟩
    have HD := hide (diag3_any A3 c3 (W1 2 M) w3 HP1.out (hc3.mat ht3))
    have HB3 := hide (show Below w2.heap.size w2 w3 from hb3)
    clear ht3 hc3 hb3
    go_wp2_with fail
    refine (HD.out).mono ?_
    rintro e w4 ⟨A4, c4, R4, rfl, ht4, hc4, hb4⟩
    have HB4 := hide (up hb4 HB3.out HB3.out.size)
    have HR4 := hide (HR2.out.of_only HB4.out)
    have hz4 : w2.heap.size ≤ w4.heap.size := HB4.out.size
    have HBW := hide (up HB4.out HB2.out HB2.out.size)
    have HT4 := hide (ht4.mono (base' := w2.heap.size) (top' := w4.heap.size) HB3.out.size (Nat.le_refl _))
    have HC4 := hide hc4
    obtain ⟨b4, rfl⟩ : ∃ b, A4 = some ⟨b, 0, none⟩ := by
      rcases ht4.tab.form with ⟨_, h0, _⟩ | ⟨b, e, _⟩
      · omega
      · exact ⟨b, e⟩
    generalize W2 3 (W1 2 M) = C4 at *
    clear ht4 hc4 hb4 HD HRP HP1 HMM HBIN HV HB3
    go_wp2_with fail
    refine (pick_rd g 60 _ _ HR4.out (by omega)).mono ?_
    rintro e w5 ⟨x, rfl, hx, hr5, ho5⟩
    have HR5 := hide hr5
    have HT5 := hide (HT4.out.only ho5 hgl)
    have HO5 := hide ((Only.of_below HB4.out).trans ho5)
    clear hr5 ho5 HT4 HR4
    obtain ⟨hx0, hx1, _⟩ := hx
    have hx1 := hx1 (by omega)
    obtain ⟨x, rfl⟩ := Int.eq_ofNat_of_zero_le hx0
    go_wp2_with fail
    refine (pick_rd g 61 _ _ HR5.out (by omega)).mono ?_
    rintro e w6 ⟨y, rfl, hy, hr6, ho6⟩
    have HR6 := hide (hr6.mono (k' := 100) (by omega))
    have HT6 := hide (HT5.out.only ho6 hgl)
    have HO6 := hide (HO5.out.trans ho6)
    clear hr6 ho6 HT5 HR5 HO5
    obtain ⟨hy0, hy1, _⟩ := hy
    have hy1 := hy1 (by omega)
    obtain ⟨y, rfl⟩ := Int.eq_ofNat_of_zero_le hy0
    have hpx : 2 ^ x < 2 ^ 4 := Nat.pow_lt_pow_right (by omega) (by omega)
    have hpy : 2 ^ y < 2 ^ 4 := Nat.pow_lt_pow_right (by omega) (by omega)
    have hor := or_nat (2 ^ x) (2 ^ y) (by omega) (by omega)
    have hs : 2 ^ x ||| 2 ^ y < 2 ^ 4 := Nat.or_lt_two_pow hpx hpy
    have HPX := hide (fun W => powerN_any x W (by omega))
    have HPY := hide (fun W => powerN_any y W (by omega))
    generalize 2 ^ x ||| 2 ^ y = s at *
    generalize 2 ^ x = px at *
    generalize 2 ^ y = py at *
    go_wp2_with fail
    refine (HPX.out _).mono ?_
    rintro e _ ⟨rfl, rfl⟩
    go_wp2_with fail
    refine (HPY.out _).mono ?_
    rintro e _ ⟨rfl, rfl⟩
    have hs : s < 16 := hs
    clear hx0 hx1 hy0 hy1 hpx hpy
    go_wp2_with fail
    clear hor HPX HPY
    have hgb : w2.heap.size ≤ b4 := by
      rcases HT6.out.tab.form with ⟨h0, _⟩ | ⟨b, e, h1, _⟩
      · cases h0
      · injection e with e; injection e with e; omega
    go_loopw [12] (fun i wr => ∃ (k : Nat) (R : List Sl) (C : Nat → Nat → Int), k ≤ 2 ∧ i = .int .i64 k ∧ TabD wr w2.heap.size w4.heap.size (some ⟨b4, 0, none⟩) 2 c4 R ∧ TbC R 2 4 C ∧ Rd wr g (100 + 10 * k) ∧ Only g w2 wr) (fun i _ => 2 - (intOf i).toNat)
    case atStart => exact ⟨0, _, _, by omega, rfl, HT6.out, HC4.out, HR6.out, HO6.out⟩
    case round =>
      obtain ⟨k, R, C, hk, rfl, ht, hc, hr, ho⟩ := hrel
      have HT := hide ht
      have HC := hide hc
      have HR := hide hr
      have HO := hide ho
      clear ht hc hr ho
      obtain ⟨wo, hwo⟩ : ∃ x, x = wr := ⟨_, rfl⟩
      rw [← hwo] at HT HR HO
      rw [← hwo]
      clear hwo
      by_cases hkq : k < 2
      · have hkI : (k : Int) < 2 := by omega
        go_wp2_with fail
        go_loopw [13] (fun i wr => ∃ (j : Nat) (R : List Sl) (C : Nat → Nat → Int), j ≤ 4 ∧ i = .int .i64 j ∧ TabD wr w2.heap.size w4.heap.size (some ⟨b4, 0, none⟩) 2 c4 R ∧ TbC R 2 4 C ∧ Rd wr g (100 + 10 * k + j) ∧ Only g w2 wr) (fun i _ => 4 - (intOf i).toNat)
        case atStart => exact ⟨0, _, _, by omega, rfl, HT.out, HC.out, HR.out, HO.out⟩
        case round =>
          obtain ⟨j, R5, C5, hj, rfl, ht, hc, hr, ho⟩ := hrel
          by_cases hjm : j < 4
          · have hjI : (j : Int) ≤ 3 := by omega
            cases hbt : bt s j
            · have HT5 := hide ht
              have HC5 := hide hc
              have HR5 := hide hr
              have HO5 := hide ho
              clear ht hc hr ho
              have HBT := hide (fun W => bitS_f s j W (by omega) (by omega) hbt)
              clear hbt
              go_wp2_with fail
              refine (HBT.out _).mono ?_
              rintro e _ ⟨rfl, rfl⟩
              go_wp2_with fail
              go_roundw
              case rel => exact ⟨j + 1, R5, C5, by omega, by go_num, HT5.out, HC5.out, HR5.out.mono (by omega), HO5.out⟩
              case measure => simp [intOf]; omega
            · have HBT := hide (fun W => bitS_t s j W (by omega) (by omega) hbt)
              clear hbt
              obtain ⟨b0, d0, hat⟩ := hc.at_ ht (i := k) (j := j) hkq hjm
              have a0 := hat.row
              have a1 := hat.cell
              have a2 := hat.fz
              have hblt := hat.blt
              have hb4l : b4 < wr.heap.size := by
                rcases ht.tab.form with ⟨h0, _⟩ | ⟨b, e, _, h1, _⟩
                · cases h0
                · injection e with e; injection e with e; omega
              have hlo := hat.lo
              have hcap := hat.cap
              have hne := hat.ne
              have HT5 := hide ht
              have HC5 := hide hc
              have HO5 := hide ho
              have HPK := hide (pick_rd g (100 + 10 * k + j) 2 wr hr (by omega))
              have HPD := hide (pick_rd g (100 + 10 * k + j) 2 wr.drew hr.drew (by omega))
              clear ht hc hr ho hat
              have hkI0 : (0 : Int) ≤ (k : Int) := by omega
              have hjI0 : (0 : Int) ≤ (j : Int) := by omega
              have hjI2 : (j : Int) < 4 := by omega
              go_wp2_with fail
              refine (HBT.out _).mono ?_
              rintro e _ ⟨rfl, rfl⟩
              go_wp2_with fail
              go_region_held3 (fun w' => w'.cell? ⟨b4, k, none⟩ = some (.slice (some ⟨b0, 0, none⟩) 4 d0)) (first | exact a0 | exact y0 | exact (cell_put1 hne).trans y0) (first | (go_at_call 53; refine (by first | exact HPK.out | exact HPD.out : Calls Try.prog 53 #[.pointer (some ⟨g, 0, none⟩), .int .i64 2] _ _).mono ?_; rintro e w7 ⟨v, rfl, _, hr7, ho7'⟩; have ho7 : Only g wr w7 := ⟨ho7'.os, ho7'.tape, ho7'.output, ho7'.size, ho7'.block⟩; have y0 := (ho7.cells.1 b4 k hb4l (by omega)).trans a0; have y1 := (ho7.cells.1 b0 j hblt (by omega)).trans a1; have y2 := (ho7.cells.2 b0 j hblt (by omega)).trans a2; have HT7 := hide (HT5.out.only ho7 hgl); have HR7 := hide hr7; have HO7 := hide (HO5.out.trans ho7); obtain ⟨b7, d7, hat7⟩ := HC5.out.at_ HT7.out (i := k) (j := j) hkq hjm; obtain rfl := (hat7.same y0).symm; have HSET := hide (hat7.set v); clear hr7 ho7 ho7' hat7))
              all_goals
                obtain ⟨R9, ht9, hc9⟩ := HSET.out
                have HF := hide (show _ ∧ _ ∧ _ ∧ _ from ⟨ht9, hc9, HR7.out.set1 (p := ⟨b0, j, none⟩) (show g < b0 by omega) (.int .i64 v), HO7.out.setCell (p := ⟨b0, j, none⟩) (.inr (show w2.heap.size ≤ b0 by omega)) (.int .i64 v)⟩)
                clear ht9 hc9
                go_wp2_with fail
                go_roundw
                case rel => first | exact ⟨j + 1, _, _, by omega, by go_num, HF.out.1, HF.out.2.1, HF.out.2.2.1.mono (by omega), HF.out.2.2.2⟩ | exact ⟨j + 1, _, _, by omega, by go_num, HF.out.1.drew, HF.out.2.1, (HF.out.2.2.1.mono (by omega)).drew, HF.out.2.2.2.drew⟩
                case measure => simp [intOf]; omega
          · obtain rfl : j = 4 := by omega
            have HT5 := hide ht
            have HC5 := hide hc
            have HR5 := hide hr
            have HO5 := hide ho
            clear ht hc hr ho
            go_wp2_with fail
            go_roundw
            case rel => exact ⟨k + 1, R5, C5, by omega, by go_num, HT5.out, HC5.out, HR5.out.mono (by omega), HO5.out⟩
            case measure => simp [intOf]; omega
      · obtain rfl : k = 2 := by omega
        have HPK := hide (pick_rd g (100 + 10 * 2) 16 wo HR.out (by omega))
        go_wp2_with fail
        refine (HPK.out).mono ?_
        rintro e w7 ⟨v, rfl, _, hr7, ho7⟩
        have HT7 := hide (HT.out.only ho7 hgl)
        have HR7 := hide (hr7.mono (k' := 200) (by omega))
        have HO7 := hide (HO.out.trans ho7)
        clear HPK hr7 ho7
        have hbw : ∀ w', Only g w2 w' → Below W.heap.size W w' := fun w' h => HB2.out.trans (h.below (by omega) HB2.out.size)
        have HBX := hide hbw
        clear hbw
        by_cases v0 : v = 0
        · subst v0
          have HPK := hide (pick_rd g 200 4 w7 HR7.out (by omega))
          have HPD := hide (pick_rd g 200 4 w7.drew HR7.out.drew (by omega))
          obtain ⟨b0, d0, hat⟩ := HC.out.at_ HT7.out (i := 0) (j := 0) (by omega) (by omega)
          have a0 := hat.row
          have hblt := hat.blt
          have hcap := hat.cap
          have hne := hat.ne
          have hlo := hat.lo
          have hb4l : b4 < w7.heap.size := by
            rcases HT7.out.tab.form with ⟨h0, _⟩ | ⟨b, e, _, h1, _⟩
            · cases h0
            · injection e with e; injection e with e; omega
          clear hat
          go_wp2_with fail
          go_region_held3 (fun w' => w'.cell? ⟨b4, 0, none⟩ = some (.slice (some ⟨b0, 0, none⟩) 4 d0)) (first | exact a0 | exact y0 | exact (cell_put1 hne).trans y0) (first | (go_at_call 53; refine (by first | exact HPK.out | exact HPD.out : Calls Try.prog 53 #[.pointer (some ⟨g, 0, none⟩), .int .i64 4] _ _).mono ?_; rintro e w8 ⟨v, rfl, hv, hr8, ho8'⟩; obtain ⟨hv0, hv1, _⟩ := hv; obtain ⟨j, rfl⟩ := Int.eq_ofNat_of_zero_le hv0; have hvJ : (j : Int) < 4 := hv1 (by omega); have hvN : j < 4 := (by omega); have ho8 : Only g w7 w8 := ⟨ho8'.os, ho8'.tape, ho8'.output, ho8'.size, ho8'.block⟩; have y0 := (ho8.cells.1 b4 0 hb4l (by omega)).trans a0; have HT8 := hide (HT7.out.only ho8 hgl); have HR8 := hide hr8; have HO8 := hide (HO7.out.trans ho8); obtain ⟨b8, d8, hat8⟩ := HC.out.at_ HT8.out (i := 0) (j := j) (by omega) hvN; obtain rfl := (hat8.same y0).symm; have y1 := hat8.cell; have y2 := hat8.fz; have HSET := hide (hat8.set 1); clear hr8 ho8 ho8' hat8))
          all_goals
            obtain ⟨R9, ht9, hc9⟩ := HSET.out
            have HF := hide (show _ ∧ _ ∧ _ from ⟨ht9, hc9, HBX.out _ (HO8.out.setCell (p := ⟨b0, j, none⟩) (.inr (show w2.heap.size ≤ b0 by omega)) (.int .i64 1))⟩)
            clear ht9 hc9
            go_wp2_with fail
            go_ret3
            first | exact DmPost.of HF.out.1 HF.out.2.1 (by omega) (by omega) HF.out.2.2 | exact DmPost.of HF.out.1.drew HF.out.2.1 (by omega) (by omega) HF.out.2.2.drew
        have w0 : (v == 0) = false := by simp [v0]
        by_cases v1 : v = 1
        · subst v1
          have HPC := hide (fun W => powerN_any 4 W (by omega))
          go_wp2_with fail
          refine (HPC.out _).mono ?_
          rintro e _ ⟨rfl, rfl⟩
          go_wp2_with fail
          refine (one_lit g 200 [7, -1, 16, 0] _ 4 4 w7 _ HR7.out rfl rfl (by omega) (by omega) (by omega)).mono ?_
          rintro e w8 ⟨x, _, rfl, _, ho8⟩
          have HT8 := hide (HT7.out.only ho8 hgl)
          have HB8 := hide (HBX.out _ (HO7.out.trans ho8))
          go_wp2_with fail
          go_ret3
          exact DmPost.of HT8.out HC.out (by omega) (by omega) HB8.out
        have w1' : (v == 1) = false := by simp [v1]
        have HB7 := hide (HBX.out _ HO7.out)
        clear v0 v1
        go_wp2_with fail
        go_ret3
        exact DmPost.of HT7.out HC.out (by omega) (by omega) HB7.out
  · have HRP := hide (rowPlus_any A 4 c 4 M w2 (by omega) (by omega) HBIN.out HMM.out)
    have HP1 := hide (W1_bin HBIN.out 5)
    go_wp2_with fail
    refine (HV.out).mono ?_
    rintro e _ ⟨rfl, rfl⟩
    go_wp2_with fail
    refine (HRP.out).mono ?_
    rintro e w3 ⟨A3, c3, R3, rfl, ht3, hc3, hb3⟩
    have HD := hide (diag5_any A3 c3 (W1 4 M) w3 HP1.out (hc3.mat ht3))
    have HB3 := hide (show Below w2.heap.size w2 w3 from hb3)
    clear ht3 hc3 hb3
    go_wp2_with fail
    refine (HD.out).mono ?_
    rintro e w4 ⟨A4, c4, R4, rfl, ht4, hc4, hb4⟩
    have HB4 := hide (up hb4 HB3.out HB3.out.size)
    have HR4 := hide (HR2.out.of_only HB4.out)
    have hz4 : w2.heap.size ≤ w4.heap.size := HB4.out.size
    have HBW := hide (up HB4.out HB2.out HB2.out.size)
    have HT4 := hide (ht4.mono (base' := w2.heap.size) (top' := w4.heap.size) HB3.out.size (Nat.le_refl _))
    have HC4 := hide hc4
    obtain ⟨b4, rfl⟩ : ∃ b, A4 = some ⟨b, 0, none⟩ := by
      rcases ht4.tab.form with ⟨_, h0, _⟩ | ⟨b, e, _⟩
      · omega
      · exact ⟨b, e⟩
    generalize W2 5 (W1 4 M) = C4 at *
    clear ht4 hc4 hb4 HD HRP HP1 HMM HBIN HV HB3
    go_wp2_with fail
    refine (pick_rd g 60 _ _ HR4.out (by omega)).mono ?_
    rintro e w5 ⟨x, rfl, hx, hr5, ho5⟩
    have HR5 := hide hr5
    have HT5 := hide (HT4.out.only ho5 hgl)
    have HO5 := hide ((Only.of_below HB4.out).trans ho5)
    clear hr5 ho5 HT4 HR4
    obtain ⟨hx0, hx1, _⟩ := hx
    have hx1 := hx1 (by omega)
    obtain ⟨x, rfl⟩ := Int.eq_ofNat_of_zero_le hx0
    go_wp2_with fail
    refine (pick_rd g 61 _ _ HR5.out (by omega)).mono ?_
    rintro e w6 ⟨y, rfl, hy, hr6, ho6⟩
    have HR6 := hide (hr6.mono (k' := 100) (by omega))
    have HT6 := hide (HT5.out.only ho6 hgl)
    have HO6 := hide (HO5.out.trans ho6)
    clear hr6 ho6 HT5 HR5 HO5
    obtain ⟨hy0, hy1, _⟩ := hy
    have hy1 := hy1 (by omega)
    obtain ⟨y, rfl⟩ := Int.eq_ofNat_of_zero_le hy0
    have hpx : 2 ^ x < 2 ^ 6 := Nat.pow_lt_pow_right (by omega) (by omega)
    have hpy : 2 ^ y < 2 ^ 6 := Nat.pow_lt_pow_right (by omega) (by omega)
    have hor := or_nat (2 ^ x) (2 ^ y) (by omega) (by omega)
    have hs : 2 ^ x ||| 2 ^ y < 2 ^ 6 := Nat.or_lt_two_pow hpx hpy
    have HPX := hide (fun W => powerN_any x W (by omega))
    have HPY := hide (fun W => powerN_any y W (by omega))
    generalize 2 ^ x ||| 2 ^ y = s at *
    generalize 2 ^ x = px at *
    generalize 2 ^ y = py at *
    go_wp2_with fail
    refine (HPX.out _).mono ?_
    rintro e _ ⟨rfl, rfl⟩
    go_wp2_with fail
    refine (HPY.out _).mono ?_
    rintro e _ ⟨rfl, rfl⟩
    have hs : s < 64 := hs
    clear hx0 hx1 hy0 hy1 hpx hpy
    go_wp2_with fail
    clear hor HPX HPY
    have hgb : w2.heap.size ≤ b4 := by
      rcases HT6.out.tab.form with ⟨h0, _⟩ | ⟨b, e, h1, _⟩
      · cases h0
      · injection e with e; injection e with e; omega
    go_loopw [12] (fun i wr => ∃ (k : Nat) (R : List Sl) (C : Nat → Nat → Int), k ≤ 4 ∧ i = .int .i64 k ∧ TabD wr w2.heap.size w4.heap.size (some ⟨b4, 0, none⟩) 4 c4 R ∧ TbC R 4 6 C ∧ Rd wr g (100 + 10 * k) ∧ Only g w2 wr) (fun i _ => 4 - (intOf i).toNat)
    case atStart => exact ⟨0, _, _, by omega, rfl, HT6.out, HC4.out, HR6.out, HO6.out⟩
    case round =>
      obtain ⟨k, R, C, hk, rfl, ht, hc, hr, ho⟩ := hrel
      have HT := hide ht
      have HC := hide hc
      have HR := hide hr
      have HO := hide ho
      clear ht hc hr ho
      obtain ⟨wo, hwo⟩ : ∃ x, x = wr := ⟨_, rfl⟩
      rw [← hwo] at HT HR HO
      rw [← hwo]
      clear hwo
      by_cases hkq : k < 4
      · have hkI : (k : Int) < 4 := by omega
        go_wp2_with fail
        go_loopw [13] (fun i wr => ∃ (j : Nat) (R : List Sl) (C : Nat → Nat → Int), j ≤ 6 ∧ i = .int .i64 j ∧ TabD wr w2.heap.size w4.heap.size (some ⟨b4, 0, none⟩) 4 c4 R ∧ TbC R 4 6 C ∧ Rd wr g (100 + 10 * k + j) ∧ Only g w2 wr) (fun i _ => 6 - (intOf i).toNat)
        case atStart => exact ⟨0, _, _, by omega, rfl, HT.out, HC.out, HR.out, HO.out⟩
        case round =>
          obtain ⟨j, R5, C5, hj, rfl, ht, hc, hr, ho⟩ := hrel
          by_cases hjm : j < 6
          · have hjI : (j : Int) ≤ 5 := by omega
            cases hbt : bt s j
            · have HT5 := hide ht
              have HC5 := hide hc
              have HR5 := hide hr
              have HO5 := hide ho
              clear ht hc hr ho
              have HBT := hide (fun W => bitS_f s j W (by omega) (by omega) hbt)
              clear hbt
              go_wp2_with fail
              refine (HBT.out _).mono ?_
              rintro e _ ⟨rfl, rfl⟩
              go_wp2_with fail
              go_roundw
              case rel => exact ⟨j + 1, R5, C5, by omega, by go_num, HT5.out, HC5.out, HR5.out.mono (by omega), HO5.out⟩
              case measure => simp [intOf]; omega
            · have HBT := hide (fun W => bitS_t s j W (by omega) (by omega) hbt)
              clear hbt
              obtain ⟨b0, d0, hat⟩ := hc.at_ ht (i := k) (j := j) hkq hjm
              have a0 := hat.row
              have a1 := hat.cell
              have a2 := hat.fz
              have hblt := hat.blt
              have hb4l : b4 < wr.heap.size := by
                rcases ht.tab.form with ⟨h0, _⟩ | ⟨b, e, _, h1, _⟩
                · cases h0
                · injection e with e; injection e with e; omega
              have hlo := hat.lo
              have hcap := hat.cap
              have hne := hat.ne
              have HT5 := hide ht
              have HC5 := hide hc
              have HO5 := hide ho
              have HPK := hide (pick_rd g (100 + 10 * k + j) 2 wr hr (by omega))
              have HPD := hide (pick_rd g (100 + 10 * k + j) 2 wr.drew hr.drew (by omega))
              clear ht hc hr ho hat
              have hkI0 : (0 : Int) ≤ (k : Int) := by omega
              have hjI0 : (0 : Int) ≤ (j : Int) := by omega
              have hjI2 : (j : Int) < 6 := by omega
              go_wp2_with fail
              refine (HBT.out _).mono ?_
              rintro e _ ⟨rfl, rfl⟩
              go_wp2_with fail
              go_region_held3 (fun w' => w'.cell? ⟨b4, k, none⟩ = some (.slice (some ⟨b0, 0, none⟩) 6 d0)) (first | exact a0 | exact y0 | exact (cell_put1 hne).trans y0) (first | (go_at_call 53; refine (by first | exact HPK.out | exact HPD.out : Calls Try.prog 53 #[.pointer (some ⟨g, 0, none⟩), .int .i64 2] _ _).mono ?_; rintro e w7 ⟨v, rfl, _, hr7, ho7'⟩; have ho7 : Only g wr w7 := ⟨ho7'.os, ho7'.tape, ho7'.output, ho7'.size, ho7'.block⟩; have y0 := (ho7.cells.1 b4 k hb4l (by omega)).trans a0; have y1 := (ho7.cells.1 b0 j hblt (by omega)).trans a1; have y2 := (ho7.cells.2 b0 j hblt (by omega)).trans a2; have HT7 := hide (HT5.out.only ho7 hgl); have HR7 := hide hr7; have HO7 := hide (HO5.out.trans ho7); obtain ⟨b7, d7, hat7⟩ := HC5.out.at_ HT7.out (i := k) (j := j) hkq hjm; obtain rfl := (hat7.same y0).symm; have HSET := hide (hat7.set v); clear hr7 ho7 ho7' hat7))
              all_goals
                obtain ⟨R9, ht9, hc9⟩ := HSET.out
                have HF := hide (show _ ∧ _ ∧ _ ∧ _ from ⟨ht9, hc9, HR7.out.set1 (p := ⟨b0, j, none⟩) (show g < b0 by omega) (.int .i64 v), HO7.out.setCell (p := ⟨b0, j, none⟩) (.inr (show w2.heap.size ≤ b0 by omega)) (.int .i64 v)⟩)
                clear ht9 hc9
                go_wp2_with fail
                go_roundw
                case rel => first | exact ⟨j + 1, _, _, by omega, by go_num, HF.out.1, HF.out.2.1, HF.out.2.2.1.mono (by omega), HF.out.2.2.2⟩ | exact ⟨j + 1, _, _, by omega, by go_num, HF.out.1.drew, HF.out.2.1, (HF.out.2.2.1.mono (by omega)).drew, HF.out.2.2.2.drew⟩
                case measure => simp [intOf]; omega
          · obtain rfl : j = 6 := by omega
            have HT5 := hide ht
            have HC5 := hide hc
            have HR5 := hide hr
            have HO5 := hide ho
            clear ht hc hr ho
            go_wp2_with fail
            go_roundw
            case rel => exact ⟨k + 1, R5, C5, by omega, by go_num, HT5.out, HC5.out, HR5.out.mono (by omega), HO5.out⟩
            case measure => simp [intOf]; omega
      · obtain rfl : k = 4 := by omega
        have HPK := hide (pick_rd g (100 + 10 * 4) 16 wo HR.out (by omega))
        go_wp2_with fail
        refine (HPK.out).mono ?_
        rintro e w7 ⟨v, rfl, _, hr7, ho7⟩
        have HT7 := hide (HT.out.only ho7 hgl)
        have HR7 := hide (hr7.mono (k' := 200) (by omega))
        have HO7 := hide (HO.out.trans ho7)
        clear HPK hr7 ho7
        have hbw : ∀ w', Only g w2 w' → Below W.heap.size W w' := fun w' h => HB2.out.trans (h.below (by omega) HB2.out.size)
        have HBX := hide hbw
        clear hbw
        by_cases v0 : v = 0
        · subst v0
          have HPK := hide (pick_rd g 200 6 w7 HR7.out (by omega))
          have HPD := hide (pick_rd g 200 6 w7.drew HR7.out.drew (by omega))
          obtain ⟨b0, d0, hat⟩ := HC.out.at_ HT7.out (i := 0) (j := 0) (by omega) (by omega)
          have a0 := hat.row
          have hblt := hat.blt
          have hcap := hat.cap
          have hne := hat.ne
          have hlo := hat.lo
          have hb4l : b4 < w7.heap.size := by
            rcases HT7.out.tab.form with ⟨h0, _⟩ | ⟨b, e, _, h1, _⟩
            · cases h0
            · injection e with e; injection e with e; omega
          clear hat
          go_wp2_with fail
          go_region_held3 (fun w' => w'.cell? ⟨b4, 0, none⟩ = some (.slice (some ⟨b0, 0, none⟩) 6 d0)) (first | exact a0 | exact y0 | exact (cell_put1 hne).trans y0) (first | (go_at_call 53; refine (by first | exact HPK.out | exact HPD.out : Calls Try.prog 53 #[.pointer (some ⟨g, 0, none⟩), .int .i64 6] _ _).mono ?_; rintro e w8 ⟨v, rfl, hv, hr8, ho8'⟩; obtain ⟨hv0, hv1, _⟩ := hv; obtain ⟨j, rfl⟩ := Int.eq_ofNat_of_zero_le hv0; have hvJ : (j : Int) < 6 := hv1 (by omega); have hvN : j < 6 := (by omega); have ho8 : Only g w7 w8 := ⟨ho8'.os, ho8'.tape, ho8'.output, ho8'.size, ho8'.block⟩; have y0 := (ho8.cells.1 b4 0 hb4l (by omega)).trans a0; have HT8 := hide (HT7.out.only ho8 hgl); have HR8 := hide hr8; have HO8 := hide (HO7.out.trans ho8); obtain ⟨b8, d8, hat8⟩ := HC.out.at_ HT8.out (i := 0) (j := j) (by omega) hvN; obtain rfl := (hat8.same y0).symm; have y1 := hat8.cell; have y2 := hat8.fz; have HSET := hide (hat8.set 1); clear hr8 ho8 ho8' hat8))
          all_goals
            obtain ⟨R9, ht9, hc9⟩ := HSET.out
            have HF := hide (show _ ∧ _ ∧ _ from ⟨ht9, hc9, HBX.out _ (HO8.out.setCell (p := ⟨b0, j, none⟩) (.inr (show w2.heap.size ≤ b0 by omega)) (.int .i64 1))⟩)
            clear ht9 hc9
            go_wp2_with fail
            go_ret3
            first | exact DmPost.of HF.out.1 HF.out.2.1 (by omega) (by omega) HF.out.2.2 | exact DmPost.of HF.out.1.drew HF.out.2.1 (by omega) (by omega) HF.out.2.2.drew
        have w0 : (v == 0) = false := by simp [v0]
        by_cases v1 : v = 1
        · subst v1
          have HPC := hide (fun W => powerN_any 6 W (by omega))
          go_wp2_with fail
          refine (HPC.out _).mono ?_
          rintro e _ ⟨rfl, rfl⟩
          go_wp2_with fail
          refine (one_lit g 200 [7, -1, 64, 0] _ 4 4 w7 _ HR7.out rfl rfl (by omega) (by omega) (by omega)).mono ?_
          rintro e w8 ⟨x, _, rfl, _, ho8⟩
          have HT8 := hide (HT7.out.only ho8 hgl)
          have HB8 := hide (HBX.out _ (HO7.out.trans ho8))
          go_wp2_with fail
          go_ret3
          exact DmPost.of HT8.out HC.out (by omega) (by omega) HB8.out
        have w1' : (v == 1) = false := by simp [v1]
        have HB7 := hide (HBX.out _ HO7.out)
        clear v0 v1
        go_wp2_with fail
        go_ret3
        exact DmPost.of HT7.out HC.out (by omega) (by omega) HB7.out
end Go.Proofs.Ytkalecdjcdgodaa
