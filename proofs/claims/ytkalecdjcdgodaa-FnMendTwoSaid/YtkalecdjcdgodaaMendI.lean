/-
  MendTwo, the program's: the first filling that fits. Conditions: the rows are p-1 rows of p+1 bits that can be read, at most two columns lost.
-/
import Derived.Test.YtkalecdjcdgodaaPair
import Derived.Test.YtkalecdjcdgodaaTabK
import Derived.Test.YtkalecdjcdgodaaPlusI
import Derived.Test.YtkalecdjcdgodaaPeelI
import Derived.Test.YtkalecdjcdgodaaSize
import Derived.StillTailTactics
namespace Go.Proofs.Ytkalecdjcdgodaa
open Go.RowKit

/-- what MendTwo gives for valid arguments, by both -/
def MdPostM (p s : Nat) (M : Nat → Nat → Int) (w : World) (e : Ending) (w' : World) : Prop :=
  Below w.heap.size w w' ∧ ((mendG p s M = none ∧ e = .returned (.tuple #[.slice none 0 0, .bool false])) ∨
    ∃ g A' c', mendG p s M = some g ∧ e = .returned (.tuple #[.slice A' (p - 1) c', .bool true]) ∧ MT w' w.heap.size w'.heap.size A' (p - 1) (fun _ => p - 1) (fillA p s g M))
theorem MdPost.to {p s : Nat} {M : Nat → Nat → Int} {w w' : World} {e : Ending} (h : MdPost p s M w e w') : MdPostM p s M w e w' := by
  refine ⟨h.1, ?_⟩
  rcases h.2 with h1 | ⟨g, A', c', R, h1, h2, h3, h4⟩
  · exact .inl h1
  · exact .inr ⟨g, A', c', h1, h2, h4.mt h3⟩

set_option maxRecDepth 100000 in
set_option maxHeartbeats 4000000 in
theorem mendI3_any (A : Option Addr) (c s : Nat) (M : Nat → Nat → Int) (w : World) (hs : s < 16) (hw : wt s ≤ 2) (hM : Bin 2 (3 + 1) M) (h : MatC w w.heap.size A 2 (fun _ => 4) M)
    (hbk : Calls Try.prog 70 #[.slice A 2 c, .int .i64 2, .int .i64 4] w fun e w' => e = .returned (.bool true) ∧ Below w.heap.size w w') :
    Calls Try.prog 41 #[.int .i64 3, .slice A 2 c, .int .i64 s] w (MdPostM 3 s M w) := by
  obtain ⟨b, off, rfl, hbl, hc⟩ := h (by omega)
  have HB := hide hM
  have HC0 := hide hc
  have HBK := hide hbk
  have HAP := hide (fun W => arrayPrime_any 3 W)
  have HSZ := hide (fun W => size_any s W (by omega))
  have hsI : inR (s : Int) 0 15 = true := inR_true.2 ⟨by omega, by omega⟩
  have HIN : Hid (∀ W, Calls Try.prog 55 #[.int .i64 (s : Nat), .int .i64 0, .int .i64 15] W fun e w' => e = .returned (.bool true) ∧ W = w') := hide (fun W => by
    have := within_any s 0 15 W
    rw [hsI] at this
    exact this)
  clear h hM hc hbk hsI
  have hmk1 : ∀ w, (Instr.makeSlice 42 (.int .i64 0) (.int .i64 2)).run Try.prog w = .ok (.slice (some ⟨w.heap.size, 0, none⟩) 0 2) (w.alloc (.cells #[.slice none 0 0, .slice none 0 0] 22)) := fun _ => by kernel_rfl
  have H8 : Hid ((clT 2 s (2 * 2)).length ≤ 8) := hide (by
    have := clT_8.1 s hs
    have e : (clT 2 s (2 * 2)).length = (clT 2 s 4).length := rfl
    omega)
  generalize wt s = ws at *
  go_enter Try.func41, Try.ntmps41
  go_wp2_with fail
  refine (HAP.out _).mono ?_
  rintro e _ ⟨rfl, rfl⟩
  go_wp2_with fail
  refine (HBK.out).mono ?_
  rintro e w1 ⟨rfl, hb1⟩
  have hz1 := hb1.size
  go_wp2_with fail
  refine (HIN.out _).mono ?_
  rintro e _ ⟨rfl, rfl⟩
  go_wp2_with fail
  refine (HSZ.out _).mono ?_
  rintro e _ ⟨rfl, rfl⟩
  go_wp2_with fail
  go_loopw [8, 51] (fun v i wr => ∃ (r : Nat) (n : Nat) (A' : Option Addr) (c' : Nat), r ≤ 2 ∧ i = .int .i64 r ∧ v = .slice A' n c' ∧ (n = (clT 2 s (r * 2)).length ∧ n ≤ 16) ∧ Prs wr w.heap.size A' n c' (clT 2 s (r * 2)) ∧ Below w.heap.size w wr) (fun _ i _ => 2 - (intOf i).toNat)
  case atStart => exact ⟨0, 0, _, _, by omega, rfl, rfl, ⟨rfl, by omega⟩, Prs.empty hz1, hb1.alloc hz1 _⟩
  case round =>
    obtain ⟨r, n, A', c', hr, rfl, rfl, hn, ht, hb⟩ := hrel
    have HT := hide ht
    have HN := hide hn
    have hn16 := hn.2
    have hz := hb.size
    clear ht hn
    by_cases hlt : r < 2
    · obtain ⟨wo, hwo⟩ : ∃ x, x = wr := ⟨_, rfl⟩
      rw [← hwo] at HT hb hz
      rw [← hwo]
      clear hwo
      have hrI : (r : Int) < 2 := by omega
      go_wp2_with fail
      go_loopw [8, 56] (fun v i wr => ∃ (k : Nat) (n : Nat) (A' : Option Addr) (c' : Nat), k ≤ 2 ∧ i = .int .i64 k ∧ v = .slice A' n c' ∧ (n = (clT 2 s (r * 2 + k)).length ∧ n ≤ 16) ∧ Prs wr w.heap.size A' n c' (clT 2 s (r * 2 + k)) ∧ Below w.heap.size w wr) (fun _ i _ => 2 - (intOf i).toNat)
      case atStart => exact ⟨0, n, _, _, by omega, rfl, rfl, HN.out, HT.out, hb⟩
      case round =>
        obtain ⟨k, n2, A2, c2, hk, rfl, rfl, hn2, ht2, hb2⟩ := hrel
        have HT2 := hide ht2
        have HN2 := hide hn2
        have hn216 := hn2.2
        have hz2 := hb2.size
        clear ht2 hn2
        by_cases hkq : k < 2
        · have hkI : (k : Int) < 2 := by omega
          have HCL := hide (clT_in (s := s) (r := r) hkq)
          cases hbt : bt s k
          · obtain ⟨f1, f2⟩ := bt_f (show s ≤ 9223372036854775807 by omega) hbt
            rw [hbt] at HCL
            clear hbt
            have HY := hide (show clT 2 s (r * 2 + (k + 1)) = clT 2 s (r * 2 + k) by rw [← Nat.add_assoc, HCL.out]; simp)
            go_wp2_with fail
            go_roundw
            case rel => first | exact ⟨k + 1, n2, _, _, by omega, by go_num, rfl, by rw [HY.out]; exact HN2.out, by rw [HY.out]; exact HT2.out, hb2⟩ | ((repeat apply Exists.intro); exact ⟨⟨k + 1, n2, _, _, by omega, by go_num, rfl, by rw [HY.out]; exact HN2.out, by rw [HY.out]; exact HT2.out, hb2⟩, rfl⟩)
            case measure => simp [intOf]; omega
          · obtain ⟨f1, f2⟩ := bt_t (show s ≤ 9223372036854775807 by omega) hbt
            rw [hbt] at HCL
            clear hbt
            have hlen := clT_len 2 s (r * 2 + k + 1)
            have HL := hide (show n2 + 1 = (clT 2 s (r * 2 + k + 1)).length by rw [HCL.out, List.length_append, HN2.out.1]; rfl)
            have h16 : n2 + 1 ≤ 16 := by rw [HL.out]; omega
            clear hlen
            go_wp2_with (at_builtin; (refine push_pair rfl _ _ rfl rfl HT2.out r k _ rfl (by omega) (by omega) ?_; intro A3 c3 w3 ht3 hb3; have HX := hide (show Prs w3 w.heap.size A3 (n2 + 1) c3 (clT 2 s (r * 2 + k + 1)) ∧ Below w.heap.size w w3 from ⟨by rw [HCL.out]; exact ht3, hb2.trans hb3⟩); clear ht3 hb3))
            go_roundw
            case rel => first | exact ⟨k + 1, n2 + 1, _, _, by omega, by go_num, rfl, ⟨HL.out, h16⟩, HX.out.1, HX.out.2⟩ | ((repeat apply Exists.intro); exact ⟨⟨k + 1, n2 + 1, _, _, by omega, by go_num, rfl, ⟨HL.out, h16⟩, HX.out.1, HX.out.2⟩, rfl⟩)
            case measure => simp [intOf]; omega
        · obtain rfl : k = 2 := by omega
          go_wp2_with fail
          go_roundw
          case rel => exact ⟨r + 1, n2, _, _, by omega, by go_num, rfl, by rw [Nat.add_mul, Nat.one_mul]; exact HN2.out, by rw [Nat.add_mul, Nat.one_mul]; exact HT2.out, hb2⟩
          case measure => simp [intOf]; omega
    · obtain rfl : r = 2 := by omega
      obtain ⟨wc, hwc⟩ : ∃ x, x = wr := ⟨_, rfl⟩
      rw [← hwc] at HT hb hz
      rw [← hwc]
      clear hwc
      have h8 : n ≤ 8 := by
        have h9 := HN.out.1
        have := H8.out
        omega
      obtain ⟨gc, hgc⟩ : ∃ x, x = cap2 3 s := ⟨_, rfl⟩
      have hgn : gc = 2 ^ n := by rw [hgc, HN.out.1]; rfl
      have hgb : 1 ≤ gc ∧ gc ≤ 256 := by
        have h1 : 2 ^ n ≤ 2 ^ 8 := Nat.pow_le_pow_right (by omega) h8
        have h2 : 0 < 2 ^ n := Nat.two_pow_pos n
        omega
      have HGI := hide (show (2 : Int) ^ n = ((gc : Nat) : Int) by rw [hgn]; push_cast; rfl)
      have HGC := hide hgc
      have p1 := two_pow_pos n
      have p2 : (2 : Int) ^ n ≤ 256 := by rw [HGI.out]; omega
      clear hgc hgn
      go_wp2_with fail
      clear p1 p2
      go_loopw [75] (fun i wr => ∃ g : Nat, g ≤ gc ∧ i = .int .i64 g ∧ (∀ t, t < g → okT 3 s M (fillA 3 s t M) = false) ∧ Below wc.heap.size wc wr) (fun i _ => gc - (intOf i).toNat)
      case atStart => exact ⟨0, by omega, rfl, by simp, Below.refl _ _⟩
      case round =>
        obtain ⟨g, hg, rfl, hno, hbw⟩ := hrel
        have HNO := hide hno
        clear hno
        by_cases hlg : g < gc
        · obtain ⟨wg, hwg⟩ : ∃ x, x = wr := ⟨_, rfl⟩
          rw [← hwg] at hbw
          rw [← hwg]
          clear hwg
          have hzg : wc.heap.size ≤ wg.heap.size := hbw.size
          have HBG := hide (up hbw hb hz)
          have hgI : (g : Int) < 2 ^ n := by rw [HGI.out]; omega
          go_wp2_with fail
          clear hgI
          go_loopw [12, 83] (fun v i wx => ∃ (k : Nat) (A3 : Option Addr) (c3 : Nat) (R3 : List Sl), k ≤ 2 ∧ i = .int .i64 k ∧ v = .slice A3 k c3 ∧ TK wx wg.heap.size wx.heap.size A3 k c3 R3 ∧ TbC R3 k 2 M ∧ Below wg.heap.size wg wx) (fun _ i _ => 2 - (intOf i).toNat)
          case atStart => exact ⟨0, _, _, [], by omega, rfl, rfl, TK.empty 2 rfl (Nat.le_refl _), TbC.nil _ _, (Below.refl _ _).alloc (Nat.le_refl _) _⟩
          case round =>
            obtain ⟨k, A3, c3, R3, hk, rfl, rfl, ht3, hcp3, hb3⟩ := hrel
            have HT3 := hide ht3
            have HC3 := hide hcp3
            have hz3 := hb3.size
            have hbx : Below w.heap.size w wr := up hb3 HBG.out HBG.out.size
            have hzx := hbx.size
            clear ht3 hcp3
            by_cases hkq : k < 2
            · have hkI : (k : Int) < 2 := by omega
              obtain ⟨R1, C1, e1, eC, e2⟩ := HC0.out k hkq
              have hck := (hbx.cell (p := ⟨b, off + k, none⟩) hbl).trans e1
              obtain ⟨rb, ro, rfl, hrb, hcr⟩ := e2 (by omega)
              have HCL := hide (slClone_any (some ⟨rb, ro, none⟩) 2 C1 (M k) wr (by omega) ((ints_cut (show Ints w w.heap.size (some ⟨rb, ro, none⟩) 4 (M k) from e2) (by omega)).keep hbx hzx))
              clear e1 e2 hcr
              have hbl2 : b < wr.heap.size := by omega
              have HP := hide (fun (A : Option Addr) (c : Nat) => HC3.out.push (A := A) (c := c) (xs := listOf 2 (M k)) (by simp [listOf_len]) (fun j hj => listOf_getD _ hj))
              go_wp2_with fail
              refine (HCL.out).mono ?_
              rintro e w1 ⟨A4, c4, rfl, hr4, hb4⟩
              have hcap := hr4.cap
              have hc4' : c4 ≤ 9223372036854775807 := by
                rcases hr4.2.2 with ⟨e1, _⟩ | ⟨g, cap, cur, e1, _, _, _, e2, _⟩
                · injection e1 with _ _ e3; omega
                · injection e1 with _ _ e3; unfold maxLen at e2; omega
              have hz4 := hb4.size
              have HR4 := hide hr4
              have HB4 := hide hb4
              clear hr4 hb4
              go_wp2_with fail
              refine (clip_any A4 2 c4 w1 hcap hc4').mono ?_
              rintro e _ ⟨rfl, rfl⟩
              clear hcap hc4'
              go_wp2_with (at_builtin; (refine push_clp rfl _ _ rfl R3 rfl (HT3.out.keep HB4.out) A4 2 c4 (listOf 2 (M k)) HR4.out hz3 _ rfl (by omega) hz4 ?_; intro A6 c6 w6 ht6 hb6; have HX := hide (show _ ∧ _ from ⟨ht6, (hb3.trans (HB4.out.mono hz3)).trans hb6⟩); clear ht6 hb6))
              go_roundw
              case rel => first | exact ⟨k + 1, _, _, _, by omega, by go_num, rfl, HX.out.1, HP.out A4 c4, HX.out.2⟩ | ((repeat apply Exists.intro); exact ⟨⟨k + 1, _, _, _, by omega, by go_num, rfl, HX.out.1, HP.out A4 c4, HX.out.2⟩, rfl⟩)
              case measure => simp [intOf]; omega
            · obtain rfl : k = 2 := by omega
              obtain ⟨wa, hwa⟩ : ∃ x, x = wr := ⟨_, rfl⟩
              rw [← hwa] at HT3 hb3 hz3
              rw [← hwa]
              clear hwa hbx hzx
              obtain ⟨bA, eA, hbA⟩ : ∃ bA, A3 = some ⟨bA, 0, none⟩ ∧ bA < wa.heap.size := by
                rcases HT3.out.form with ⟨_, h, _⟩ | ⟨b, e, _, h, _⟩
                · omega
                · exact ⟨b, e, h⟩
              subst eA
              have HCm := hide (fun x (hx : x ∈ clT 2 s (2 * 2)) => clT_mem (by omega) hx)
              have HNl := hide HN.out.1
              generalize hCS : clT 2 s (2 * 2) = CS at *
              have HCS := hide hCS
              clear hCS
              go_wp2_with fail
              go_loopw [99] (fun i wx => ∃ (j : Nat) (R4 : List Sl), j ≤ n ∧ i = .int .i64 j ∧ TK wx wg.heap.size wa.heap.size (some ⟨bA, 0, none⟩) 2 c3 R4 ∧ TbC R4 2 2 (fillT CS g M j) ∧ Below wg.heap.size wg wx ∧ wa.heap.size ≤ wx.heap.size) (fun i _ => n - (intOf i).toNat)
              case atStart => exact ⟨0, R3, by omega, rfl, HT3.out, HC3.out, hb3, Nat.le_refl _⟩
              case round =>
                obtain ⟨j, R4, hj, rfl, ht4, hcp4, hb4, hz4⟩ := hrel
                have HT4 := hide ht4
                have HC4 := hide hcp4
                clear ht4 hcp4
                by_cases hjn : j < n
                · have hbc4 : Below wc.heap.size wc wr := up hb4 hbw hzg
                  obtain ⟨bC, eC, hbC⟩ : ∃ bC, A' = some ⟨bC, 0, none⟩ ∧ bC < wc.heap.size := by
                    rcases HT.out.form with ⟨_, h, _⟩ | ⟨b, e, _, h, _⟩
                    · omega
                    · exact ⟨b, e, h⟩
                  subst eC
                  obtain ⟨a0, a1⟩ := (HT.out.keep hbc4).at_ hjn
                  have hx := HCm.out (CS.getD j (0, 0)) (by
                    simp only [List.getD, List.getElem?_eq_getElem (show j < CS.length by have := HNl.out; omega), Option.getD_some]
                    exact List.getElem_mem _)
                  have HS := hide (show fillT CS g M (j + 1) = upd (fillT CS g M j) (CS.getD j (0, 0)).1 (CS.getD j (0, 0)).2 (gb g j) from rfl)
                  obtain ⟨x2, _, _, x1⟩ := hx
                  have x1 := x1 (Nat.le_refl _)
                  generalize (CS.getD j (0, 0)).1 = u at *
                  generalize (CS.getD j (0, 0)).2 = v at *
                  have hzr : bC < wr.heap.size := by omega
                  have hbAr : bA < wr.heap.size := by omega
                  have hjI : (0 : Int) ≤ (j : Int) := by omega
                  have hjI2 : (j : Int) < (n : Int) := by omega
                  go_wp2_with fail
                  refine nameCode (fun wx => wx.cell? ⟨wr.heap.size, 0, none⟩ = some (.int .i64 (u : Nat)) ∧ wx.cell? ⟨wr.heap.size, 1, none⟩ = some (.int .i64 (v : Nat)) ∧ TK wx wg.heap.size wa.heap.size (some ⟨bA, 0, none⟩) 2 c3 R4 ∧ Below wg.heap.size wg wx ∧ wa.heap.size ≤ wx.heap.size) ⟨by simp, by simp, HT4.out.keep ((Below.refl _ _).alloc (Nat.le_refl _) _), hb4.alloc hb4.size _, by simp; omega⟩ ?_
                  rintro wx ⟨q0, q1, ht5, hb5, hz5⟩
                  obtain ⟨b2, hat2⟩ := HC4.out.atK ht5 (i := u) (j := v) x1 x2
                  have a4 := hat2.row
                  have a5 := hat2.cell
                  have a6 := hat2.fz
                  have hlo := hat2.lo
                  have HB5 := hide hb5
                  have HZ5 := hide hz5
                  have HSET := hide (show ∀ z, z = gb g j → ∃ R', TK (wx.setCell ⟨b2, v, none⟩ (.int .i64 z)) wg.heap.size wa.heap.size (some ⟨bA, 0, none⟩) 2 c3 R' ∧ TbC R' 2 2 (upd (fillT CS g M j) u v (gb g j)) from fun z hz => by subst hz; exact hat2.set (gb g j))
                  have HGB := hide (show bits .and .i64 ((g : Int) / 2 ^ j) 1 = gb g j by
                    rw [and_one g j (by omega), bt, gb]
                    by_cases h : g / 2 ^ j % 2 = 1
                    · simp [h]
                    · have : g / 2 ^ j % 2 = 0 := by omega
                      simp [this])
                  have huI : (0 : Int) ≤ (u : Int) := by omega
                  have huI2 : (u : Int) < 2 := by omega
                  have hvI : (0 : Int) ≤ (v : Int) := by omega
                  have hvI2 : (v : Int) < 2 := by omega
                  clear hat2 ht5 hb5 hz5
                  go_still_tail 12, (by kernel_rfl)
                  change wpList _ _ _ _ _ wx.drew
                  go_wp2_with fail
                  obtain ⟨R5, hq1, hq2⟩ := HSET.out _ HGB.out
                  have HQ := hide (show _ ∧ _ from ⟨hq1, hq2⟩)
                  clear hq1 hq2
                  go_roundw
                  case rel => first | exact ⟨j + 1, R5, by omega, by go_num, HQ.out.1.drew, by rw [HS.out]; exact HQ.out.2, Below.drew (HB5.out.setCell (p := ⟨b2, v, none⟩) hlo _), by simpa [World.setCell] using HZ5.out⟩ | ((repeat apply Exists.intro); exact ⟨⟨j + 1, R5, by omega, by go_num, HQ.out.1.drew, by rw [HS.out]; exact HQ.out.2, Below.drew (HB5.out.setCell (p := ⟨b2, v, none⟩) hlo _), by simpa [World.setCell] using HZ5.out⟩, rfl⟩)
                  case measure => simp [intOf]; omega
                · obtain rfl : j = n := by omega
                  obtain ⟨wf, hwf⟩ : ∃ x, x = wr := ⟨_, rfl⟩
                  rw [← hwf] at HT4 hb4 hz4
                  rw [← hwf]
                  clear hwf
                  have hFA : fillT CS g M j = fillA 3 s g M := by
                    show fillT CS g M j = fillT (clT 2 s (2 * 2)) g M (clT 2 s (2 * 2)).length
                    rw [HCS.out, HNl.out]
                  rw [hFA] at HC4
                  have HAE : ∃ X, X = fillA 3 s g M := ⟨_, rfl⟩
                  obtain ⟨AA, hAA⟩ := HAE
                  have hBA : Bin 2 2 (fillA 3 s g M) := by
                    rw [← hFA]
                    exact fillT_bin (fun i j hi hj => HB.out i j hi (by omega)) j
                  have HGY := hide (fun (h : okT 3 s M (fillA 3 s g M) = true) => mendG_some (p := 3) (s := s) (M := M) (show g < cap2 3 s by rw [← HGC.out]; exact hlg) h HNO.out)
                  have HOK := hide (okr_all (p := 3) (s := s) (M := M) (A := AA))
                  have HGN := hide (show okT 3 s M (fillA 3 s g M) = false → ∀ t, t < g + 1 → okT 3 s M (fillA 3 s t M) = false from fun h t ht => by
                    by_cases e : t = g
                    · subst e; exact h
                    · exact HNO.out t (by omega))
                  have HFT := hide (show TbC R4 2 2 (fillA 3 s g M) from HC4.out)
                  clear hFA HC4
                  rw [← hAA] at HGY HGN HFT hBA
                  have HAA := hide hAA
                  clear hAA
                  have HD := hide (plusTwo3_any (some ⟨bA, 0, none⟩) c3 AA wf hBA (HFT.out.matK HT4.out))
                  clear hBA
                  go_wp2_with fail
                  refine (HD.out).mono ?_
                  rintro e w2 ⟨A2, c2, R2, rfl, t3, t4, hb2⟩
                  have hz2 := hb2.size
                  have HB2 := hide hb2
                  have HM2 := hide (show Mat w2 w2.heap.size A2 2 (fun _ => 4) (plusF 3 AA) from t4.mat t3)
                  clear t3 t4 hb2
                  obtain ⟨b2, o2, rfl, hbl2, hc2⟩ := HM2.out (by omega)
                  have HC2 := hide hc2
                  have hzf := hb4.size
                  have HB0 := hide (show Below w.heap.size w w2 from up HB2.out (up hb4 HBG.out HBG.out.size) (by have := HBG.out.size; omega))
                  clear hc2
                  go_wp2_with fail
                  go_loopw [17, 121] (fun v i wx => ∃ r : Nat, r ≤ 2 ∧ i = .int .i64 r ∧ v = .bool (okr 3 s 0 M AA r) ∧ Below w2.heap.size w2 wx) (fun _ i _ => 2 - (intOf i).toNat)
                  case atStart => exact ⟨0, by omega, rfl, rfl, Below.refl _ _⟩
                  case round =>
                    obtain ⟨r, hr2, rfl, rfl, hb6⟩ := hrel
                    obtain ⟨wo, hwo⟩ : ∃ x, x = wr := ⟨_, rfl⟩
                    rw [← hwo] at hb6
                    rw [← hwo]
                    clear hwo
                    by_cases hrq : r < 2
                    · have HS2 := hide (show okr 3 s 0 M AA (r + 1) = (okr 3 s 0 M AA r && okc 3 s 0 M AA r 4) from rfl)
                      generalize okr 3 s 0 M AA r = z at *
                      obtain ⟨Rr, Cr, f1, f2⟩ := HC2.out r hrq
                      obtain ⟨b3, o3, rfl, hb3l, f3⟩ := f2 (by omega)
                      obtain ⟨Rw, Cw, g1, _, g2⟩ := HC0.out r hrq
                      obtain ⟨b5, o5, rfl, hb5l, g3⟩ := g2 (by omega)
                      have x1 := (hb6.cell (p := ⟨b2, o2 + r, none⟩) hbl2).trans f1
                      have HB6 := hide hb6
                      have F3 := hide f3
                      have G1 := hide g1
                      have G3 := hide g3
                      have hrI : (r : Int) < 2 := by omega
                      clear hb6 f1 f2 f3 g1 g2 g3
                      go_wp2_with fail
                      clear x1
                      go_loopw [17, 128] (fun v i wx => ∃ k : Nat, k ≤ 4 ∧ i = .int .i64 k ∧ v = .bool (z && okc 3 s 0 M AA r k) ∧ Below w2.heap.size w2 wx) (fun _ i _ => 4 - (intOf i).toNat)
                      case atStart => exact ⟨0, by omega, rfl, by rw [okc, Bool.and_true], HB6.out⟩
                      case round =>
                        obtain ⟨k, hk, rfl, rfl, hb7⟩ := hrel
                        by_cases hkm : k < 4
                        · have hkI : (k : Int) < 4 := by omega
                          have HS := hide (show (z && okc 3 s 0 M AA r (k + 1)) = ((z && okc 3 s 0 M AA r k) && (bt s k || plusF 3 AA r k == M r k)) by rw [okc, decide_eq_false (show ¬ k < 0 by omega), Bool.false_or, Bool.and_assoc])
                          have hbw7 := up hb7 HB0.out HB0.out.size
                          have x2 := (hb7.cell (p := ⟨b3, o3 + k, none⟩) hb3l).trans (F3.out k hkm)
                          have x3 := (hbw7.cell (p := ⟨b, off + r, none⟩) hbl).trans G1.out
                          have x4 := (hbw7.cell (p := ⟨b5, o5 + k, none⟩) hb5l).trans (G3.out k hkm)
                          have HB7 := hide hb7
                          clear hb7 hbw7
                          generalize (z && okc 3 s 0 M AA r k) = o at *
                          generalize plusF 3 AA r k = x at *
                          generalize M r k = y at *
                          cases o
                          · go_wp2_with fail
                            go_roundw
                            case rel => exact ⟨k + 1, by omega, by go_num, by rw [HS.out]; rfl, HB7.out⟩
                            case measure => simp [intOf]; omega
                          cases hbt : bt s k
                          · obtain ⟨h1, h2⟩ := bt_f (show s ≤ 9223372036854775807 by omega) hbt
                            rw [hbt] at HS
                            clear hbt
                            cases hxy : x == y
                            all_goals
                              rw [hxy] at HS
                              go_wp2_with fail
                              go_roundw
                              case rel => exact ⟨k + 1, by omega, by go_num, by rw [HS.out]; rfl, HB7.out⟩
                              case measure => simp [intOf]; omega
                          · obtain ⟨h1, h2⟩ := bt_t (show s ≤ 9223372036854775807 by omega) hbt
                            rw [hbt] at HS
                            clear hbt
                            go_wp2_with fail
                            go_roundw
                            case rel => exact ⟨k + 1, by omega, by go_num, by rw [HS.out]; rfl, HB7.out⟩
                            case measure => simp [intOf]; omega
                        · obtain rfl : k = 4 := by omega
                          go_wp2_with fail
                          go_roundw
                          case rel => exact ⟨r + 1, by omega, by go_num, by rw [HS2.out], hb7⟩
                          case measure => simp [intOf]; omega
                    · obtain rfl : r = 2 := by omega
                      have HBE := hide (show Below wf.heap.size wf wo from up hb6 HB2.out HB2.out.size)
                      clear hb6
                      rw [show okr 3 s 0 M AA 2 = okT 3 s M AA from HOK.out]
                      cases hok : okT 3 s M AA
                      · have HN2 := hide (HGN.out hok)
                        clear hok
                        go_wp2_with fail
                        go_roundw
                        case rel => first | exact ⟨g + 1, by omega, by go_num, HN2.out, up (up HBE.out hb4 hzf) hbw hzg⟩ | ((repeat apply Exists.intro); exact ⟨⟨g + 1, by omega, by go_num, HN2.out, up (up HBE.out hb4 hzf) hbw hzg⟩, rfl⟩)
                        case measure => simp [intOf]; omega
                      · have HY := hide (HGY.out hok)
                        clear hok
                        go_wp2_with fail
                        go_ret2
                        exact ⟨up (up HBE.out hb4 hzf) HBG.out HBG.out.size, .inr ⟨g, _, _, HY.out, rfl, by rw [← HAA.out]; exact HFT.out.mtK ((HT4.out.keep HBE.out).mono (by have := HBG.out.size; omega) (Nat.le_refl _))⟩⟩
        · obtain rfl : g = gc := by omega
          have HNONE := hide (mendG_none (p := 3) (s := s) (M := M) (fun t ht => HNO.out t (by rw [HGC.out]; exact ht)))
          have hgI : ¬ (g : Int) < 2 ^ n := by rw [HGI.out]; omega
          go_wp2_with fail
          go_ret2
          exact ⟨up hbw hb hz, .inl ⟨HNONE.out, rfl⟩⟩

set_option maxRecDepth 100000 in
set_option maxHeartbeats 4000000 in
theorem mendI5_any (A : Option Addr) (c s : Nat) (M : Nat → Nat → Int) (w : World) (hs : s < 64) (hw : wt s ≤ 2) (hM : Bin 4 (5 + 1) M) (h : MatC w w.heap.size A 4 (fun _ => 6) M)
    (hbk : Calls Try.prog 70 #[.slice A 4 c, .int .i64 4, .int .i64 6] w fun e w' => e = .returned (.bool true) ∧ Below w.heap.size w w') :
    Calls Try.prog 41 #[.int .i64 5, .slice A 4 c, .int .i64 s] w (MdPostM 5 s M w) := by
  obtain ⟨b, off, rfl, hbl, hc⟩ := h (by omega)
  have HB := hide hM
  have HC0 := hide hc
  have HBK := hide hbk
  have HAP := hide (fun W => arrayPrime_any 5 W)
  have HSZ := hide (fun W => size_any s W (by omega))
  have hsI : inR (s : Int) 0 63 = true := inR_true.2 ⟨by omega, by omega⟩
  have HIN : Hid (∀ W, Calls Try.prog 55 #[.int .i64 (s : Nat), .int .i64 0, .int .i64 63] W fun e w' => e = .returned (.bool true) ∧ W = w') := hide (fun W => by
    have := within_any s 0 63 W
    rw [hsI] at this
    exact this)
  clear h hM hc hbk hsI
  have hmk1 : ∀ w, (Instr.makeSlice 42 (.int .i64 0) (.int .i64 4)).run Try.prog w = .ok (.slice (some ⟨w.heap.size, 0, none⟩) 0 4) (w.alloc (.cells #[.slice none 0 0, .slice none 0 0, .slice none 0 0, .slice none 0 0] 22)) := fun _ => by kernel_rfl
  have H8 : Hid ((clT 4 s (4 * 4)).length ≤ 8) := hide (by
    have := clT_8.2 s hs
    simp only [hw, decide_true, Bool.true_and, decide_eq_false_iff_not] at this
    have e : (clT 4 s (4 * 4)).length = (clT 4 s 16).length := rfl
    omega)
  generalize wt s = ws at *
  go_enter Try.func41, Try.ntmps41
  go_wp2_with fail
  refine (HAP.out _).mono ?_
  rintro e _ ⟨rfl, rfl⟩
  go_wp2_with fail
  refine (HBK.out).mono ?_
  rintro e w1 ⟨rfl, hb1⟩
  have hz1 := hb1.size
  go_wp2_with fail
  refine (HIN.out _).mono ?_
  rintro e _ ⟨rfl, rfl⟩
  go_wp2_with fail
  refine (HSZ.out _).mono ?_
  rintro e _ ⟨rfl, rfl⟩
  go_wp2_with fail
  go_loopw [8, 51] (fun v i wr => ∃ (r : Nat) (n : Nat) (A' : Option Addr) (c' : Nat), r ≤ 4 ∧ i = .int .i64 r ∧ v = .slice A' n c' ∧ (n = (clT 4 s (r * 4)).length ∧ n ≤ 16) ∧ Prs wr w.heap.size A' n c' (clT 4 s (r * 4)) ∧ Below w.heap.size w wr) (fun _ i _ => 4 - (intOf i).toNat)
  case atStart => exact ⟨0, 0, _, _, by omega, rfl, rfl, ⟨rfl, by omega⟩, Prs.empty hz1, hb1.alloc hz1 _⟩
  case round =>
    obtain ⟨r, n, A', c', hr, rfl, rfl, hn, ht, hb⟩ := hrel
    have HT := hide ht
    have HN := hide hn
    have hn16 := hn.2
    have hz := hb.size
    clear ht hn
    by_cases hlt : r < 4
    · obtain ⟨wo, hwo⟩ : ∃ x, x = wr := ⟨_, rfl⟩
      rw [← hwo] at HT hb hz
      rw [← hwo]
      clear hwo
      have hrI : (r : Int) < 4 := by omega
      go_wp2_with fail
      go_loopw [8, 56] (fun v i wr => ∃ (k : Nat) (n : Nat) (A' : Option Addr) (c' : Nat), k ≤ 4 ∧ i = .int .i64 k ∧ v = .slice A' n c' ∧ (n = (clT 4 s (r * 4 + k)).length ∧ n ≤ 16) ∧ Prs wr w.heap.size A' n c' (clT 4 s (r * 4 + k)) ∧ Below w.heap.size w wr) (fun _ i _ => 4 - (intOf i).toNat)
      case atStart => exact ⟨0, n, _, _, by omega, rfl, rfl, HN.out, HT.out, hb⟩
      case round =>
        obtain ⟨k, n2, A2, c2, hk, rfl, rfl, hn2, ht2, hb2⟩ := hrel
        have HT2 := hide ht2
        have HN2 := hide hn2
        have hn216 := hn2.2
        have hz2 := hb2.size
        clear ht2 hn2
        by_cases hkq : k < 4
        · have hkI : (k : Int) < 4 := by omega
          have HCL := hide (clT_in (s := s) (r := r) hkq)
          cases hbt : bt s k
          · obtain ⟨f1, f2⟩ := bt_f (show s ≤ 9223372036854775807 by omega) hbt
            rw [hbt] at HCL
            clear hbt
            have HY := hide (show clT 4 s (r * 4 + (k + 1)) = clT 4 s (r * 4 + k) by rw [← Nat.add_assoc, HCL.out]; simp)
            go_wp2_with fail
            go_roundw
            case rel => first | exact ⟨k + 1, n2, _, _, by omega, by go_num, rfl, by rw [HY.out]; exact HN2.out, by rw [HY.out]; exact HT2.out, hb2⟩ | ((repeat apply Exists.intro); exact ⟨⟨k + 1, n2, _, _, by omega, by go_num, rfl, by rw [HY.out]; exact HN2.out, by rw [HY.out]; exact HT2.out, hb2⟩, rfl⟩)
            case measure => simp [intOf]; omega
          · obtain ⟨f1, f2⟩ := bt_t (show s ≤ 9223372036854775807 by omega) hbt
            rw [hbt] at HCL
            clear hbt
            have hlen := clT_len 4 s (r * 4 + k + 1)
            have HL := hide (show n2 + 1 = (clT 4 s (r * 4 + k + 1)).length by rw [HCL.out, List.length_append, HN2.out.1]; rfl)
            have h16 : n2 + 1 ≤ 16 := by rw [HL.out]; omega
            clear hlen
            go_wp2_with (at_builtin; (refine push_pair rfl _ _ rfl rfl HT2.out r k _ rfl (by omega) (by omega) ?_; intro A3 c3 w3 ht3 hb3; have HX := hide (show Prs w3 w.heap.size A3 (n2 + 1) c3 (clT 4 s (r * 4 + k + 1)) ∧ Below w.heap.size w w3 from ⟨by rw [HCL.out]; exact ht3, hb2.trans hb3⟩); clear ht3 hb3))
            go_roundw
            case rel => first | exact ⟨k + 1, n2 + 1, _, _, by omega, by go_num, rfl, ⟨HL.out, h16⟩, HX.out.1, HX.out.2⟩ | ((repeat apply Exists.intro); exact ⟨⟨k + 1, n2 + 1, _, _, by omega, by go_num, rfl, ⟨HL.out, h16⟩, HX.out.1, HX.out.2⟩, rfl⟩)
            case measure => simp [intOf]; omega
        · obtain rfl : k = 4 := by omega
          go_wp2_with fail
          go_roundw
          case rel => exact ⟨r + 1, n2, _, _, by omega, by go_num, rfl, by rw [Nat.add_mul, Nat.one_mul]; exact HN2.out, by rw [Nat.add_mul, Nat.one_mul]; exact HT2.out, hb2⟩
          case measure => simp [intOf]; omega
    · obtain rfl : r = 4 := by omega
      obtain ⟨wc, hwc⟩ : ∃ x, x = wr := ⟨_, rfl⟩
      rw [← hwc] at HT hb hz
      rw [← hwc]
      clear hwc
      have h8 : n ≤ 8 := by
        have h9 := HN.out.1
        have := H8.out
        omega
      obtain ⟨gc, hgc⟩ : ∃ x, x = cap2 5 s := ⟨_, rfl⟩
      have hgn : gc = 2 ^ n := by rw [hgc, HN.out.1]; rfl
      have hgb : 1 ≤ gc ∧ gc ≤ 256 := by
        have h1 : 2 ^ n ≤ 2 ^ 8 := Nat.pow_le_pow_right (by omega) h8
        have h2 : 0 < 2 ^ n := Nat.two_pow_pos n
        omega
      have HGI := hide (show (2 : Int) ^ n = ((gc : Nat) : Int) by rw [hgn]; push_cast; rfl)
      have HGC := hide hgc
      have p1 := two_pow_pos n
      have p2 : (2 : Int) ^ n ≤ 256 := by rw [HGI.out]; omega
      clear hgc hgn
      go_wp2_with fail
      clear p1 p2
      go_loopw [75] (fun i wr => ∃ g : Nat, g ≤ gc ∧ i = .int .i64 g ∧ (∀ t, t < g → okT 5 s M (fillA 5 s t M) = false) ∧ Below wc.heap.size wc wr) (fun i _ => gc - (intOf i).toNat)
      case atStart => exact ⟨0, by omega, rfl, by simp, Below.refl _ _⟩
      case round =>
        obtain ⟨g, hg, rfl, hno, hbw⟩ := hrel
        have HNO := hide hno
        clear hno
        by_cases hlg : g < gc
        · obtain ⟨wg, hwg⟩ : ∃ x, x = wr := ⟨_, rfl⟩
          rw [← hwg] at hbw
          rw [← hwg]
          clear hwg
          have hzg : wc.heap.size ≤ wg.heap.size := hbw.size
          have HBG := hide (up hbw hb hz)
          have hgI : (g : Int) < 2 ^ n := by rw [HGI.out]; omega
          go_wp2_with fail
          clear hgI
          go_loopw [12, 83] (fun v i wx => ∃ (k : Nat) (A3 : Option Addr) (c3 : Nat) (R3 : List Sl), k ≤ 4 ∧ i = .int .i64 k ∧ v = .slice A3 k c3 ∧ TK wx wg.heap.size wx.heap.size A3 k c3 R3 ∧ TbC R3 k 4 M ∧ Below wg.heap.size wg wx) (fun _ i _ => 4 - (intOf i).toNat)
          case atStart => exact ⟨0, _, _, [], by omega, rfl, rfl, TK.empty 4 rfl (Nat.le_refl _), TbC.nil _ _, (Below.refl _ _).alloc (Nat.le_refl _) _⟩
          case round =>
            obtain ⟨k, A3, c3, R3, hk, rfl, rfl, ht3, hcp3, hb3⟩ := hrel
            have HT3 := hide ht3
            have HC3 := hide hcp3
            have hz3 := hb3.size
            have hbx : Below w.heap.size w wr := up hb3 HBG.out HBG.out.size
            have hzx := hbx.size
            clear ht3 hcp3
            by_cases hkq : k < 4
            · have hkI : (k : Int) < 4 := by omega
              obtain ⟨R1, C1, e1, eC, e2⟩ := HC0.out k hkq
              have hck := (hbx.cell (p := ⟨b, off + k, none⟩) hbl).trans e1
              obtain ⟨rb, ro, rfl, hrb, hcr⟩ := e2 (by omega)
              have HCL := hide (slClone_any (some ⟨rb, ro, none⟩) 4 C1 (M k) wr (by omega) ((ints_cut (show Ints w w.heap.size (some ⟨rb, ro, none⟩) 6 (M k) from e2) (by omega)).keep hbx hzx))
              clear e1 e2 hcr
              have hbl2 : b < wr.heap.size := by omega
              have HP := hide (fun (A : Option Addr) (c : Nat) => HC3.out.push (A := A) (c := c) (xs := listOf 4 (M k)) (by simp [listOf_len]) (fun j hj => listOf_getD _ hj))
              go_wp2_with fail
              refine (HCL.out).mono ?_
              rintro e w1 ⟨A4, c4, rfl, hr4, hb4⟩
              have hcap := hr4.cap
              have hc4' : c4 ≤ 9223372036854775807 := by
                rcases hr4.2.2 with ⟨e1, _⟩ | ⟨g, cap, cur, e1, _, _, _, e2, _⟩
                · injection e1 with _ _ e3; omega
                · injection e1 with _ _ e3; unfold maxLen at e2; omega
              have hz4 := hb4.size
              have HR4 := hide hr4
              have HB4 := hide hb4
              clear hr4 hb4
              go_wp2_with fail
              refine (clip_any A4 4 c4 w1 hcap hc4').mono ?_
              rintro e _ ⟨rfl, rfl⟩
              clear hcap hc4'
              go_wp2_with (at_builtin; (refine push_clp rfl _ _ rfl R3 rfl (HT3.out.keep HB4.out) A4 4 c4 (listOf 4 (M k)) HR4.out hz3 _ rfl (by omega) hz4 ?_; intro A6 c6 w6 ht6 hb6; have HX := hide (show _ ∧ _ from ⟨ht6, (hb3.trans (HB4.out.mono hz3)).trans hb6⟩); clear ht6 hb6))
              go_roundw
              case rel => first | exact ⟨k + 1, _, _, _, by omega, by go_num, rfl, HX.out.1, HP.out A4 c4, HX.out.2⟩ | ((repeat apply Exists.intro); exact ⟨⟨k + 1, _, _, _, by omega, by go_num, rfl, HX.out.1, HP.out A4 c4, HX.out.2⟩, rfl⟩)
              case measure => simp [intOf]; omega
            · obtain rfl : k = 4 := by omega
              obtain ⟨wa, hwa⟩ : ∃ x, x = wr := ⟨_, rfl⟩
              rw [← hwa] at HT3 hb3 hz3
              rw [← hwa]
              clear hwa hbx hzx
              obtain ⟨bA, eA, hbA⟩ : ∃ bA, A3 = some ⟨bA, 0, none⟩ ∧ bA < wa.heap.size := by
                rcases HT3.out.form with ⟨_, h, _⟩ | ⟨b, e, _, h, _⟩
                · omega
                · exact ⟨b, e, h⟩
              subst eA
              have HCm := hide (fun x (hx : x ∈ clT 4 s (4 * 4)) => clT_mem (by omega) hx)
              have HNl := hide HN.out.1
              generalize hCS : clT 4 s (4 * 4) = CS at *
              have HCS := hide hCS
              clear hCS
              go_wp2_with fail
              go_loopw [99] (fun i wx => ∃ (j : Nat) (R4 : List Sl), j ≤ n ∧ i = .int .i64 j ∧ TK wx wg.heap.size wa.heap.size (some ⟨bA, 0, none⟩) 4 c3 R4 ∧ TbC R4 4 4 (fillT CS g M j) ∧ Below wg.heap.size wg wx ∧ wa.heap.size ≤ wx.heap.size) (fun i _ => n - (intOf i).toNat)
              case atStart => exact ⟨0, R3, by omega, rfl, HT3.out, HC3.out, hb3, Nat.le_refl _⟩
              case round =>
                obtain ⟨j, R4, hj, rfl, ht4, hcp4, hb4, hz4⟩ := hrel
                have HT4 := hide ht4
                have HC4 := hide hcp4
                clear ht4 hcp4
                by_cases hjn : j < n
                · have hbc4 : Below wc.heap.size wc wr := up hb4 hbw hzg
                  obtain ⟨bC, eC, hbC⟩ : ∃ bC, A' = some ⟨bC, 0, none⟩ ∧ bC < wc.heap.size := by
                    rcases HT.out.form with ⟨_, h, _⟩ | ⟨b, e, _, h, _⟩
                    · omega
                    · exact ⟨b, e, h⟩
                  subst eC
                  obtain ⟨a0, a1⟩ := (HT.out.keep hbc4).at_ hjn
                  have hx := HCm.out (CS.getD j (0, 0)) (by
                    simp only [List.getD, List.getElem?_eq_getElem (show j < CS.length by have := HNl.out; omega), Option.getD_some]
                    exact List.getElem_mem _)
                  have HS := hide (show fillT CS g M (j + 1) = upd (fillT CS g M j) (CS.getD j (0, 0)).1 (CS.getD j (0, 0)).2 (gb g j) from rfl)
                  obtain ⟨x2, _, _, x1⟩ := hx
                  have x1 := x1 (Nat.le_refl _)
                  generalize (CS.getD j (0, 0)).1 = u at *
                  generalize (CS.getD j (0, 0)).2 = v at *
                  have hzr : bC < wr.heap.size := by omega
                  have hbAr : bA < wr.heap.size := by omega
                  have hjI : (0 : Int) ≤ (j : Int) := by omega
                  have hjI2 : (j : Int) < (n : Int) := by omega
                  go_wp2_with fail
                  refine nameCode (fun wx => wx.cell? ⟨wr.heap.size, 0, none⟩ = some (.int .i64 (u : Nat)) ∧ wx.cell? ⟨wr.heap.size, 1, none⟩ = some (.int .i64 (v : Nat)) ∧ TK wx wg.heap.size wa.heap.size (some ⟨bA, 0, none⟩) 4 c3 R4 ∧ Below wg.heap.size wg wx ∧ wa.heap.size ≤ wx.heap.size) ⟨by simp, by simp, HT4.out.keep ((Below.refl _ _).alloc (Nat.le_refl _) _), hb4.alloc hb4.size _, by simp; omega⟩ ?_
                  rintro wx ⟨q0, q1, ht5, hb5, hz5⟩
                  obtain ⟨b2, hat2⟩ := HC4.out.atK ht5 (i := u) (j := v) x1 x2
                  have a4 := hat2.row
                  have a5 := hat2.cell
                  have a6 := hat2.fz
                  have hlo := hat2.lo
                  have HB5 := hide hb5
                  have HZ5 := hide hz5
                  have HSET := hide (show ∀ z, z = gb g j → ∃ R', TK (wx.setCell ⟨b2, v, none⟩ (.int .i64 z)) wg.heap.size wa.heap.size (some ⟨bA, 0, none⟩) 4 c3 R' ∧ TbC R' 4 4 (upd (fillT CS g M j) u v (gb g j)) from fun z hz => by subst hz; exact hat2.set (gb g j))
                  have HGB := hide (show bits .and .i64 ((g : Int) / 2 ^ j) 1 = gb g j by
                    rw [and_one g j (by omega), bt, gb]
                    by_cases h : g / 2 ^ j % 2 = 1
                    · simp [h]
                    · have : g / 2 ^ j % 2 = 0 := by omega
                      simp [this])
                  have huI : (0 : Int) ≤ (u : Int) := by omega
                  have huI2 : (u : Int) < 4 := by omega
                  have hvI : (0 : Int) ≤ (v : Int) := by omega
                  have hvI2 : (v : Int) < 4 := by omega
                  clear hat2 ht5 hb5 hz5
                  go_still_tail 12, (by kernel_rfl)
                  change wpList _ _ _ _ _ wx.drew
                  go_wp2_with fail
                  obtain ⟨R5, hq1, hq2⟩ := HSET.out _ HGB.out
                  have HQ := hide (show _ ∧ _ from ⟨hq1, hq2⟩)
                  clear hq1 hq2
                  go_roundw
                  case rel => first | exact ⟨j + 1, R5, by omega, by go_num, HQ.out.1.drew, by rw [HS.out]; exact HQ.out.2, Below.drew (HB5.out.setCell (p := ⟨b2, v, none⟩) hlo _), by simpa [World.setCell] using HZ5.out⟩ | ((repeat apply Exists.intro); exact ⟨⟨j + 1, R5, by omega, by go_num, HQ.out.1.drew, by rw [HS.out]; exact HQ.out.2, Below.drew (HB5.out.setCell (p := ⟨b2, v, none⟩) hlo _), by simpa [World.setCell] using HZ5.out⟩, rfl⟩)
                  case measure => simp [intOf]; omega
                · obtain rfl : j = n := by omega
                  obtain ⟨wf, hwf⟩ : ∃ x, x = wr := ⟨_, rfl⟩
                  rw [← hwf] at HT4 hb4 hz4
                  rw [← hwf]
                  clear hwf
                  have hFA : fillT CS g M j = fillA 5 s g M := by
                    show fillT CS g M j = fillT (clT 4 s (4 * 4)) g M (clT 4 s (4 * 4)).length
                    rw [HCS.out, HNl.out]
                  rw [hFA] at HC4
                  have HAE : ∃ X, X = fillA 5 s g M := ⟨_, rfl⟩
                  obtain ⟨AA, hAA⟩ := HAE
                  have hBA : Bin 4 4 (fillA 5 s g M) := by
                    rw [← hFA]
                    exact fillT_bin (fun i j hi hj => HB.out i j hi (by omega)) j
                  have HGY := hide (fun (h : okT 5 s M (fillA 5 s g M) = true) => mendG_some (p := 5) (s := s) (M := M) (show g < cap2 5 s by rw [← HGC.out]; exact hlg) h HNO.out)
                  have HOK := hide (okr_all (p := 5) (s := s) (M := M) (A := AA))
                  have HGN := hide (show okT 5 s M (fillA 5 s g M) = false → ∀ t, t < g + 1 → okT 5 s M (fillA 5 s t M) = false from fun h t ht => by
                    by_cases e : t = g
                    · subst e; exact h
                    · exact HNO.out t (by omega))
                  have HFT := hide (show TbC R4 4 4 (fillA 5 s g M) from HC4.out)
                  clear hFA HC4
                  rw [← hAA] at HGY HGN HFT hBA
                  have HAA := hide hAA
                  clear hAA
                  have HD := hide (plusTwo5_any (some ⟨bA, 0, none⟩) c3 AA wf hBA (HFT.out.matK HT4.out))
                  clear hBA
                  go_wp2_with fail
                  refine (HD.out).mono ?_
                  rintro e w2 ⟨A2, c2, R2, rfl, t3, t4, hb2⟩
                  have hz2 := hb2.size
                  have HB2 := hide hb2
                  have HM2 := hide (show Mat w2 w2.heap.size A2 4 (fun _ => 6) (plusF 5 AA) from t4.mat t3)
                  clear t3 t4 hb2
                  obtain ⟨b2, o2, rfl, hbl2, hc2⟩ := HM2.out (by omega)
                  have HC2 := hide hc2
                  have hzf := hb4.size
                  have HB0 := hide (show Below w.heap.size w w2 from up HB2.out (up hb4 HBG.out HBG.out.size) (by have := HBG.out.size; omega))
                  clear hc2
                  go_wp2_with fail
                  go_loopw [17, 121] (fun v i wx => ∃ r : Nat, r ≤ 4 ∧ i = .int .i64 r ∧ v = .bool (okr 5 s 0 M AA r) ∧ Below w2.heap.size w2 wx) (fun _ i _ => 4 - (intOf i).toNat)
                  case atStart => exact ⟨0, by omega, rfl, rfl, Below.refl _ _⟩
                  case round =>
                    obtain ⟨r, hr2, rfl, rfl, hb6⟩ := hrel
                    obtain ⟨wo, hwo⟩ : ∃ x, x = wr := ⟨_, rfl⟩
                    rw [← hwo] at hb6
                    rw [← hwo]
                    clear hwo
                    by_cases hrq : r < 4
                    · have HS2 := hide (show okr 5 s 0 M AA (r + 1) = (okr 5 s 0 M AA r && okc 5 s 0 M AA r 6) from rfl)
                      generalize okr 5 s 0 M AA r = z at *
                      obtain ⟨Rr, Cr, f1, f2⟩ := HC2.out r hrq
                      obtain ⟨b3, o3, rfl, hb3l, f3⟩ := f2 (by omega)
                      obtain ⟨Rw, Cw, g1, _, g2⟩ := HC0.out r hrq
                      obtain ⟨b5, o5, rfl, hb5l, g3⟩ := g2 (by omega)
                      have x1 := (hb6.cell (p := ⟨b2, o2 + r, none⟩) hbl2).trans f1
                      have HB6 := hide hb6
                      have F3 := hide f3
                      have G1 := hide g1
                      have G3 := hide g3
                      have hrI : (r : Int) < 4 := by omega
                      clear hb6 f1 f2 f3 g1 g2 g3
                      go_wp2_with fail
                      clear x1
                      go_loopw [17, 128] (fun v i wx => ∃ k : Nat, k ≤ 6 ∧ i = .int .i64 k ∧ v = .bool (z && okc 5 s 0 M AA r k) ∧ Below w2.heap.size w2 wx) (fun _ i _ => 6 - (intOf i).toNat)
                      case atStart => exact ⟨0, by omega, rfl, by rw [okc, Bool.and_true], HB6.out⟩
                      case round =>
                        obtain ⟨k, hk, rfl, rfl, hb7⟩ := hrel
                        by_cases hkm : k < 6
                        · have hkI : (k : Int) < 6 := by omega
                          have HS := hide (show (z && okc 5 s 0 M AA r (k + 1)) = ((z && okc 5 s 0 M AA r k) && (bt s k || plusF 5 AA r k == M r k)) by rw [okc, decide_eq_false (show ¬ k < 0 by omega), Bool.false_or, Bool.and_assoc])
                          have hbw7 := up hb7 HB0.out HB0.out.size
                          have x2 := (hb7.cell (p := ⟨b3, o3 + k, none⟩) hb3l).trans (F3.out k hkm)
                          have x3 := (hbw7.cell (p := ⟨b, off + r, none⟩) hbl).trans G1.out
                          have x4 := (hbw7.cell (p := ⟨b5, o5 + k, none⟩) hb5l).trans (G3.out k hkm)
                          have HB7 := hide hb7
                          clear hb7 hbw7
                          generalize (z && okc 5 s 0 M AA r k) = o at *
                          generalize plusF 5 AA r k = x at *
                          generalize M r k = y at *
                          cases o
                          · go_wp2_with fail
                            go_roundw
                            case rel => exact ⟨k + 1, by omega, by go_num, by rw [HS.out]; rfl, HB7.out⟩
                            case measure => simp [intOf]; omega
                          cases hbt : bt s k
                          · obtain ⟨h1, h2⟩ := bt_f (show s ≤ 9223372036854775807 by omega) hbt
                            rw [hbt] at HS
                            clear hbt
                            cases hxy : x == y
                            all_goals
                              rw [hxy] at HS
                              go_wp2_with fail
                              go_roundw
                              case rel => exact ⟨k + 1, by omega, by go_num, by rw [HS.out]; rfl, HB7.out⟩
                              case measure => simp [intOf]; omega
                          · obtain ⟨h1, h2⟩ := bt_t (show s ≤ 9223372036854775807 by omega) hbt
                            rw [hbt] at HS
                            clear hbt
                            go_wp2_with fail
                            go_roundw
                            case rel => exact ⟨k + 1, by omega, by go_num, by rw [HS.out]; rfl, HB7.out⟩
                            case measure => simp [intOf]; omega
                        · obtain rfl : k = 6 := by omega
                          go_wp2_with fail
                          go_roundw
                          case rel => exact ⟨r + 1, by omega, by go_num, by rw [HS2.out], hb7⟩
                          case measure => simp [intOf]; omega
                    · obtain rfl : r = 4 := by omega
                      have HBE := hide (show Below wf.heap.size wf wo from up hb6 HB2.out HB2.out.size)
                      clear hb6
                      rw [show okr 5 s 0 M AA 4 = okT 5 s M AA from HOK.out]
                      cases hok : okT 5 s M AA
                      · have HN2 := hide (HGN.out hok)
                        clear hok
                        go_wp2_with fail
                        go_roundw
                        case rel => first | exact ⟨g + 1, by omega, by go_num, HN2.out, up (up HBE.out hb4 hzf) hbw hzg⟩ | ((repeat apply Exists.intro); exact ⟨⟨g + 1, by omega, by go_num, HN2.out, up (up HBE.out hb4 hzf) hbw hzg⟩, rfl⟩)
                        case measure => simp [intOf]; omega
                      · have HY := hide (HGY.out hok)
                        clear hok
                        go_wp2_with fail
                        go_ret2
                        exact ⟨up (up HBE.out hb4 hzf) HBG.out HBG.out.size, .inr ⟨g, _, _, HY.out, rfl, by rw [← HAA.out]; exact HFT.out.mtK ((HT4.out.keep HBE.out).mono (by have := HBG.out.size; omega) (Nat.le_refl _))⟩⟩
        · obtain rfl : g = gc := by omega
          have HNONE := hide (mendG_none (p := 5) (s := s) (M := M) (fun t ht => HNO.out t (by rw [HGC.out]; exact ht)))
          have hgI : ¬ (g : Int) < 2 ^ n := by rw [HGI.out]; omega
          go_wp2_with fail
          go_ret2
          exact ⟨up hbw hb hz, .inl ⟨HNONE.out, rfl⟩⟩

end Go.Proofs.Ytkalecdjcdgodaa
