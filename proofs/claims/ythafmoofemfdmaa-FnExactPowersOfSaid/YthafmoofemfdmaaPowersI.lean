/-
  PowersOf, the program's side. Conditions: the points can be read.
-/
import Derived.Test.YthafmoofemfdmaaPowers
import Derived.Test.YthafmoofemfdmaaRepeat
namespace Go.Proofs.Ythafmoofemfdmaa
open Go.RowKit

theorem pw_set {m j : Nat} {a b : Nat → Int} : (listOf m (fun i => if i < j then a i else b i)).set j (a j) = listOf m (fun i => if i < j + 1 then a i else b i) := by
  refine List.ext_getElem? fun i => ?_
  rw [List.getElem?_set, listOf_len]
  by_cases e : j = i
  · subst e
    rw [if_pos rfl]
    by_cases h : j < m
    · rw [if_pos h, listOf_get _ h, if_pos (by omega)]
    · rw [if_neg h, List.getElem?_eq_none (by rw [listOf_len]; omega)]
  · rw [if_neg e]
    by_cases h : i < m
    · rw [listOf_get _ h, listOf_get _ h]
      by_cases h2 : i < j
      · rw [if_pos h2, if_pos (by omega)]
      · rw [if_neg h2, if_neg (by omega)]
    · rw [List.getElem?_eq_none (by rw [listOf_len]; omega), List.getElem?_eq_none (by rw [listOf_len]; omega)]
theorem pw_lo {n : Nat} {f g : Nat → Int} (h : ∀ i, i < n → f i = g i) : listOf n f = listOf n g := by
  simp only [listOf]
  exact List.map_congr_left fun i hi => h i (List.mem_range.1 hi)

set_option maxHeartbeats 2000000 in
theorem PowersOfI_any (p : Int) (A0 : Option Addr) (m c0 : Nat) (f : Nat → Int) (k : Int) (w : World) (hm : m ≤ 1048576 ∧ m ≤ c0 ∧ c0 ≤ 9223372036854775807) (h : Ints w w.heap.size A0 m f) :
    Calls Try.prog 51 #[.int .i64 p, .slice A0 m c0, .int .i64 k] w (PwPost p m f k w) := by
  have HI := hide (fun (W : World) (hb : Below w.heap.size w W) => h.keep hb hb.size)
  have HD := hide (fun (W : World) (hb : Below w.heap.size w W) (hp : 2 ≤ p ∧ p ≤ 7) => differentI_any p A0 m c0 f W (by omega) (by omega) (by omega) hp (HI.out W hb))
  clear h
  go_enter Try.func51, Try.ntmps51
  go_upto_region 2 with (first | (go_at_call 60; refine (fieldOf_any _ _).mono ?_; rintro e w' ⟨rfl, hb0⟩))
  go_cut [9, 38] (fun _ v wx => v = .bool (!pwOk p m f k) ∧ Below w.heap.size w wx ∧ Blk wx w.heap.size 58 #[.int .i64 0, .slice none 0 0])
  case first =>
    have hB : Below w.heap.size w w' := up hb0 (by go_grown) (by simp)
    have hK : Blk w' w.heap.size 58 #[.int .i64 0, .slice none 0 0] := (Blk.new w _ _).below hb0 (by simp)
    cases hp : isP p
    · go_wp2_with (first | (go_at_call 61; refine (within_any _ _ _ _).mono ?_; rintro e w' ⟨rfl, rfl⟩))
      go_meet
      exact ⟨by simp [pwOk, hp], hB, hK⟩
    have hp7 : 2 ≤ p ∧ p ≤ 7 := by rcases isP_true.1 hp with rfl | rfl | rfl | rfl <;> omega
    cases hk : inR k 1 4
    · go_wp2_with (first | (go_at_call 61; refine (within_any _ _ _ _).mono ?_; rintro e w' ⟨rfl, rfl⟩))
      go_meet
      exact ⟨by simp [pwOk, hp, hk], hB, hK⟩
    cases hmk : inR m k 7
    · go_wp2_with (first | (go_at_call 61; refine (within_any _ _ _ _).mono ?_; rintro e w' ⟨rfl, rfl⟩))
      go_meet
      exact ⟨by simp [pwOk, hp, hk, hmk], hB, hK⟩
    have e1 : pwOk p m f k = diffB p m f := by simp [pwOk, hp, hk, hmk]
    go_wp2_with (first | (go_at_call 61; refine (within_any _ _ _ _).mono ?_; rintro e w' ⟨rfl, rfl⟩) | (go_at_call 87; refine (HD.out _ hB hp7).mono ?_; rintro e w' ⟨rfl, hb5⟩))
    go_meet
    exact ⟨by rw [e1], up hb5 hB hB.size, hK.below hb5 hK.lt⟩
  case rest =>
    clear hb0
    obtain ⟨w1, rfl⟩ : ∃ x, x = wc := ⟨_, rfl⟩
    obtain ⟨rfl, hb1, hK⟩ := hcut
    have k0 := hK.at_ (i := 0) rfl
    have k1 := hK.at_ (i := 1) rfl
    have kf := hK.frozen
    clear HD
    cases hin : pwOk p m f k
    · have H := hide (fun w' hb => pwPost_no (w := w) (w' := w') hin hb)
      go_wp2_with fail
      exact bodyPost_ret (v := .tuple #[.agg #[.int .i64 0, .slice none 0 0], .bool false]) (by simp [results, Try.results51, go_sem, k0, k1, kf]) rfl (H.out _ (by go_grown))
    obtain ⟨hp, hk, hmk, hf⟩ := pw_ok hin
    obtain ⟨k, rfl⟩ := Int.eq_ofNat_of_zero_le (show 0 ≤ k by omega)
    have HIN := hide hin
    have HK := hide hK
    have HF := hide hf
    have HB1 := hide hb1
    have hz1 : w.heap.size < w1.heap.size := hK.lt
    have hm7 : m ≤ 7 := by omega
    clear hin hK hf k0 k1 kf hb1
    have hmk1 := run_make0 (P := Try.prog) 36 28 (.slice none 0 0) 24 Try.underlying36 info_ints rfl .i64 .i64 k (by omega) (by omega)
    go_wp2_with fail
    refine (slRepeat_any 1 w1.heap.size 0 1 m _ hm7 (by simp) (by simp) (by omega)).mono ?_
    rintro e w2 ⟨rfl, hbl, hb2⟩
    rw [rpt_full] at hbl
    have hr2 : Row w2 w1.heap.size (some ⟨w1.heap.size + 1, 0, none⟩) m m (listOf m (pwM p f 0)) := by
      have h0 : w2.heap[w1.heap.size + 1]? = some (.cells ((listOf m fun _ => (1 : Int)).map (Value.int .i64)).toArray 3 (0, 0)) := by simpa using hbl.out
      have h3 := Row.of_blk h0 (show w1.heap.size ≤ w1.heap.size + 1 by omega) (by rw [listOf_len]; omega)
      rw [listOf_len] at h3
      exact h3
    have HR2 := hide hr2
    have hgl : w1.heap.size + 1 < w2.heap.size := (hr2.blk _ rfl).2
    have HB2 := hide (show Below w1.heap.size w1 w2 from up hb2 ((Below.refl _ _).alloc (Nat.le_refl _) _) (by simp))
    clear hr2 hbl hb2
    simp only [World.size_alloc]
    generalize hg0 : w1.heap.size + 1 = g0 at *
    have hgw : w1.heap.size < g0 := by omega
    clear hg0
    go_wp2_with fail
    go_loopw [11, 47] (fun v i wr => ∃ (x : Nat) (A : Option Addr) (c : Nat) (R : List Sl), x ≤ k ∧ i = .int .i64 x ∧ v = .slice A x c ∧ TabD wr (g0 + 1) wr.heap.size A x c R ∧ TbC R x m (pwM p f) ∧ Row wr w1.heap.size (some ⟨g0, 0, none⟩) m m (listOf m (pwM p f x)) ∧ Below w1.heap.size w1 wr) (fun _ i _ => k - (intOf i).toNat)
    case atStart => exact ⟨0, _, _, [], by omega, rfl, rfl, TabD.emptyAt rfl _ _ (by omega) (by omega), TbC.nil _ _, HR2.out.alloc _, HB2.out.alloc HB2.out.size _⟩
    case round =>
      obtain ⟨x, A, c, R, hx, rfl, rfl, ht, hc, hr, hb⟩ := hrel
      obtain ⟨wo, hwo⟩ : ∃ x, x = wr := ⟨_, rfl⟩
      rw [← hwo] at ht hr hb
      rw [← hwo]
      clear hwo
      have HT := hide ht
      have HC := hide hc
      have HR := hide hr
      have HB := hide hb
      have hz := hb.size
      have hgo : g0 < wo.heap.size := (hr.blk _ rfl).2
      clear ht hc hr hb hmk1
      by_cases hlt : x < k
      · have hxI : (x : Int) < (k : Int) := by omega
        have HCL := hide (slClone_any (some ⟨g0, 0, none⟩) m m (pwM p f x) wo (by omega) (HR.out.ints.congr (fun j hj => listOf_getD _ hj)))
        go_wp2_with fail
        refine (HCL.out).mono ?_
        rintro e w3 ⟨A3, c3, rfl, hr3, hb3⟩
        have HR3 := hide hr3
        have HT3 := hide (HT.out.keep hb3)
        have hz3 : wo.heap.size ≤ w3.heap.size := hb3.size
        have HG0 := hide (HR.out.keep hb3)
        have HB3 := hide (up hb3 HB.out hz)
        clear hr3 hb3 HCL
        go_wp2_with (at_builtin; refine push_row rfl _ _ rfl R rfl HT3.out.tab A3 m c3 (listOf m (pwM p f x)) (HR3.out.mono (by omega)) _ rfl (by omega) (by omega) ?_; intro A4 c4 w4 ht4 hb4 hg4 hat4; have hz4 := hb4.size; have HX := hide (show _ ∧ _ ∧ _ from ⟨HT3.out.push (top' := w4.heap.size) HR3.out ht4 (by omega) (fun q hq => by have := (HR3.out.blk q (by rw [ownBlock_slice]; exact hq)).2; omega), HG0.out.kept hg4 (.inr (fun he => by have := (HT3.out.tab.blk g0 he.symm).1; omega)), HB3.out.trans (hb4.mono (by omega))⟩); clear ht4 hb4 hg4 hat4)
        have HC4 := hide (HC.out.push (A := A3) (c := c3) (listOf_len m (pwM p f x)) (fun q hq => listOf_getD (pwM p f x) hq))
        generalize R ++ [⟨A3, c3, listOf m (pwM p f x)⟩] = R4 at *
        clear HT3 HG0 HB3 HR3
        go_loopw [56] (fun i wr => ∃ j : Nat, j ≤ m ∧ i = .int .i64 j ∧ Row wr w1.heap.size (some ⟨g0, 0, none⟩) m m (listOf m (fun i => if i < j then pwM p f (x + 1) i else pwM p f x i)) ∧ Only g0 w4 wr) (fun i _ => m - (intOf i).toNat)
        case atStart => exact ⟨0, by omega, rfl, by rw [pw_lo (g := pwM p f x) (fun i _ => by rw [if_neg (by omega)])]; exact HX.out.2.1, Only.refl _ _⟩
        case round =>
          obtain ⟨j, hj, rfl, hrow, ho⟩ := hrel
          have HRW := hide hrow
          have HO := hide ho
          have hzr := ho.size
          clear hrow ho
          by_cases hjm : j < m
          · obtain ⟨b, off, rfl, hbl, hcc⟩ := HI.out wr (HB1.out.trans ((HX.out.2.2.mono (by omega)).trans (HO.out.below (by omega) (by omega)))) (by omega)
            have hcj := hcc j hjm
            have hfj := HF.out j hjm
            obtain ⟨b1, e1, h1, h2, h3, h4, h5⟩ := HRW.out.at_ (i := j) hjm
            obtain rfl : g0 = b1 := by simpa using e1
            rw [listOf_getD _ hjm, if_neg (by omega)] at h3
            have hzb := pmod_bd (x := f j) hp x
            have hzj : pwM p f x j = pmod p (f j) x := rfl
            rw [hzj] at h3
            have hlo : 0 ≤ pmod p (f j) x * f j := Int.mul_nonneg hzb.1 hfj.1
            have hhi : pmod p (f j) x * f j ≤ 42 := by have := Int.mul_le_mul hzb.2 (show f j ≤ 7 by omega) hfj.1 (by omega); omega
            have HRE := hide (fun W => rest_any p (pmod p (f j) x * f j) W hp (by omega))
            have HST := hide (show Row (wr.setCell ⟨g0, j, none⟩ (.int .i64 (pmod p (f j) x * f j % p))) w1.heap.size (some ⟨g0, 0, none⟩) m m (listOf m (fun i => if i < j + 1 then pwM p f (x + 1) i else pwM p f x i)) from by
              have h6 := h5 (pwM p f (x + 1) j)
              rw [pw_set] at h6
              exact h6)
            have hjI : (j : Int) < (m : Int) := by omega
            have hjI0 : (0 : Int) ≤ (j : Int) := by omega
            clear hcc h5 hzj e1
            generalize pmod p (f j) x = z at *
            generalize f j = y at *
            go_wp2_with fail
            refine (HRE.out _).mono ?_
            rintro e _ ⟨rfl, rfl⟩
            generalize z * y % p = v at *
            go_wp2_with fail
            go_roundw
            case rel => first | exact ⟨j + 1, by omega, by go_num, HST.out, HO.out.setCell (p := ⟨g0, j, none⟩) (.inl rfl) _⟩ | ((repeat apply Exists.intro); exact ⟨⟨j + 1, by omega, by go_num, HST.out, HO.out.setCell (p := ⟨g0, j, none⟩) (.inl rfl) _⟩, rfl⟩)
            case measure => simp [intOf]; omega
          · obtain rfl : j = m := by omega
            have hb5 : Below w1.heap.size w1 wr := HX.out.2.2.trans (HO.out.below (by omega) (by omega))
            have HY := hide (show _ ∧ _ ∧ _ from ⟨(HX.out.1.only HO.out (by omega)).mono (Nat.le_refl _) hzr, (show Row wr w1.heap.size (some ⟨g0, 0, none⟩) j j (listOf j (pwM p f (x + 1))) from by rw [pw_lo (f := pwM p f (x + 1)) (fun i hi => (if_pos hi).symm)]; exact HRW.out), hb5⟩)
            clear hb5
            go_wp2_with fail
            go_roundw
            case rel => first | exact ⟨x + 1, _, _, _, by omega, by go_num, rfl, HY.out.1, HC4.out, HY.out.2.1, HY.out.2.2⟩ | ((repeat apply Exists.intro); exact ⟨⟨x + 1, _, _, _, by omega, by go_num, rfl, HY.out.1, HC4.out, HY.out.2.1, HY.out.2.2⟩, rfl⟩)
            case measure => simp [intOf]; omega
      · obtain rfl : x = k := by omega
        have hK := HK.out.below HB.out hz1
        have g0 := hK.at_ (i := 0) rfl
        have g1 := hK.at_ (i := 1) rfl
        have gf := hK.frozen
        clear hK
        go_wp2_with fail
        refine bodyPost_ret (v := .tuple #[.agg #[.int .i64 p, .slice A x c], .bool true]) (by simp [results, Try.results51, go_sem, g0, g1, gf]) rfl ?_
        refine pwPost_yes HIN.out HT.out HC.out ?_ ?_ (by omega)
        · exact ((HB1.out.trans (HB.out.mono (by omega))).setCell (p := ⟨w.heap.size, 0, none⟩) (Nat.le_refl _) _).setCell (p := ⟨w.heap.size, 1, none⟩) (Nat.le_refl _) _
        · exact ((Outside.refl w.heap.size _ wo).set_ (p := ⟨w.heap.size, 0, none⟩) (by dsimp only; omega) _).set_ (p := ⟨w.heap.size, 1, none⟩) (by dsimp only; omega) _
end Go.Proofs.Ythafmoofemfdmaa
