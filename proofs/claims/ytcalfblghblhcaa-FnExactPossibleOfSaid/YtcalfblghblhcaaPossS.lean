/-
  PossibleOf, the reference's. Conditions: the scheme and the shares can be read.
-/
import Derived.Test.YtcalfblghblhcaaMsgS
import Derived.Test.YtcalfblghblhcaaQuietIn
namespace Go.Proofs.Ytcalfblghblhcaa
open Go.RowKit

set_option maxRecDepth 100000 in
set_option maxHeartbeats 4000000 in
theorem PossibleOfS_any (p : Int) (A : Option Addr) (n c : Nat) (L : Nat → Nat) (M : Nat → Nat → Int) (O : Option Addr) (m e : Nat) (f : Nat → Int) (B : Option Addr) (n1 c1 : Nat) (g : Nat → Int) (s : Int) (w : World) (hn : n ≤ 1048576) (hL : ∀ i, i < n → L i ≤ 1048576) (hm : m ≤ 1048576) (h : Mat w w.heap.size A n L M) (h2 : Ints w w.heap.size O m f) (hn1 : n1 ≤ 1048576) (h3 : Ints w w.heap.size B n1 g) :
    Calls Try.prog 21 #[.agg #[.int .i64 p, .slice A n c, .slice O m e], .slice B n1 c1, .int .i64 s] w (PsPost p n L M m f n1 g s w) := by
  have HV := hide (fun (W : World) (hb : Below w.heap.size w W) => validSchemeS_any p A O n c m e L M f W (by omega) (fun i hi => Nat.le_trans (hL i hi) (by omega)) (by omega) (h.keep hb hb.size) (h2.keep hb hb.size))
  have HI := hide (fun (W : World) (hb : Below w.heap.size w W) => h3.keep hb hb.size)
  cases hv : vSch p n L M m f
  · have HN := hide (fun w' hb => ps_no (w := w) (w' := w') (show posB p n L M m f n1 g s = false by simp [posB, askB, hv]) hb)
    rw [hv] at HV
    clear hL h h2 h3 hv
    go_enter Try.func21, Try.ntmps21
    go_wp2_with fail
    refine (HV.out _ (below_box _)).mono ?_
    rintro x w1 ⟨rfl, hb1⟩
    have HB := hide (box_plain hb1).1
    clear hb1
    go_wp2_with fail
    go_ret
    exact HN.out _ HB.out
  obtain ⟨hsc, rfl, hle⟩ := vSch_sch hv
  obtain ⟨hp, hn6, hl0, _, hrows⟩ := vSch_rows hv
  obtain ⟨b, off, rfl, hbl, hc⟩ := h (by omega)
  obtain ⟨R0, C0, e1, _⟩ := hc 0 (by omega)
  simp only [Nat.add_zero] at e1
  have HR0 := hide e1
  have HM := hide (fun (W : World) (hb : Below w.heap.size w W) => h.keep hb hb.size)
  have HO := hide (fun (W : World) (hb : Below w.heap.size w W) => h2.keep hb hb.size)
  have HSC := hide hsc
  have HRW := hide hrows
  have hm0 : 0 < m := hn6.1
  rw [hv] at HV
  have hva := hv
  clear hc e1 h h2 h3 hL hle hsc hrows hv
  by_cases h4 : ¬ L 0 ≤ 4
  · have HN := hide (fun w' hb => ps_no (w := w) (w' := w') (show posB p m L M m f n1 g s = false by rw [posB, decide_eq_false h4]; simp) hb)
    have h4I : ((L 0 : Nat) : Int) > 4 := by omega
    have h4N : 4 < L 0 := by omega
    clear h4 hva
    go_enter Try.func21, Try.ntmps21
    go_wp2_with fail
    refine (HV.out _ (below_box _)).mono ?_
    rintro x w1 ⟨rfl, hb1⟩
    obtain ⟨hbw, hbox⟩ := box_plain hb1
    have x0 := hbox.at_ (i := 0) (v := .int .i64 p) rfl
    have x1 := hbox.at_ (i := 1) (v := .slice (some ⟨b, off, none⟩) m c) rfl
    have x3 := (hbw.cell (p := ⟨b, off, none⟩) hbl).trans HR0.out
    have hbxl := hbox.lt
    have hbl1 : b < w1.heap.size := by omega
    have HB := hide hbw
    have HBX := hide hbox
    clear hb1 hbw hbox
    go_wp2_with fail
    go_ret
    exact HN.out _ HB.out
  have h4' : L 0 ≤ 4 := by omega
  have h4I : ((L 0 : Nat) : Int) ≤ 4 := by omega
  have h4N : ¬ 4 < L 0 := by omega
  have HW := hide (fun (W : World) (hb : Below w.heap.size w W) => validWord_any p B n1 c1 ((m : Nat) : Int) g W hp (by omega) (HI.out W hb))
  have HPW := hide (fun (W : World) => powerS_any 5 W (by omega))
  have HIN := hide (fun (W : World) => inRange_any s 0 31 W)
  cases hw : decide ((n1 : Int) = m) && allR n1 g p
  · have HN := hide (fun w' hb => ps_no (w := w) (w' := w') (show posB p m L M m f n1 g s = false by simp only [posB, askB, hw]; simp) hb)
    rw [hw] at HW
    clear h4 hva hw
    go_enter Try.func21, Try.ntmps21
    go_wp2_with fail
    refine (HV.out _ (below_box _)).mono ?_
    rintro x w1 ⟨rfl, hb1⟩
    obtain ⟨hbw, hbox⟩ := box_plain hb1
    have x0 := hbox.at_ (i := 0) (v := .int .i64 p) rfl
    have x1 := hbox.at_ (i := 1) (v := .slice (some ⟨b, off, none⟩) m c) rfl
    have x3 := (hbw.cell (p := ⟨b, off, none⟩) hbl).trans HR0.out
    have hbxl := hbox.lt
    have hbl1 : b < w1.heap.size := by omega
    have HB := hide hbw
    have HBX := hide hbox
    clear hb1 hbw hbox
    go_wp2_with fail
    refine (HW.out _ HB.out).mono ?_
    rintro x _ ⟨rfl, rfl⟩
    go_wp2_with fail
    go_ret
    exact HN.out _ HB.out
  rw [hw] at HW
  cases hi : inR s 0 31
  · have HN := hide (fun w' hb => ps_no (w := w) (w' := w') (show posB p m L M m f n1 g s = false by simp [posB, askB, hi]) hb)
    rw [hi] at HIN
    clear h4 hva hw hi
    go_enter Try.func21, Try.ntmps21
    go_wp2_with fail
    refine (HV.out _ (below_box _)).mono ?_
    rintro x w1 ⟨rfl, hb1⟩
    obtain ⟨hbw, hbox⟩ := box_plain hb1
    have x0 := hbox.at_ (i := 0) (v := .int .i64 p) rfl
    have x1 := hbox.at_ (i := 1) (v := .slice (some ⟨b, off, none⟩) m c) rfl
    have x3 := (hbw.cell (p := ⟨b, off, none⟩) hbl).trans HR0.out
    have hbxl := hbox.lt
    have hbl1 : b < w1.heap.size := by omega
    have HB := hide hbw
    have HBX := hide hbox
    clear hb1 hbw hbox
    go_wp2_with fail
    refine (HW.out _ HB.out).mono ?_
    rintro x _ ⟨rfl, rfl⟩
    go_wp2_with fail
    refine (HPW.out _).mono ?_
    rintro x _ ⟨rfl, rfl⟩
    go_wp2_with fail
    refine (HIN.out _).mono ?_
    rintro x _ ⟨rfl, rfl⟩
    go_wp2_with fail
    go_ret
    exact HN.out _ HB.out
  have hir := inR_true.1 hi
  rw [hi] at HIN
  have HPB := hide (show posB p m L M m f n1 g s = true by rw [posB, askB, hva, hi, hw, decide_eq_true h4']; rfl)
  obtain ⟨t, rfl⟩ := Int.eq_ofNat_of_zero_le hir.1
  have ht32 : t < 32 := by omega
  obtain ⟨P, rfl⟩ := Int.eq_ofNat_of_zero_le (show 0 ≤ p by omega)
  rw [Bool.and_eq_true, decide_eq_true_eq] at hw
  obtain ⟨hw1, hw2⟩ := hw
  obtain rfl : n1 = m := by omega
  have HGB := hide (fun i hi => allR_bd hw2 i hi)
  have HMS := hide (fun (W : World) => messagesS_any P (L 0) W (by omega) h4')
  have hmk := run_make_row' (P := Try.prog) 23 3 (.int .i64 0) 8 Try.underlying23 info_int rfl .i64 .i64 P (by omega) (by omega)
  have HTB := hide (show P ^ L 0 ≤ 2401 from Nat.le_trans (Nat.pow_le_pow_left (show P ≤ 7 by omega) _) (Nat.le_trans (Nat.pow_le_pow_right (by omega) h4') (by decide)))
  clear h4 hva hi hw1 hw2
  go_enter Try.func21, Try.ntmps21
  go_wp2_with fail
  refine (HV.out _ (below_box _)).mono ?_
  rintro x w1 ⟨rfl, hb1⟩
  obtain ⟨hbw, hbox⟩ := box_plain hb1
  have x0 := hbox.at_ (i := 0) (v := .int .i64 (P : Int)) rfl
  have x1 := hbox.at_ (i := 1) (v := .slice (some ⟨b, off, none⟩) n1 c) rfl
  have x3 := (hbw.cell (p := ⟨b, off, none⟩) hbl).trans HR0.out
  have hbxl := hbox.lt
  have hbl1 : b < w1.heap.size := by omega
  have HB := hide hbw
  have HBX := hide hbox
  clear hb1 hbw hbox
  go_wp2_with fail
  refine (HW.out _ HB.out).mono ?_
  rintro x _ ⟨rfl, rfl⟩
  go_wp2_with fail
  refine (HPW.out _).mono ?_
  rintro x _ ⟨rfl, rfl⟩
  go_wp2_with fail
  refine (HIN.out _).mono ?_
  rintro x _ ⟨rfl, rfl⟩
  go_wp2_with fail
  refine nameCode (fun w2 => w2.heap.size = w1.heap.size + 1 ∧ Below w.heap.size w w2 ∧ Blk w2 w.heap.size 29 #[.int .i64 P, .slice (some ⟨b, off, none⟩) n1 c, .slice O n1 e] ∧ Row w2 w.heap.size (some ⟨w1.heap.size, 0, none⟩) P P (List.replicate P 0)) ?_ ?_
  · exact ⟨by simp, HB.out.alloc HB.out.size _, HBX.out.alloc _, Row.zeros P HB.out.size (by omega)⟩
  have hs1 : w.heap.size + 1 ≤ w1.heap.size := hbxl
  clear x0 x1 x3 hbl1 HB HBX hbxl HW HPW HIN HV
  rintro w2 ⟨hz2, hb2, hbox, hrow⟩
  have hs2 : w1.heap.size + 1 ≤ w2.heap.size := by omega
  have x0 := hbox.at_ (i := 0) (v := .int .i64 (P : Int)) rfl
  have x1 := hbox.at_ (i := 1) (v := .slice (some ⟨b, off, none⟩) n1 c) rfl
  have x3 := (hb2.cell (p := ⟨b, off, none⟩) hbl).trans HR0.out
  have HB2 := hide hb2
  have HBX2 := hide hbox
  have HROW := hide hrow
  clear hz2 hb2 hbox hrow
  obtain ⟨T, hTT⟩ : ∃ T, P ^ L 0 = T := ⟨_, rfl⟩
  simp only [hTT] at HMS HTB
  have HTT := hide hTT
  have hTb := HTB.out
  clear hTT
  go_still_tail 7, (by kernel_rfl)
  change wpList _ _ _ _ _ w2.drew
  go_wp2_with fail
  refine (HMS.out _).mono ?_
  rintro x wv ⟨A', c', R, rfl, hT, hbv⟩
  have HV1 := hide (show Below w2.heap.size w2 wv from ((Below.refl w2.heap.size w2).drew).trans hbv)
  have HT := hide (show MsT wv w2.heap.size A' c' T P (L 0) R from hT)
  have hsv := hbv.size
  have hsv2 : w2.heap.size ≤ wv.heap.size := hsv
  clear hT hbv hsv x0 x1 x3
  go_wp2_with fail
  go_loopw [9] (fun i wr => ∃ τ : Nat, τ ≤ T ∧ i = .int .i64 τ ∧ Row wr w.heap.size (some ⟨w1.heap.size, 0, none⟩) P P (ctL P n1 (L 0) M f t g τ) ∧ Below w.heap.size w wr ∧ Only w1.heap.size wv wr) (fun i _ => T - (intOf i).toNat)
  case atStart => exact ⟨0, by omega, rfl, by rw [ctL_zero]; exact HROW.out.keep HV1.out, HB2.out.trans (HV1.out.mono (by omega)), Only.refl _ _⟩
  case round =>
    obtain ⟨τ, hτ, rfl, hrw, hbw, honly⟩ := hrel
    obtain ⟨wo, rfl⟩ : ∃ x, x = wr := ⟨_, rfl⟩
    have HRWO := hide hrw
    have HBW := hide hbw
    have HON := hide honly
    have hso := honly.size
    clear hrw hbw honly
    by_cases hlt : τ < T
    · have hτI : (τ : Int) < (T : Int) := by omega
      have hτI0 : (0 : Int) ≤ (τ : Int) := by omega
      obtain ⟨bO, gq, cq, rfl, hbO, hgq, x1, x2⟩ := HT.out.at2 hlt
      obtain ⟨onc, _⟩ := HON.out.cells
      have y1 := (onc bO τ hbO.2 (by omega)).trans x1
      have hi2 : Ints wo wo.heap.size (some ⟨gq, 0, none⟩) (L 0) (lf (dgs P (L 0) τ)) := fun _ => ⟨gq, 0, rfl, by omega, fun i hi => (onc gq (0 + i) hgq.2 (by omega)).trans (x2 i hi)⟩
      have kx : Blk wo w.heap.size 29 #[.int .i64 P, .slice (some ⟨b, off, none⟩) n1 c, .slice O n1 e] := (HON.out.block w.heap.size (by omega) (by simp; omega)).trans (HBX2.out.below HV1.out (by omega))
      have z0 := kx.at_ (i := 0) (v := .int .i64 (P : Int)) rfl
      have z1 := kx.at_ (i := 1) (v := .slice (some ⟨b, off, none⟩) n1 c) rfl
      have z2 := kx.at_ (i := 2) (v := .slice O n1 e) rfl
      have lz := kx.lt
      have lO : bO < wo.heap.size := by omega
      have lG : gq < wo.heap.size := by omega
      have HXS := hide hi2
      have hxl := dgs_len P (L 0) τ
      have hxb := fun y => dgs_bd (p := P) (by omega) (L 0) τ y
      have HFF := hide (fineR_fit (p := P) (n := n1) (k := L 0) (s := t) (M := M) (f := f) (g := g) (xs := dgs P (L 0) τ))
      have HYES := hide (fun (d : Nat) => ct_yes (P := P) (n := n1) (k := L 0) (s := t) (M := M) (f := f) (g := g) (t := τ) (d := d))
      have HNO := hide (ct_no (P := P) (n := n1) (k := L 0) (s := t) (M := M) (f := f) (g := g) (t := τ))
      clear x1 x2 onc hi2 kx
      generalize dgs P (L 0) τ = xs at *
      have HXB := hide (fun i (hi : i < L 0) => (show 0 ≤ lf xs i ∧ lf xs i ≤ (P : Int) - 1 by
        have hl : i < xs.length := by omega
        have := hxb _ (List.getElem_mem hl)
        simp only [lf, List.getD, List.getElem?_eq_getElem hl, Option.getD_some]
        omega))
      have HXL := hide hxl
      clear hxb hxl
      go_wp2_with fail
      go_loopw [10, 11] (fun v i wr => ∃ j q : Nat, j ≤ n1 ∧ i = .int .i64 j ∧ v = .bool (fineR P (L 0) M f t g (lf xs) j) ∧ wr = wo.drewN q) (fun _ i _ => n1 - (intOf i).toNat)
      case atStart => exact ⟨0, 0, by omega, rfl, rfl, rfl⟩
      case round =>
        obtain ⟨j, q, hj, rfl, rfl, rfl⟩ := hrel
        by_cases hjn : j < n1
        · have hjI : (j : Int) < (n1 : Int) := by omega
          have hjI0 : (0 : Int) ≤ (j : Int) := by omega
          have ho := HSC.out.own j hjn
          obtain ⟨o, ho1⟩ := Int.eq_ofNat_of_zero_le ho.1
          obtain ⟨bo, oo, rfl, hbo, hco⟩ := HO.out wo HBW.out (by omega)
          have z3 := hco j hjn
          rw [ho1] at z3
          obtain ⟨b', off', eB, hbl3, hc3⟩ := HM.out wo HBW.out (by omega)
          obtain ⟨rfl, rfl⟩ : b = b' ∧ off = off' := by simpa using eB
          obtain ⟨R1, C1, e1, e2⟩ := hc3 j hjn
          obtain ⟨m1, m2⟩ := HRW.out j hjn
          rw [m1] at e1 e2
          obtain ⟨bS, oS, rfl, hbS, hcS⟩ := HI.out wo HBW.out (by omega)
          have z5 := hcS j hjn
          have HD := hide (fun (N : Nat) => dot_any P R1 (some ⟨gq, 0, none⟩) (L 0) C1 (L 0) cq (M j) (lf xs) (wo.drewN N) (by omega) (by omega) (Nat.le_refl _) (fun z hz => by
            have a1 := m2 z hz
            have a2 := HXB.out z hz
            omega) e2 HXS.out)
          have HS := hide (show fineR P (L 0) M f t g (lf xs) (j + 1) = (fineR P (L 0) M f t g (lf xs) j && (!bt t o || decide (dsum (M j) (lf xs) (L 0) % P = g j))) by rw [fineR, ho1, Int.toNat_natCast])
          have ho4 : o ≤ 4 := by omega
          clear hco hc3 hcS e2 m1 m2 eB ho1
          generalize dsum (M j) (lf xs) (L 0) % P = u at *
          generalize g j = z at *
          cases hfk : fineR P (L 0) M f t g (lf xs) j
          · rw [hfk] at HS
            have HFK := hide hfk
            clear hfk
            go_wp2_with fail
            refine quietP (by kernel_rfl) (by kernel_rfl) ?_
            repeat (refine wq_step (fun K hK => ?_); go_simp; refine hK _ ?_; clear hK K)
            refine wq_nil ?_
            intro _ hw'
            obtain ⟨nq, hw''⟩ := hw'
            subst hw''
            go_wp2_with fail
            exact ⟨⟨j + 1, _, hjn, by go_num, by rw [HS.out]; rfl, rfl⟩, by simp only [intOf]; omega⟩
          · rw [hfk] at HS
            have HFK := hide hfk
            clear hfk
            cases hbt : bt t o
            · have HBT := hide (fun W => bitS_f t o W (by omega) (by omega) hbt)
              rw [hbt] at HS
              clear hbt
              go_wp2_with fail
              refine quietP (by kernel_rfl) (by kernel_rfl) ?_
              repeat (refine wq_step (fun K hK => ?_); go_simp; first | (refine hK _ ?_; clear hK K) | (apply Exists.intro; refine ⟨fun _ => ?_, hK _ ?_⟩; (go_at_call 50; with_reducible exact quiet_eq (HBT.out _)); clear hK K))
              refine wq_nil ?_
              intro _ hw'
              obtain ⟨nq, hw''⟩ := hw'
              subst hw''
              go_wp2_with fail
              exact ⟨⟨j + 1, _, hjn, by go_num, by rw [HS.out]; rfl, rfl⟩, by simp only [intOf]; omega⟩
            · have HBT := hide (fun W => bitS_t t o W (by omega) (by omega) hbt)
              rw [hbt] at HS
              clear hbt
              go_wp2_with fail
              refine quietP (by kernel_rfl) (by kernel_rfl) ?_
              repeat (refine wq_step (fun K hK => ?_); go_simp; first | (refine hK _ ?_; clear hK K) | (apply Exists.intro; refine ⟨fun _ => ?_, hK _ ?_⟩; (first | (go_at_call 50; with_reducible exact quiet_eq (HBT.out _)) | (go_at_call 59; with_reducible exact quiet_more (HD.out _))); clear hK K))
              refine wq_nil ?_
              intro _ hw'
              obtain ⟨nq, hw''⟩ := hw'
              subst hw''
              go_wp2_with fail
              exact ⟨⟨j + 1, _, hjn, by go_num, by rw [HS.out]; rfl, rfl⟩, by simp only [intOf]; omega⟩
        · obtain hjl : j = n1 := by omega
          have hge : ¬ (j : Int) < (n1 : Int) := by omega
          have HFE := hide (show fineR P (L 0) M f t g (lf xs) j = fitB P n1 (L 0) M f t g xs by rw [hjl]; exact HFF.out)
          clear hjl
          cases hfk : fineR P (L 0) M f t g (lf xs) j
          · rw [hfk] at HFE
            have HFN := hide (HNO.out HFE.out.symm)
            clear hfk
            go_wp2_with fail
            exact ⟨⟨τ + 1, hlt, by go_num, by rw [HFN.out]; exact HRWO.out.drewN q, below_drewN HBW.out q, HON.out.drewN q⟩, by simp only [intOf]; omega⟩
          · rw [hfk] at HFE
            have hL0 : 0 < L 0 := hl0.1
            have hd := HXB.out 0 hL0
            obtain ⟨d, hdd⟩ := Int.eq_ofNat_of_zero_le hd.1
            rw [hdd] at hd
            have HYE := hide (HYES.out d HFE.out.symm hdd)
            obtain ⟨_, _, eA, _, hcx⟩ := HXS.out hL0
            injection eA with eA
            injection eA with eA eB
            subst eA
            subst eB
            have y2 := hcx 0 hL0
            rw [hdd, Nat.zero_add] at y2
            obtain ⟨_, eA, _, _, y3, y4, hset⟩ := HRWO.out.at_ (i := d) (by omega)
            injection eA with eA
            injection eA with eA
            subst eA
            have hct : (ctL P n1 (L 0) M f t g τ).getD d 0 = ctF P n1 (L 0) M f t g τ d := listOf_getD _ (by omega)
            rw [hct] at y3
            have hb1 := ct_bd (P := P) (n := n1) (k := L 0) (M := M) (f := f) (g := g) (s := t) (x := d) τ
            have HS := hide (hset (ctF P n1 (L 0) M f t g τ d + 1))
            rw [← HYE.out] at HS
            have hdI : (d : Int) < (P : Int) := by omega
            have hdI0 : (0 : Int) ≤ (d : Int) := by omega
            have hwr : IntKind.i64.wrap (ctF P n1 (L 0) M f t g τ d + 1) = ctF P n1 (L 0) M f t g τ d + 1 := IntWalk.i64_in _ (by omega)
            generalize ctF P n1 (L 0) M f t g τ d = u at *
            have lz2 : w1.heap.size < wo.heap.size := by omega
            clear hfk hset hct hdd hcx
            go_wp2_with fail
            have HB3 := hide ((below_drewN HBW.out (q + 1)).setCell (p := ⟨w1.heap.size, d, none⟩) (show w.heap.size ≤ w1.heap.size by omega) (.int .i64 (u + 1)))
            have HO3 := hide ((HON.out.drewN (q + 1)).setCell (p := ⟨w1.heap.size, d, none⟩) (.inl rfl) (.int .i64 (u + 1)))
            refine nameCode (fun wq => (wq.cell? ⟨bO, τ, none⟩ = some (.slice (some ⟨gq, 0, none⟩) (L 0) cq) ∧ wq.cell? ⟨gq, 0, none⟩ = some (.int .i64 (d : Int)) ∧ wq.cell? ⟨w1.heap.size, d, none⟩ = some (.int .i64 u) ∧ wq.frozen? ⟨w1.heap.size, d, none⟩ = false) ∧ w1.heap.size < wq.heap.size ∧ bO < wq.heap.size ∧ gq < wq.heap.size ∧ Row (wq.drew.setCell ⟨w1.heap.size, d, none⟩ (.int .i64 (u + 1))) w.heap.size (some ⟨w1.heap.size, 0, none⟩) P P (ctL P n1 (L 0) M f t g (τ + 1)) ∧ Below w.heap.size w (wq.drew.setCell ⟨w1.heap.size, d, none⟩ (.int .i64 (u + 1))) ∧ Only w1.heap.size wv (wq.drew.setCell ⟨w1.heap.size, d, none⟩ (.int .i64 (u + 1)))) ⟨⟨y1, y2, y3, y4⟩, lz2, lO, lG, HS.out, HB3.out, HO3.out⟩ ?_
            clear y1 y2 y3 y4 lz2 lO lG HS HB3 HO3
            rintro wq ⟨⟨y1, y2, y3, y4⟩, lz2, lO, lG, hs, hb3, ho3⟩
            have HS := hide hs
            have HB3 := hide hb3
            have HO3 := hide ho3
            clear hs hb3 ho3
            go_still_tail 18, (by kernel_rfl)
            change wpList _ _ _ _ _ wq.drew
            go_wp2_with fail
            exact ⟨⟨τ + 1, hlt, by go_num, HS.out, HB3.out, HO3.out⟩, by simp only [intOf]; omega⟩
    · obtain rfl : τ = T := by omega
      have hge : ¬ (τ : Int) < (τ : Int) := by omega
      go_wp2_with fail
      go_ret
      exact ps_yes HPB.out (by rw [HTT.out]; exact HRWO.out) HBW.out
end Go.Proofs.Ytcalfblghblhcaa
