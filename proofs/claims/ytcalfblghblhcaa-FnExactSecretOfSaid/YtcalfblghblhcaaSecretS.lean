/-
  SecretOf, the reference's. Conditions: the scheme and the shares can be read.
-/
import Derived.Test.YtcalfblghblhcaaSecret
namespace Go.Proofs.Ytcalfblghblhcaa
open Go.RowKit

set_option maxRecDepth 100000 in
set_option maxHeartbeats 4000000 in
theorem SecretOfS_any (p : Int) (A : Option Addr) (n c : Nat) (L : Nat → Nat) (M : Nat → Nat → Int) (O : Option Addr) (m e : Nat) (f : Nat → Int) (B : Option Addr) (n1 c1 : Nat) (g : Nat → Int) (s : Int) (w : World) (hn : n ≤ 1048576) (hL : ∀ i, i < n → L i ≤ 1048576) (hm : m ≤ 1048576) (h : Mat w w.heap.size A n L M) (h2 : Ints w w.heap.size O m f) (hn1 : n1 ≤ 1048576) (h3 : Ints w w.heap.size B n1 g) :
    Calls Try.prog 12 #[.agg #[.int .i64 p, .slice A n c, .slice O m e], .slice B n1 c1, .int .i64 s] w (SecPost p n L M m f n1 g s w) := by
  have HV := hide (fun (W : World) (hb : Below w.heap.size w W) => validSchemeS_any p A O n c m e L M f W (by omega) (fun i hi => Nat.le_trans (hL i hi) (by omega)) (by omega) (h.keep hb hb.size) (h2.keep hb hb.size))
  have HI := hide (fun (W : World) (hb : Below w.heap.size w W) => h3.keep hb hb.size)
  cases hv : vSch p n L M m f
  · have HN := hide (fun w' hb => sec_no (w := w) (w' := w') (show secB p n L M m f n1 g s = false by simp [secB, hv]) hb)
    rw [hv] at HV
    clear hL h h2 h3 hv
    go_enter Try.func12, Try.ntmps12
    go_wp2_with fail
    refine (HV.out _ (below_box _)).mono ?_
    rintro x w1 ⟨rfl, hb1⟩
    have HB := hide (box_plain hb1).1
    clear hb1
    go_wp2_with fail
    go_ret2
    exact HN.out _ HB.out
  obtain ⟨hsc, rfl, hle⟩ := vSch_sch hv
  have hpb := isP_pos hsc.hp
  have hnn := hsc.hn
  have hmm := hsc.hm
  rw [hv] at HV
  have HW := hide (fun (W : World) (hb : Below w.heap.size w W) => validWord_any p B n1 c1 ((m : Nat) : Int) g W hpb (by omega) (HI.out W hb))
  have HPW := hide (fun (W : World) => powerS_any 5 W (by omega))
  have HIN := hide (fun (W : World) => inRange_any s 0 31 W)
  have hm2 := h.const hle
  cases hw : decide ((n1 : Int) = m) && allR n1 g p
  · have HN := hide (fun w' hb => sec_no (w := w) (w' := w') (show secB p m L M m f n1 g s = false by simp only [secB, hw]; simp) hb)
    rw [hw] at HW
    clear hL h h2 h3 hv hw hsc hle hm2
    go_enter Try.func12, Try.ntmps12
    go_wp2_with fail
    refine (HV.out _ (below_box _)).mono ?_
    rintro x w1 ⟨rfl, hb1⟩
    obtain ⟨hbw, hbox⟩ := box_plain hb1
    have x0 := hbox.at_ (i := 0) rfl
    have x1 := hbox.at_ (i := 1) rfl
    have x2 := hbox.at_ (i := 2) rfl
    have hbl := hbox.lt
    have HB := hide hbw
    clear hb1 hbw hbox
    go_wp2_with fail
    refine (HW.out _ HB.out).mono ?_
    rintro x _ ⟨rfl, rfl⟩
    go_wp2_with fail
    go_ret2
    exact HN.out _ HB.out
  rw [hw] at HW
  cases hi : inR s 0 31
  · have HN := hide (fun w' hb => sec_no (w := w) (w' := w') (show secB p m L M m f n1 g s = false by simp [secB, hi]) hb)
    rw [hi] at HIN
    clear hL h h2 h3 hv hw hi hsc hle hm2
    go_enter Try.func12, Try.ntmps12
    go_wp2_with fail
    refine (HV.out _ (below_box _)).mono ?_
    rintro x w1 ⟨rfl, hb1⟩
    obtain ⟨hbw, hbox⟩ := box_plain hb1
    have x0 := hbox.at_ (i := 0) rfl
    have x1 := hbox.at_ (i := 1) rfl
    have x2 := hbox.at_ (i := 2) rfl
    have hbl := hbox.lt
    have HB := hide hbw
    clear hb1 hbw hbox
    go_wp2_with fail
    refine (HW.out _ HB.out).mono ?_
    rintro x _ ⟨rfl, rfl⟩
    go_wp2_with fail
    refine (HPW.out _).mono ?_
    rintro x _ ⟨rfl, rfl⟩
    go_wp2_with fail
    refine (HIN.out _).mono ?_
    rintro x _ ⟨rfl, rfl⟩
    go_wp2_with fail
    go_ret2
    exact HN.out _ HB.out
  have hir := inR_true.1 hi
  rw [hi] at HIN
  obtain ⟨t, rfl⟩ := Int.eq_ofNat_of_zero_le hir.1
  have HKN := hide (fun (W : World) (hb : Below w.heap.size w W) => knowsS_any p A O m c (L 0) e t M f W hsc (by omega) (hm2.keep hb hb.size) (h2.keep hb hb.size))
  cases hk : knB p m (L 0) M f t
  · have HN := hide (fun w' hb => sec_no (w := w) (w' := w') (show secB p m L M m f n1 g (t : Int) = false by simp [secB, hk]) hb)
    rw [hk] at HKN
    clear hL h h2 h3 hv hw hi hsc hle hm2
    go_enter Try.func12, Try.ntmps12
    go_wp2_with fail
    refine (HV.out _ (below_box _)).mono ?_
    rintro x w1 ⟨rfl, hb1⟩
    obtain ⟨hbw, hbox⟩ := box_plain hb1
    have x0 := hbox.at_ (i := 0) rfl
    have x1 := hbox.at_ (i := 1) rfl
    have x2 := hbox.at_ (i := 2) rfl
    have hbl := hbox.lt
    have HB := hide hbw
    clear hb1 hbw hbox
    go_wp2_with fail
    refine (HW.out _ HB.out).mono ?_
    rintro x _ ⟨rfl, rfl⟩
    go_wp2_with fail
    refine (HPW.out _).mono ?_
    rintro x _ ⟨rfl, rfl⟩
    go_wp2_with fail
    refine (HIN.out _).mono ?_
    rintro x _ ⟨rfl, rfl⟩
    go_wp2_with fail
    refine (HKN.out _ HB.out).mono ?_
    rintro x w2 ⟨rfl, hb2⟩
    have HB2 := hide (up hb2 HB.out HB.out.size)
    clear hb2
    go_wp2_with fail
    go_ret2
    exact HN.out _ HB2.out
  rw [hk] at HKN
  rw [Bool.and_eq_true, decide_eq_true_eq] at hw
  obtain ⟨hw1, hw2⟩ := hw
  obtain rfl : n1 = m := by omega
  have hok : secB p n1 L M n1 f n1 g (t : Int) = true := by simp [secB, hv, hw2, hi, hk]
  have HRES := hide (show secI p n1 L M n1 f n1 g (t : Int) = sacc (facF p n1 (L 0) M f t) g (ownL f t n1) (ownL f t n1).length % p by rw [secI, if_pos hok]; rfl)
  have HOKB := hide hok
  have HSC := hide hsc
  have HOW := hide (fun (W : World) (hb : Below w.heap.size w W) => ownedS_any p A O n1 c (L 0) e t M f W hsc (by omega) (hm2.keep hb hb.size) (h2.keep hb hb.size))
  have HUN := hide (fun (W : World) => unit_any (L 0) W hmm)
  have HI2 := hide (fun (W : World) (hb : Below w.heap.size w W) => h2.keep hb hb.size)
  have HGB := hide (fun i hi => allR_bd hw2 i hi)
  obtain ⟨fac, hf1, hf2, hf3⟩ := fac_bd hsc.hp hk
  have HF3 := hide hf3
  have HKB := hide hk
  have hgl := ownL_len f t n1
  have hg0 : (ownL f t n1).length ≠ 0 := fun h0 => by
    have := kn_zero (M := M) (f := f) (s := t) (n := n1) hsc.hp hmm.1 h0
    rw [hk] at this; cases this
  rw [hf2] at HRES
  have HFAC := hide hf1
  clear hL h h2 h3 hv hw1 hw2 hi hk hle hm2 hok hf1 hf2 hf3 hsc
  go_enter Try.func12, Try.ntmps12
  go_wp2_with fail
  refine (HV.out _ (below_box _)).mono ?_
  rintro x w1 ⟨rfl, hb1⟩
  obtain ⟨hbw, hbox⟩ := box_plain hb1
  have x0 := hbox.at_ (i := 0) rfl
  have x1 := hbox.at_ (i := 1) rfl
  have x2 := hbox.at_ (i := 2) rfl
  have hbl := hbox.lt
  have HB := hide hbw
  have HBX := hide hbox
  clear hb1 hbw hbox
  go_wp2_with fail
  refine (HW.out _ HB.out).mono ?_
  rintro x _ ⟨rfl, rfl⟩
  go_wp2_with fail
  refine (HPW.out _).mono ?_
  rintro x _ ⟨rfl, rfl⟩
  go_wp2_with fail
  refine (HIN.out _).mono ?_
  rintro x _ ⟨rfl, rfl⟩
  go_wp2_with fail
  refine (HKN.out _ HB.out).mono ?_
  rintro x w2 ⟨rfl, hb2⟩
  have hbx2 := HBX.out.below hb2 hbl
  have HB2 := hide (up hb2 HB.out HB.out.size)
  have HBX2 := hide hbx2
  have hbl2 := hbx2.lt
  clear x0 x1 x2 hb2 HBX
  have x0 := hbx2.at_ (i := 0) rfl
  have x1 := hbx2.at_ (i := 1) rfl
  have x2 := hbx2.at_ (i := 2) rfl
  clear hbx2
  go_wp2_with fail
  refine (HOW.out _ HB2.out).mono ?_
  rintro x w3 ⟨A3, c3, rfl, hm3, hb3⟩
  have hbx3 := HBX2.out.below hb3 hbl2
  have HB3 := hide (up hb3 HB2.out HB2.out.size)
  have HBX3 := hide hbx3
  have hbl3 := hbx3.lt
  clear x0 x1 x2 hb3 HBX2
  have x0 := hbx3.at_ (i := 0) rfl
  clear hbx3
  obtain ⟨g3, o3, rfl, hg3, hcg⟩ := hm3 (by omega)
  obtain ⟨R0, C0, r0, _⟩ := hcg 0 (by omega)
  simp only [Nat.add_zero] at r0
  have HSL := hide (fun (W : World) (B : Option Addr) (d : Nat) (hb : Below w3.heap.size w3 W) (hi : Ints W W.heap.size B (L 0) unitF) => solveS_any p HSC.out.hp (some ⟨g3, o3, none⟩) B (ownL f t n1).length c3 (L 0) d (gR M f t n1) unitF W ⟨by omega, by omega⟩ hmm (HSC.out.grng t) (fun k _ => unit_rng HSC.out.hp k) (hm3.keep hb hb.size) hi)
  have h0p : 0 < (ownL f t n1).length := by omega
  have h0I : (0 : Int) < ((ownL f t n1).length : Int) := by omega
  clear hcg hg0 hm3
  generalize hLL : (ownL f t n1).length = q at *
  have HLL := hide hLL
  clear hLL
  go_wp2_with fail
  go_region_held3 (fun w' => w'.cell? ⟨w.heap.size, 0, none⟩ = some (.int .i64 p) ∧ w'.cell? ⟨g3, o3, none⟩ = some (.slice R0 (L 0) C0)) (first | exact ⟨x0, r0⟩ | exact ⟨y0, y1⟩ | exact ⟨z0, z1⟩) (first | (go_at_call 49; refine (HUN.out _).mono ?_; rintro x wu ⟨rfl, hiu, hbu⟩; have hbu1 : Below w3.heap.size w3 wu := (by first | exact hbu | exact up hbu (Below.refl w3.heap.size w3).drew (Nat.le_refl _)); have y0 := (hbu1.cell (p := ⟨w.heap.size, 0, none⟩) hbl3).trans x0; have y1 := (hbu1.cell (p := ⟨g3, o3, none⟩) hg3).trans r0) | (go_at_call 48; refine (HSL.out _ _ _ hbu1 hiu).mono ?_; rintro x wv hsol; rw [← HLL.out] at hsol; obtain ⟨A5, N5, c5, rfl, hb5, h5⟩ := sol_kn HSC.out.hp hsol; have z0 := (hb5.cell (p := ⟨w.heap.size, 0, none⟩) (show w.heap.size < wu.heap.size by have := hbu1.size; omega)).trans y0; have z1 := (hb5.cell (p := ⟨g3, o3, none⟩) (show g3 < wu.heap.size by have := hbu1.size; omega)).trans y1))
  obtain ⟨hN5, fc, hfc1, hfc2, hrow5⟩ := h5 HKB.out
  rw [HLL.out] at hfc1
  have hfe : fc = fac := by have := HFAC.out; rw [hfc1] at this; injection this
  subst hfe
  subst hN5
  have hbv : Below w3.heap.size w3 wv := up hb5 hbu1 hbu1.size
  have HBV := hide (up hbv HB3.out HB3.out.size)
  have HBXV := hide (HBX3.out.below hbv hbl3)
  have HROW := hide hrow5
  rw [HLL.out] at HROW
  rw [HLL.out]
  have HBBV := hide (HI.out wv HBV.out)
  have HOOV := hide (HI2.out wv HBV.out)
  have hgq : q ≤ 6 := by omega
  obtain ⟨b5, e5, _, hb5l⟩ : ∃ b5, A5 = some ⟨b5, 0, none⟩ ∧ True ∧ b5 < wv.heap.size := by
    rcases HROW.out.form with ⟨_, h0, _⟩ | ⟨b5, e, _, h1, _⟩
    · omega
    · exact ⟨b5, e, trivial, h1⟩
  subst e5
  have HCL := hide (HROW.out.cells)
  obtain ⟨bB, oB, eB, hbB, hcB⟩ := HBBV.out (by omega)
  subst eB
  obtain ⟨bO, oO, eO, hbO, hcO⟩ := HOOV.out (by omega)
  subst eO
  have HCB := hide hcB
  have HCO := hide hcO
  have HFL := hide (show ∀ i, i < n1 → bt t (f i).toNat = true → (ownL f t i).length < q ∧ (ownL f t n1).getD (ownL f t i).length 0 = i from fun i hi hb => ⟨by rw [← HLL.out]; exact ownL_less hb n1 hi, ownL_place hb n1 hi⟩)
  clear h5 hrow5 hb5 hiu hbu hbu1 y0 y1 z0 z1 x0 r0 hbv hcB hcO hfc1 hfc2
  go_wp2_with fail
  go_loopw [11, 12, 13] (fun v1 v2 v3 wr => ∃ i : Nat, i ≤ n1 ∧ v3 = .int .i64 i ∧ v2 = .int .i64 ((ownL f t i).length : Nat) ∧ v1 = .int .i64 (sacc fc g (ownL f t n1) (ownL f t i).length % p) ∧ Below wv.heap.size wv wr) (fun _ _ v _ => n1 - (intOf v).toNat)
  case atStart => exact ⟨0, by omega, rfl, rfl, by simp [sacc, ownL], Below.refl _ _⟩
  case round =>
    obtain ⟨i, hi, rfl, rfl, rfl, hbr⟩ := hrel
    have hbx := HBXV.out.below hbr (HBXV.out.lt)
    have x0 := hbx.at_ (i := 0) rfl
    have x1 := hbx.at_ (i := 1) rfl
    have x2 := hbx.at_ (i := 2) rfl
    have hbxl := hbx.lt
    have HBR := hide hbr
    clear hbr hbx
    by_cases hin : i < n1
    · have hiI : (i : Int) < (n1 : Int) := by omega
      have ho := HSC.out.own i hin
      obtain ⟨o, ho1⟩ := Int.eq_ofNat_of_zero_le ho.1
      have x3 := (HBR.out.cell (p := ⟨bO, oO + i, none⟩) hbO).trans (HCO.out i hin)
      have x4 := (HBR.out.cell (p := ⟨bB, oB + i, none⟩) hbB).trans (HCB.out i hin)
      rw [ho1] at x3
      have HS := hide (show ownL f t (i + 1) = ownL f t i ++ if bt t o then [i] else [] by rw [ownL_succ, ho1, Int.toNat_natCast])
      have hgb := HGB.out i hin
      have hmb : 0 ≤ sacc fc g (ownL f t n1) (ownL f t i).length % p ∧ sacc fc g (ownL f t n1) (ownL f t i).length % p < p := ⟨Int.emod_nonneg _ (by omega), Int.emod_lt_of_pos _ (by omega)⟩
      cases hbt : bt t o
      · have HBT := hide (fun W => bitS_f t o W (by omega) (by omega) hbt)
        rw [hbt] at HS
        clear hbt
        have HE := hide (show ownL f t (i + 1) = ownL f t i by rw [HS.out]; simp)
        clear x4
        go_wp2_with fail
        refine (HBT.out _).mono ?_
        rintro x _ ⟨rfl, rfl⟩
        go_wp2_with fail
        go_roundw
        case rel => first | exact ⟨i + 1, by omega, by go_num, by rw [HE.out], by rw [HE.out], HBR.out⟩ | ((repeat apply Exists.intro); exact ⟨⟨i + 1, by omega, by go_num, by rw [HE.out], by rw [HE.out], HBR.out⟩, rfl⟩)
        case measure => simp [intOf]; omega
      · have HBT := hide (fun W => bitS_t t o W (by omega) (by omega) hbt)
        rw [hbt] at HS
        obtain ⟨hkq, hpl⟩ := HFL.out i hin (by rw [ho1, Int.toNat_natCast]; exact hbt)
        clear hbt
        have HEL := hide (show (ownL f t (i + 1)).length = (ownL f t i).length + 1 by rw [HS.out]; simp)
        generalize hkk : (ownL f t i).length = k at *
        have x5 := (HBR.out.cell (p := ⟨b5, k, none⟩) hb5l).trans (HCL.out k hkq)
        have hfb := HF3.out k hkq
        have hpr := mul_bd6 (a := fc k) (b := g i) (by omega) (by omega)
        have HSA := hide (show sacc fc g (ownL f t n1) (k + 1) = sacc fc g (ownL f t n1) k + fc k * g i by rw [sacc, hpl])
        have HSM := hide (show sacc fc g (ownL f t n1) (k + 1) % p = (sacc fc g (ownL f t n1) k % p + fc k * g i) % p by rw [HSA.out, Int.emod_add_emod])
        generalize sacc fc g (ownL f t n1) k % p = u at *
        generalize fc k = y at *
        generalize g i = z at *
        have hp0 : p ≠ 0 := by omega
        have hp1 : (p == 0) = false := by simp; omega
        have htm : (u + y * z).tmod p = (u + y * z) % p := Int.tmod_eq_emod_of_nonneg (by omega)
        have hwr : IntKind.i64.wrap (y * z) = y * z := IntWalk.i64_in _ (by omega)
        have hwr2 : IntKind.i64.wrap (u + y * z) = u + y * z := IntWalk.i64_in _ (by omega)
        have hkI : (k : Int) < (q : Int) := by omega
        have hkI0 : (0 : Int) ≤ (k : Int) := by omega
        have hiI0 : (0 : Int) ≤ (i : Int) := by omega
        clear hkk hpl
        go_wp2_with fail
        refine (HBT.out _).mono ?_
        rintro x _ ⟨rfl, rfl⟩
        go_wp2_with fail
        go_quiet (fail)
        go_wp2_with fail
        go_roundw
        case rel => first | exact ⟨i + 1, by omega, by go_num, by rw [HEL.out]; go_num, by rw [HEL.out, HSM.out], below_drewN HBR.out _⟩ | ((repeat apply Exists.intro); exact ⟨⟨i + 1, by omega, by go_num, by rw [HEL.out]; go_num, by rw [HEL.out, HSM.out], below_drewN HBR.out _⟩, rfl⟩)
        case measure => simp [intOf]; omega
    · obtain rfl : i = n1 := by omega
      have HF := hide (up HBR.out HBV.out HBV.out.size)
      have HR2 := hide (show sacc fc g (ownL f t i) (ownL f t i).length % p = secI p i L M i f i g (t : Int) by rw [HRES.out, HLL.out])
      rw [HR2.out]
      have hge : ¬ (i : Int) < (i : Int) := by omega
      go_wp2_with fail
      go_ret2
      exact ⟨by rw [HOKB.out]; rfl, HF.out⟩

end Go.Proofs.Ytcalfblghblhcaa
