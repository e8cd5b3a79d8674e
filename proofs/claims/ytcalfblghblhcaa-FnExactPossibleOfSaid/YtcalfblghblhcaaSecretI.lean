/-
  SecretOf, the program's. Conditions: the scheme and the shares can be read.
-/
import Derived.Test.YtcalfblghblhcaaSecret
namespace Go.Proofs.Ytcalfblghblhcaa
open Go.RowKit

/-- what is asked of the arguments -/
def askB (p : Int) (n : Nat) (L : Nat → Nat) (M : Nat → Nat → Int) (m : Nat) (f : Nat → Int) (n1 : Nat) (g : Nat → Int) (s : Int) : Bool := vSch p n L M m f && (inR s 0 31 && (decide ((n1 : Int) = n) && allR n1 g p))
theorem ret_ask {p : Int} {a b : Bool} (h : a = b) : Ending.returned (.tuple #[.int .i64 p, .bool a]) = Ending.returned (.tuple #[.int .i64 p, .bool b]) := by rw [h]
set_option maxHeartbeats 1000000 in
theorem asked_any (p : Int) (A : Option Addr) (n c : Nat) (L : Nat → Nat) (M : Nat → Nat → Int) (O : Option Addr) (m e : Nat) (f : Nat → Int) (B : Option Addr) (n1 c1 : Nat) (g : Nat → Int) (s : Int) (w : World) (hn : n ≤ 1048576) (hL : ∀ i, i < n → L i ≤ 1048576) (hm : m ≤ 1048576) (h : Mat w w.heap.size A n L M) (h2 : Ints w w.heap.size O m f) (hn1 : n1 ≤ 1048576) (h3 : Ints w w.heap.size B n1 g) :
    Calls Try.prog 51 #[.agg #[.int .i64 p, .slice A n c, .slice O m e], .slice B n1 c1, .int .i64 s] w fun x w' => x = .returned (.tuple #[.int .i64 p, .bool (askB p n L M m f n1 g s)]) ∧ Below w.heap.size w w' := by
  have HV := hide (fun (W : World) (hb : Below w.heap.size w W) => knownI_any p A O n c m e L M f W (by omega) (fun i hi => Nat.le_trans (hL i hi) (by omega)) (by omega) (h.keep hb hb.size) (h2.keep hb hb.size))
  have HI := hide (fun (W : World) (hb : Below w.heap.size w W) => h3.keep hb hb.size)
  have HIN := hide (fun (W : World) => groupOk_any s W)
  clear hL h h2 h3
  cases hv : vSch p n L M m f
  · have HX := hide (show askB p n L M m f n1 g s = false by simp [askB, hv])
    rw [hv] at HV
    clear hv
    go_enter Try.func51, Try.ntmps51
    go_wp2_with fail
    refine (HV.out _ (below_box _)).mono ?_
    rintro x w1 ⟨rfl, hb1⟩
    have HB := hide (box_plain hb1).1
    clear hb1
    go_wp2_with fail
    go_ret2
    exact ⟨ret_ask HX.out.symm, HB.out⟩
  have hpb := isP_pos (vSch_sch hv).1.hp
  rw [hv] at HV
  cases hi : inR s 0 31
  · have HX := hide (show askB p n L M m f n1 g s = false by simp [askB, hi])
    rw [hi] at HIN
    clear hv hi
    go_enter Try.func51, Try.ntmps51
    go_wp2_with fail
    refine (HV.out _ (below_box _)).mono ?_
    rintro x w1 ⟨rfl, hb1⟩
    have HB := hide (box_plain hb1).1
    clear hb1
    go_wp2_with fail
    refine (HIN.out _).mono ?_
    rintro x _ ⟨rfl, rfl⟩
    go_wp2_with fail
    go_ret2
    exact ⟨ret_ask HX.out.symm, HB.out⟩
  rw [hi] at HIN
  by_cases hln : ¬ n1 = n
  · have HX := hide (show askB p n L M m f n1 g s = false by rw [askB, decide_eq_false (show ¬ (n1 : Int) = n by omega)]; simp)
    have hne : ((n1 : Int) == (n : Int)) = false := by simp; omega
    clear hv hi hln
    go_enter Try.func51, Try.ntmps51
    go_wp2_with fail
    refine (HV.out _ (below_box _)).mono ?_
    rintro x w1 ⟨rfl, hb1⟩
    obtain ⟨hbw, hbox⟩ := box_plain hb1
    have x1 := hbox.at_ (i := 1) rfl
    have hbl := hbox.lt
    have HB := hide hbw
    clear hb1 hbw hbox
    go_wp2_with fail
    refine (HIN.out _).mono ?_
    rintro x _ ⟨rfl, rfl⟩
    go_wp2_with fail
    go_ret2
    exact ⟨ret_ask HX.out.symm, HB.out⟩
  have hln' : n1 = n := by omega
  subst hln'
  have HH := hide (fun (W : World) (hb : Below w.heap.size w W) => has_any p B n1 c1 g W (by omega) (HI.out W hb) hpb)
  have HX := hide (show askB p n1 L M m f n1 g s = allR n1 g p by simp [askB, hv, hi])
  clear hv hi hln
  go_enter Try.func51, Try.ntmps51
  go_wp2_with fail
  refine (HV.out _ (below_box _)).mono ?_
  rintro x w1 ⟨rfl, hb1⟩
  obtain ⟨hbw, hbox⟩ := box_plain hb1
  have x1 := hbox.at_ (i := 1) rfl
  have hbl := hbox.lt
  have HB := hide hbw
  clear hb1 hbw hbox
  go_wp2_with fail
  refine (HIN.out _).mono ?_
  rintro x _ ⟨rfl, rfl⟩
  go_wp2_with fail
  refine (HH.out _ HB.out).mono ?_
  rintro x w2 ⟨rfl, hb2⟩
  have HB2 := hide (up hb2 HB.out HB.out.size)
  clear hb2
  go_wp2_with fail
  go_ret2
  exact ⟨ret_ask HX.out.symm, HB2.out⟩

set_option maxRecDepth 100000 in
set_option maxHeartbeats 4000000 in
theorem SecretOfI_any (p : Int) (A : Option Addr) (n c : Nat) (L : Nat → Nat) (M : Nat → Nat → Int) (O : Option Addr) (m e : Nat) (f : Nat → Int) (B : Option Addr) (n1 c1 : Nat) (g : Nat → Int) (s : Int) (w : World) (hn : n ≤ 1048576) (hL : ∀ i, i < n → L i ≤ 1048576) (hm : m ≤ 1048576) (h : Mat w w.heap.size A n L M) (h2 : Ints w w.heap.size O m f) (hn1 : n1 ≤ 1048576) (h3 : Ints w w.heap.size B n1 g) :
    Calls Try.prog 15 #[.agg #[.int .i64 p, .slice A n c, .slice O m e], .slice B n1 c1, .int .i64 s] w (SecPost p n L M m f n1 g s w) := by
  have HA := hide (fun (W : World) (hb : Below w.heap.size w W) => asked_any p A n c L M O m e f B n1 c1 g s W hn hL hm (h.keep hb hb.size) (h2.keep hb hb.size) hn1 (h3.keep hb hb.size))
  cases ha : askB p n L M m f n1 g s
  · have HN := hide (fun w' hb => sec_no (w := w) (w' := w') (show secB p n L M m f n1 g s = false by
      cases hb : secB p n L M m f n1 g s
      · rfl
      · simp only [secB, Bool.and_eq_true] at hb
        have : askB p n L M m f n1 g s = true := by simp only [askB, Bool.and_eq_true]; exact ⟨hb.1, hb.2.2.1, hb.2.1⟩
        rw [ha] at this; cases this) hb)
    rw [ha] at HA
    clear hL h h2 h3 ha
    go_enter Try.func15, Try.ntmps15
    go_wp2_with fail
    refine (HA.out _ (below_box _)).mono ?_
    rintro x w1 ⟨rfl, hb1⟩
    have HB := hide (box_plain hb1).1
    clear hb1
    go_wp2_with fail
    go_ret2
    exact HN.out _ HB.out
  have ha2 := ha
  simp only [askB, Bool.and_eq_true, decide_eq_true_eq] at ha2
  obtain ⟨hv, hi, hw1, hw2⟩ := ha2
  obtain ⟨hsc, rfl, hle⟩ := vSch_sch hv
  obtain rfl : n1 = m := by omega
  have hir := inR_true.1 hi
  obtain ⟨t, rfl⟩ := Int.eq_ofNat_of_zero_le hir.1
  have hpb := isP_pos hsc.hp
  have hnn := hsc.hn
  rw [ha] at HA
  have hm2 := h.const hle
  have HFA := hide (fun (W : World) (hb : Below w.heap.size w W) => factorsI_any p A O n1 c (L 0) e t M f W hsc (by omega) (hm2.keep hb hb.size) (h2.keep hb hb.size))
  cases hk : knB p n1 (L 0) M f t
  · have HN := hide (fun w' hb => sec_no (w := w) (w' := w') (show secB p n1 L M n1 f n1 g (t : Int) = false by simp [secB, hk]) hb)
    clear hL h h2 h3 ha hv hi hw1 hw2 hle hm2 hsc
    go_enter Try.func15, Try.ntmps15
    go_wp2_with fail
    refine (HA.out _ (below_box _)).mono ?_
    rintro x w1 ⟨rfl, hb1⟩
    obtain ⟨hbw, hbox⟩ := box_plain hb1
    have x0 := hbox.at_ (i := 0) rfl
    have x1 := hbox.at_ (i := 1) rfl
    have x2 := hbox.at_ (i := 2) rfl
    have hbl := hbox.lt
    have HB := hide hbw
    clear hb1 hbw hbox
    go_wp2_with fail
    refine (HFA.out _ HB.out).mono ?_
    rintro x w2 ⟨A2, N2, c2, rfl, hb2, _⟩
    rw [hk]
    have HB2 := hide (up hb2 HB.out HB.out.size)
    clear hb2
    go_wp2_with fail
    go_ret2
    exact HN.out _ HB2.out
  have hok : secB p n1 L M n1 f n1 g (t : Int) = true := by simp [secB, hv, hw2, hi, hk]
  have HRES := hide (show secI p n1 L M n1 f n1 g (t : Int) = sacc (facF p n1 (L 0) M f t) g (ownL f t n1) (ownL f t n1).length % p by rw [secI, if_pos hok]; rfl)
  have HOKB := hide hok
  have HOW := hide (fun (W : World) (hb : Below w.heap.size w W) => ownedI_any p A O n1 c (L 0) e t M f W hsc (by omega) (h2.keep hb hb.size))
  have HI := hide (fun (W : World) (hb : Below w.heap.size w W) => h3.keep hb hb.size)
  have HGB := hide (fun i hi => allR_bd hw2 i hi)
  obtain ⟨fac, hf1, hf2, hf3⟩ := fac_bd hsc.hp hk
  have HF3 := hide hf3
  have HKB := hide hk
  have hgl := ownL_len f t n1
  have HLT := hide (fun j (hj : j < (ownL f t n1).length) => ownL_lt hj)
  have HAT := hide (fun j (hj : j < (ownL f t n1).length) => ownI_at hj)
  rw [hf2] at HRES
  have HFAC := hide hf1
  clear hL h h2 h3 ha hv hw1 hw2 hi hk hle hm2 hok hf1 hf2 hf3 hsc
  go_enter Try.func15, Try.ntmps15
  go_wp2_with fail
  refine (HA.out _ (below_box _)).mono ?_
  rintro x w1 ⟨rfl, hb1⟩
  obtain ⟨hbw, hbox⟩ := box_plain hb1
  have x0 := hbox.at_ (i := 0) rfl
  have x1 := hbox.at_ (i := 1) rfl
  have x2 := hbox.at_ (i := 2) rfl
  have hbl := hbox.lt
  have HB := hide hbw
  have HBX := hide hbox
  clear hb1 hbw hbox
  go_wp2_with fail
  refine (HFA.out _ HB.out).mono ?_
  rintro x w2 ⟨A2, N2, c2, rfl, hb2, h5⟩
  rw [HKB.out]
  obtain ⟨hN5, fc, hfc1, hfc2, hrow5⟩ := h5 HKB.out
  have hfe : fc = fac := by have := HFAC.out; rw [hfc1] at this; injection this
  subst hfe
  subst hN5
  have hbx2 := HBX.out.below hb2 hbl
  have HB2 := hide (up hb2 HB.out HB.out.size)
  have HBX2 := hide hbx2
  have HROW := hide hrow5
  have hbl2 := hbx2.lt
  clear x0 x1 x2 hb2 HBX h5 hfc1 hfc2 hrow5
  have x0 := hbx2.at_ (i := 0) rfl
  have x1 := hbx2.at_ (i := 1) rfl
  have x2 := hbx2.at_ (i := 2) rfl
  clear hbx2
  go_wp2_with fail
  refine (HOW.out _ HB2.out).mono ?_
  rintro x w3 ⟨A3, c3, rfl, hr3, hb3⟩
  have HB3 := hide (up hb3 HB2.out HB2.out.size)
  have HR3 := hide hr3
  have HROW3 := hide (HROW.out.keep hb3)
  have HSH := hide (HI.out w3 HB3.out)
  clear hr3 hb3 x0 x1 x2
  generalize hl : ownL f t n1 = l at *
  have HLL := hide hl
  clear hl
  go_wp2_with fail
  go_loopw [12, 37] (fun v i wr => ∃ j : Nat, j ≤ l.length ∧ i = .int .i64 j ∧ v = .int .i64 (sacc fc g l j) ∧ ∃ q, wr = w3.drewN q) (fun _ i _ => l.length - (intOf i).toNat)
  case atStart => exact ⟨0, by omega, rfl, rfl, 0, rfl⟩
  case round =>
    obtain ⟨j, hj, rfl, rfl, q, rfl⟩ := hrel
    have hsb := sacc_bd (fac := fc) (sh := g) (l := l) (n := l.length) (fun k hk => ⟨HF3.out k hk, by have := HGB.out _ (HLT.out k hk); omega⟩)
    by_cases hlt : j < l.length
    · obtain ⟨gA, eA, _, _, q3, _, _⟩ := HR3.out.at_ (i := j) hlt
      subst eA
      rw [HAT.out j hlt] at q3
      have hi := HLT.out j hlt
      have hs1 := hsb j hj
      have hs2 := hsb (j + 1) (by omega)
      have hs3 : sacc fc g l (j + 1) = sacc fc g l j + fc j * g (l.getD j 0) := rfl
      have HSA := hide hs3
      obtain ⟨gF, eF, _, _, q4, _, _⟩ := HROW3.out.at_ (i := j) hlt
      subst eF
      rw [listOf_getD _ hlt] at q4
      have hfb := HF3.out j hlt
      generalize l.getD j 0 = i at *
      obtain ⟨bS, oS, rfl, hbS, hcS⟩ := HSH.out (by omega)
      have q5 := hcS i hi
      have hgb := HGB.out i hi
      have hpr := mul_bd6 (a := g i) (b := fc j) (by omega) (by omega)
      have hcm : fc j * g i = g i * fc j := Int.mul_comm _ _
      rw [hcm] at hs3 HSA
      rw [hs3] at hs2
      clear hs3
      generalize sacc fc g l j = u at *
      generalize fc j = y at *
      generalize g i = z at *
      have hwr : IntKind.i64.wrap (z * y) = z * y := IntWalk.i64_in _ (by omega)
      have hwr2 : IntKind.i64.wrap (u + z * y) = u + z * y := IntWalk.i64_in _ (by omega)
      have hjI : (j : Int) < (l.length : Int) := by omega
      have hjI0 : (0 : Int) ≤ (j : Int) := by omega
      have hiI : (i : Int) < (n1 : Int) := by omega
      have hiI0 : (0 : Int) ≤ (i : Int) := by omega
      clear hcS hcm
      go_wp2_with fail
      go_quiet (fail)
      go_wp2_with fail
      go_roundw
      case rel => exact ⟨j + 1, by omega, by go_num, by rw [HSA.out], by first | exact ⟨_, rfl⟩ | exact ⟨_, World.drewN_drewN _ _ _⟩⟩
      case measure => simp [intOf]; omega
    · obtain hjl : j = l.length := by omega
      have hs1 := hsb j hj
      have HRS := hide (fun (W : World) => rest_any p (sacc fc g l j) W hpb (by omega))
      have HR2 := hide (show sacc fc g l j % p = secI p n1 L M n1 f n1 g (t : Int) by rw [HRES.out, hjl])
      have hge : ¬ (j : Int) < (l.length : Int) := by omega
      have HF := hide (below_drewN HB3.out q)
      clear hsb hjl hs1
      go_wp2_with fail
      refine (HRS.out _).mono ?_
      rintro x _ ⟨rfl, rfl⟩
      rw [HR2.out]
      go_wp2_with fail
      go_ret2
      exact ⟨by rw [HOKB.out]; rfl, HF.out⟩
end Go.Proofs.Ytcalfblghblhcaa
