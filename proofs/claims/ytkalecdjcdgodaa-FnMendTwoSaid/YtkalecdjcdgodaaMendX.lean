/-
  MendTwo, by both, for all arguments. Conditions: the rows can be read, and be cut at their length.
-/
import Derived.Test.YtkalecdjcdgodaaMendI
namespace Go.Proofs.Ytkalecdjcdgodaa
open Go.RowKit

theorem MatC.keep {w w' : World} {B B' : Nat} {A : Option Addr} {n : Nat} {L : Nat → Nat} {M : Nat → Nat → Int} (h : MatC w B A n L M) (hb : Below B w w') (hB : B ≤ B') : MatC w' B' A n L M := fun h0 => by
  obtain ⟨b, off, e, hl, hc⟩ := h h0
  exact ⟨b, off, e, by omega, fun i hi => by
    obtain ⟨R, C, h1, h2, h3⟩ := hc i hi
    exact ⟨R, C, (hb.cell (p := ⟨b, off + i, none⟩) hl).trans h1, h2, h3.keep hb hB⟩⟩
theorem MatC.of_ownMat {w : World} {b n : Nat} {L : Nat → Nat} {M : Nat → Nat → Int} (h : OwnMat w b n L M) (hB : b + 1 + n ≤ w.heap.size) : MatC w w.heap.size (some ⟨b, 0, none⟩) n L M := fun _ =>
  ⟨b, 0, rfl, by omega, fun i hi => ⟨_, _, by rw [Nat.zero_add]; exact h.top.cell hi, Nat.le_refl _, Ints.of_row (h.rows i hi) (fun _ _ => rfl) (by omega)⟩⟩
/-- a copy whose rows can be cut at their length -/
def MTC (w : World) (lo hi : Nat) (A : Option Addr) (n : Nat) (L : Nat → Nat) (M : Nat → Nat → Int) : Prop := MT w lo hi A n L M ∧ MatC w w.heap.size A n L M
theorem MTC.keepB {w w' : World} {lo hi : Nat} {A : Option Addr} {n : Nat} {L : Nat → Nat} {M : Nat → Nat → Int} (t : MTC w lo hi A n L M) (ho : Below w.heap.size w w') : MTC w' lo hi A n L M := ⟨t.1.keepB ho, t.2.keep ho ho.size⟩
theorem MTC.mat {w : World} {lo hi : Nat} {A : Option Addr} {n : Nat} {L : Nat → Nat} {M : Nat → Nat → Int} (t : MTC w lo hi A n L M) : Mat w w.heap.size A n L M := t.1.mat
theorem MTC.of_ownMat {w : World} {b n : Nat} {L : Nat → Nat} {M : Nat → Nat → Int} (h : OwnMat w b n L M) (hB : b + 1 + n ≤ w.heap.size) : MTC w b w.heap.size (some ⟨b, 0, none⟩) n L M := ⟨(MT.of_ownMat h).mono (Nat.le_refl _) hB, MatC.of_ownMat h hB⟩

/-- the guess that MendTwo takes -/
def mdV (p : Int) (n : Nat) (L : Nat → Nat) (M : Nat → Nat → Int) (lost : Int) : Option Nat := if widB p n L M lost then mendG p.toNat lost.toNat M else none
def mdB (p : Int) (n : Nat) (L : Nat → Nat) (M : Nat → Nat → Int) (lost : Int) : Bool := (mdV p n L M lost).isSome
def mdN (p : Int) (n : Nat) (L : Nat → Nat) (M : Nat → Nat → Int) (lost : Int) : Nat := if mdB p n L M lost then n else 0
def mdL (p : Int) (_ : Nat) : Nat := p.toNat - 1
def mdM (p : Int) (n : Nat) (L : Nat → Nat) (M : Nat → Nat → Int) (lost : Int) : Nat → Nat → Int := fillA p.toNat lost.toNat ((mdV p n L M lost).getD 0) M
def MdX (p : Int) (n : Nat) (L : Nat → Nat) (M : Nat → Nat → Int) (lost : Int) (w : World) (e : Ending) (w' : World) : Prop :=
  ∃ A c, e = .returned (.tuple #[.slice A (mdN p n L M lost) c, .bool (mdB p n L M lost)]) ∧ MT w' w.heap.size w'.heap.size A (mdN p n L M lost) (mdL p) (mdM p n L M lost) ∧ Below w.heap.size w w'
theorem mdx_no {p : Int} {n : Nat} {L : Nat → Nat} {M : Nat → Nat → Int} {lost : Int} {w w' : World} (h : widB p n L M lost = false) (hb : Below w.heap.size w w') : MdX p n L M lost w (.returned (.tuple #[.slice none 0 0, .bool false])) w' := by
  have e1 : mdB p n L M lost = false := by simp [mdB, mdV, h]
  have e2 : mdN p n L M lost = 0 := by simp [mdN, e1]
  exact ⟨none, 0, by rw [e1, e2], by rw [e2]; exact MT.nil _ _ _ _ _, hb⟩
theorem mdx_yes {p : Int} {n : Nat} {L : Nat → Nat} {M : Nat → Nat → Int} {s P : Nat} {w w' : World} {e : Ending} (h : widB p n L M s = true) (hp : p.toNat = P) (hn : n = P - 1) (hx : MdPostM P s M w e w') : MdX p n L M s w e w' := by
  obtain ⟨hb, hx⟩ := hx
  rcases hx with ⟨h1, h2⟩ | ⟨g, A', c', h1, h2, h3⟩
  · have e0 : mdV p n L M s = none := by rw [mdV, if_pos h, hp, Int.toNat_natCast, h1]
    have e1 : mdB p n L M s = false := by rw [mdB, e0]; rfl
    have e2 : mdN p n L M s = 0 := by simp [mdN, e1]
    exact ⟨none, 0, by rw [e1, e2]; exact h2, by rw [e2]; exact MT.nil _ _ _ _ _, hb⟩
  · have e0 : mdV p n L M s = some g := by rw [mdV, if_pos h, hp, Int.toNat_natCast, h1]
    have e1 : mdB p n L M s = true := by rw [mdB, e0]; rfl
    have e2 : mdN p n L M s = n := by simp [mdN, e1]
    subst hn
    refine ⟨A', c', by rw [e1, e2]; exact h2, ?_, hb⟩
    rw [e2]
    have e3 : mdM p (P - 1) L M s = fillA P s g M := by rw [mdM, e0, hp, Int.toNat_natCast]; rfl
    have e4 : mdL p = fun _ => P - 1 := by funext i; rw [mdL, hp]
    rw [e3, e4]
    exact h3
set_option maxHeartbeats 1000000 in
theorem MendTwoS_any (p : Int) (A : Option Addr) (n c : Nat) (L : Nat → Nat) (M : Nat → Nat → Int) (lost : Int) (w : World) (hn : n ≤ 1048576) (hL : ∀ i, i < n → L i ≤ 1048576) (h : MatC w w.heap.size A n L M) :
    Calls Try.prog 45 #[.int .i64 p, .slice A n c, .int .i64 lost] w (MdX p n L M lost w) := by
  have HV := hide (validWide_any p A n c L M lost w (by omega) (fun i hi => Nat.le_trans (hL i hi) (by omega)) h.mat)
  cases hv : widB p n L M lost
  · have HN := hide (fun w' hb => mdx_no (w := w) (w' := w') hv hb)
    rw [hv] at HV
    clear hL h hv
    go_enter Try.func45, Try.ntmps45
    go_wp2_with fail
    refine (HV.out).mono ?_
    rintro e _ ⟨rfl, rfl⟩
    go_wp2_with fail
    go_ret2
    exact HN.out _ (Below.refl _ _)
  obtain ⟨hpn, hl, hbin, s, rfl, hs, hw⟩ := wid_ok hv
  have hM : MatC w w.heap.size A n (fun _ => n + 2) M := fun h0 => by
    obtain ⟨b, off, e, hb, hc⟩ := h h0
    exact ⟨b, off, e, hb, fun i hi => by obtain ⟨R, C, h1, h2⟩ := hc i hi; rw [hl i hi] at h1 h2; exact ⟨R, C, h1, h2⟩⟩
  have HY := hide (fun (P : Nat) (hP : p.toNat = P) (hn : n = P - 1) e w' hx => mdx_yes (w := w) (e := e) (w' := w') hv hP hn hx)
  rw [hv] at HV
  clear hL h hl hv
  rcases hpn with ⟨rfl, rfl⟩ | ⟨rfl, rfl⟩
  · have HF := hide (fill3_any A c s M w hs hw hbin hM)
    clear hM hbin
    go_enter Try.func45, Try.ntmps45
    go_wp2_with fail
    refine (HV.out).mono ?_
    rintro e _ ⟨rfl, rfl⟩
    go_wp2_with fail
    refine (HF.out).mono ?_
    rintro e w1 hx
    have hx := HY.out 3 rfl rfl _ _ hx.to
    obtain ⟨A2, c2, rfl, t1, hb1⟩ := hx
    have HX := hide (show MdX _ _ _ _ _ _ _ _ from ⟨A2, c2, rfl, t1, hb1⟩)
    clear t1 hb1
    go_wp2_with fail
    go_ret2
    exact HX.out
  · have HF := hide (fill5_any A c s M w hs hw hbin hM)
    clear hM hbin
    go_enter Try.func45, Try.ntmps45
    go_wp2_with fail
    refine (HV.out).mono ?_
    rintro e _ ⟨rfl, rfl⟩
    go_wp2_with fail
    refine (HF.out).mono ?_
    rintro e w1 hx
    have hx := HY.out 5 rfl rfl _ _ hx.to
    obtain ⟨A2, c2, rfl, t1, hb1⟩ := hx
    have HX := hide (show MdX _ _ _ _ _ _ _ _ from ⟨A2, c2, rfl, t1, hb1⟩)
    clear t1 hb1
    go_wp2_with fail
    go_ret2
    exact HX.out

set_option maxHeartbeats 1000000 in
theorem MendTwoI_any (p : Int) (A : Option Addr) (n c : Nat) (L : Nat → Nat) (M : Nat → Nat → Int) (lost : Int) (w : World) (hn : n ≤ 1048576) (hL : ∀ i, i < n → L i ≤ 1048576) (h : MatC w w.heap.size A n L M) :
    Calls Try.prog 41 #[.int .i64 p, .slice A n c, .int .i64 lost] w (MdX p n L M lost w) := by
  have HAP := hide (fun (W : World) => arrayPrime_any p W)
  have HB := hide (bitsOk_any A n c L M (p - 1) (p + 1) w (by omega) (fun i hi => Nat.le_trans (hL i hi) (by omega)) h.mat)
  cases ha : isA p
  · have HN := hide (fun w' hb => mdx_no (w := w) (w' := w') (wid_p (n := n) (L := L) (M := M) (lost := lost) ha) hb)
    rw [ha] at HAP
    clear hL h ha
    go_enter Try.func41, Try.ntmps41
    go_wp2_with fail
    refine (HAP.out _).mono ?_
    rintro e _ ⟨rfl, rfl⟩
    go_wp2_with fail
    go_ret2
    exact HN.out _ (Below.refl _ _)
  have hp35 := isA_true.1 ha
  rw [ha] at HAP
  have hpb : 3 ≤ p ∧ p ≤ 5 := by omega
  cases hbb : bitsB n L M (p - 1) (p + 1)
  · have HN := hide (fun w' hb => mdx_no (w := w) (w' := w') (wid_b (lost := lost) hbb) hb)
    rw [hbb] at HB
    clear hL h ha hp35 hbb
    go_enter Try.func41, Try.ntmps41
    go_wp2_with fail
    refine (HAP.out _).mono ?_
    rintro e _ ⟨rfl, rfl⟩
    go_wp2_with fail
    refine (HB.out).mono ?_
    rintro e w1 ⟨rfl, hb⟩
    go_wp2_with fail
    go_ret2
    exact HN.out _ hb
  rw [hbb] at HB
  rcases hp35 with rfl | rfl
  · have e1 : (2 : Int) ^ ((3 : Int) + 1).toNat - 1 = 15 := by decide
    cases hr : inR lost 0 15
    · have HN := hide (fun w' hb => mdx_no (w := w) (w' := w') (wid_l (p := 3) (n := n) (L := L) (M := M) (by rw [e1]; exact hr)) hb)
      have HWI := hide (fun (W : World) => within_any lost 0 15 W)
      rw [hr] at HWI
      clear hL h ha hbb hr e1
      go_enter Try.func41, Try.ntmps41
      go_wp2_with fail
      refine (HAP.out _).mono ?_
      rintro e _ ⟨rfl, rfl⟩
      go_wp2_with fail
      refine (HB.out).mono ?_
      rintro e w1 ⟨rfl, hb⟩
      go_wp2_with fail
      refine (HWI.out _).mono ?_
      rintro e _ ⟨rfl, rfl⟩
      go_wp2_with fail
      go_ret2
      exact HN.out _ hb
    have hlr := inR_true.1 hr
    obtain ⟨s, rfl⟩ := Int.eq_ofNat_of_zero_le hlr.1
    by_cases hw : ¬ wt s ≤ 2
    · have HN := hide (fun w' hb => mdx_no (w := w) (w' := w') (wid_w (p := 3) (n := n) (L := L) (M := M) (lost := (s : Int)) (by rw [Int.toNat_natCast]; exact hw)) hb)
      have HWI := hide (fun (W : World) => within_any (s : Int) 0 15 W)
      have HSZ := hide (fun W => size_any s W (by omega))
      have h8 := (wt_small s (by omega)).2
      rw [hr] at HWI
      clear hL h ha hbb hr e1
      generalize wt s = z at *
      go_enter Try.func41, Try.ntmps41
      go_wp2_with fail
      refine (HAP.out _).mono ?_
      rintro e _ ⟨rfl, rfl⟩
      go_wp2_with fail
      refine (HB.out).mono ?_
      rintro e w1 ⟨rfl, hb⟩
      go_wp2_with fail
      refine (HWI.out _).mono ?_
      rintro e _ ⟨rfl, rfl⟩
      go_wp2_with fail
      refine (HSZ.out _).mono ?_
      rintro e _ ⟨rfl, rfl⟩
      go_wp2_with fail
      go_ret2
      exact HN.out _ hb
    have hv : widB 3 n L M (s : Int) = true := by
      rw [widB, ha, hbb, e1, hr, Int.toNat_natCast]
      simp; omega
    obtain ⟨hpn, hl, hbin, s', hss, hs, hw⟩ := wid_ok hv
    obtain rfl : s = s' := by omega
    have hnq : n = 2 := by omega
    subst hnq
    have hM : MatC w w.heap.size A 2 (fun _ => 4) M := fun h0 => by
      obtain ⟨b, off, e, hb, hc⟩ := h h0
      exact ⟨b, off, e, hb, fun i hi => by obtain ⟨R, C, h1, h2⟩ := hc i hi; rw [hl i hi] at h1 h2; exact ⟨R, C, h1, h2⟩⟩
    exact (mendI3_any A c s M w hs hw hbin hM HB.out).mono fun e w' hx => mdx_yes hv rfl rfl hx
  · have e1 : (2 : Int) ^ ((5 : Int) + 1).toNat - 1 = 63 := by decide
    cases hr : inR lost 0 63
    · have HN := hide (fun w' hb => mdx_no (w := w) (w' := w') (wid_l (p := 5) (n := n) (L := L) (M := M) (by rw [e1]; exact hr)) hb)
      have HWI := hide (fun (W : World) => within_any lost 0 63 W)
      rw [hr] at HWI
      clear hL h ha hbb hr e1
      go_enter Try.func41, Try.ntmps41
      go_wp2_with fail
      refine (HAP.out _).mono ?_
      rintro e _ ⟨rfl, rfl⟩
      go_wp2_with fail
      refine (HB.out).mono ?_
      rintro e w1 ⟨rfl, hb⟩
      go_wp2_with fail
      refine (HWI.out _).mono ?_
      rintro e _ ⟨rfl, rfl⟩
      go_wp2_with fail
      go_ret2
      exact HN.out _ hb
    have hlr := inR_true.1 hr
    obtain ⟨s, rfl⟩ := Int.eq_ofNat_of_zero_le hlr.1
    by_cases hw : ¬ wt s ≤ 2
    · have HN := hide (fun w' hb => mdx_no (w := w) (w' := w') (wid_w (p := 5) (n := n) (L := L) (M := M) (lost := (s : Int)) (by rw [Int.toNat_natCast]; exact hw)) hb)
      have HWI := hide (fun (W : World) => within_any (s : Int) 0 63 W)
      have HSZ := hide (fun W => size_any s W (by omega))
      have h8 := (wt_small s (by omega)).2
      rw [hr] at HWI
      clear hL h ha hbb hr e1
      generalize wt s = z at *
      go_enter Try.func41, Try.ntmps41
      go_wp2_with fail
      refine (HAP.out _).mono ?_
      rintro e _ ⟨rfl, rfl⟩
      go_wp2_with fail
      refine (HB.out).mono ?_
      rintro e w1 ⟨rfl, hb⟩
      go_wp2_with fail
      refine (HWI.out _).mono ?_
      rintro e _ ⟨rfl, rfl⟩
      go_wp2_with fail
      refine (HSZ.out _).mono ?_
      rintro e _ ⟨rfl, rfl⟩
      go_wp2_with fail
      go_ret2
      exact HN.out _ hb
    have hv : widB 5 n L M (s : Int) = true := by
      rw [widB, ha, hbb, e1, hr, Int.toNat_natCast]
      simp; omega
    obtain ⟨hpn, hl, hbin, s', hss, hs, hw⟩ := wid_ok hv
    obtain rfl : s = s' := by omega
    have hnq : n = 4 := by omega
    subst hnq
    have hM : MatC w w.heap.size A 4 (fun _ => 6) M := fun h0 => by
      obtain ⟨b, off, e, hb, hc⟩ := h h0
      exact ⟨b, off, e, hb, fun i hi => by obtain ⟨R, C, h1, h2⟩ := hc i hi; rw [hl i hi] at h1 h2; exact ⟨R, C, h1, h2⟩⟩
    exact (mendI5_any A c s M w hs hw hbin hM HB.out).mono fun e w' hx => mdx_yes hv rfl rfl hx

theorem md_bd (p : Int) (n : Nat) (L : Nat → Nat) (M : Nat → Nat → Int) (lost : Int) : mdN p n L M lost ≤ 1000 ∧ ∀ i, i < mdN p n L M lost → mdL p i ≤ 1000 := by
  unfold mdN mdL
  cases h : mdB p n L M lost
  · simp
  · have h0 : widB p n L M lost = true := by
      cases hw : widB p n L M lost
      · simp [mdB, mdV, hw] at h
      · rfl
    have h1 := (wid_ok h0).1
    rw [if_pos rfl]
    exact ⟨by omega, fun i _ => by omega⟩
end Go.Proofs.Ytkalecdjcdgodaa
