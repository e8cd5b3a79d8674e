/-
  Shares and secrets, plain: the shares of a list tell its first number. No conditions: nothing is claimed of the program here.
-/
import Derived.Test.YtcalfblghblhcaaPossLaw
import Derived.Test.YtcalfblghblhcaaSecret
namespace Go.Proofs.Ytcalfblghblhcaa
open Go.RowKit

theorem sacc_dsum {p : Int} {fac sh g : Nat → Int} {l : List Nat} {R : Nat → Nat → Int} {m N : Nat} (h : ∀ i, i < N → p ∣ sh (l.getD i 0) - dsum (R i) g m) : ∀ j, j ≤ N → p ∣ sacc fac sh l j - dsum (fun k => lc fac R k j) g m
  | 0, _ => by
    have hz : ∀ t, dsum (fun k => lc fac R k 0) g t = 0 := by
      intro t; induction t with
      | zero => rfl
      | succ t ih => rw [dsum, ih, lc]; simp
    rw [hz, sacc]; exact Int.dvd_zero p
  | j + 1, hj => by
    have h1 := sacc_dsum h j (by omega) (fac := fac)
    have h2 := dvd_r (fac j) (h j (by omega))
    have e1 : dsum (fun k => lc fac R k (j + 1)) g m = dsum (fun k => lc fac R k j) g m + fac j * dsum (R j) g m := by
      rw [← dsum_addl]; rfl
    have h3 := Int.dvd_add h1 h2
    rw [e1, sacc]
    have e : sacc fac sh l j + fac j * sh (l.getD j 0) - (dsum (fun k => lc fac R k j) g m + fac j * dsum (R j) g m) = sacc fac sh l j - dsum (fun k => lc fac R k j) g m + fac j * (sh (l.getD j 0) - dsum (R j) g m) := by rw [Int.mul_sub]; omega
    rw [e]; exact h3
theorem dsum_unitF {g : Nat → Int} {m : Nat} (hm : 1 ≤ m) : dsum unitF g m = g 0 := by
  have e := dsum_unit (g := g) (k0 := 0) (n := m) (by omega)
  have comm : ∀ t, dsum unitF g t = dsum g (fun k => if k = 0 then 1 else 0) t := by
    intro t; induction t with
    | zero => rfl
    | succ t ih => rw [dsum, dsum, ih, Int.mul_comm]; rfl
  rw [comm, e]
theorem fac_good {p : Int} {n m s : Nat} {M : Nat → Nat → Int} {f : Nat → Int} (hp : isP p = true) (h : knB p n m M f s = true) : Good p (ownL f s n).length m (gR M f s n) unitF (facF p n m M f s) := by
  obtain ⟨f0, h0⟩ := spn_good hp ((kn_spn hp).1 h)
  obtain ⟨f1, e1, g1, _⟩ := solF_good hp h0
  rw [facF, e1]
  exact g1
/-- the secret that the shares of a list tell is its first number -/
theorem sec_share {p : Int} {n m s : Nat} {L : Nat → Nat} {M : Nat → Nat → Int} {f g sh : Nat → Int} (hv : vSch p n L M m f = true) (hg : ∀ i, i < L 0 → 0 ≤ g i ∧ g i < p) (hsh : ∀ i, i < n → sh i = shF p L M g i) (hs : s < 32) (hk : knB p n (L 0) M f s = true) :
    secB p n L M m f n sh (s : Nat) = true ∧ secI p n L M m f n sh (s : Nat) = g 0 := by
  obtain ⟨hsc, _, _⟩ := vSch_sch hv
  have hpb := isP_pos hsc.hp
  have hin : inR ((s : Nat) : Int) 0 31 = true := inR_mk (by omega) (by omega)
  have hall : allR n sh p = true := allR_true.2 fun i hi => by
    rw [hsh i hi, shF]
    have a := Int.emod_nonneg (dsum (M i) g (L 0)) (show p ≠ 0 by omega)
    have b := Int.emod_lt_of_pos (dsum (M i) g (L 0)) (show 0 < p by omega)
    exact inR_mk (by omega) (by omega)
  have hB : secB p n L M m f n sh (s : Nat) = true := by
    rw [secB, hv, hall, hin, Int.toNat_natCast, hk]; simp
  refine ⟨hB, ?_⟩
  rw [secI, hB, if_pos rfl, Int.toNat_natCast]
  have hgd := fac_good hsc.hp hk
  have h1 := sacc_dsum (p := p) (fac := facF p n (L 0) M f s) (sh := sh) (g := g) (l := ownL f s n) (R := gR M f s n) (m := L 0) (N := (ownL f s n).length) (fun i hi => by
    rw [hsh _ (ownL_lt hi), shF]
    exact emod_dvd_sub _ _) (ownL f s n).length (Nat.le_refl _)
  have h2 : p ∣ dsum (fun k => lc (facF p n (L 0) M f s) (gR M f s n) k (ownL f s n).length) g (L 0) - dsum unitF g (L 0) := dsum_mod (fun k hk => hgd.2.1 k hk) (fun k _ => by rw [Int.sub_self]; exact Int.dvd_zero p)
  rw [dsum_unitF hsc.hm.1] at h2
  have h3 := Int.dvd_add h1 h2
  generalize sacc (facF p n (L 0) M f s) sh (ownL f s n) (ownL f s n).length = a at *
  generalize dsum (fun k => lc (facF p n (L 0) M f s) (gR M f s n) k (ownL f s n).length) g (L 0) = b at *
  have e : a - b + (b - g 0) = a - g 0 := by omega
  rw [e] at h3
  have h4 := hg 0 (by have := hsc.hm.1; omega)
  rw [emod_same h3]
  exact Int.emod_eq_of_lt h4.1 h4.2
end Go.Proofs.Ytcalfblghblhcaa
