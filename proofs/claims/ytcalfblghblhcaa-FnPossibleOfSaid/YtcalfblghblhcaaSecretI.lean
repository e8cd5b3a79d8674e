/-
  SecretOf, the program's. Conditions: the scheme and the shares can be read.
  SecretOf in plain numbers. No conditions: nothing is claimed of the program here.
  DoesKnow, the program's. Conditions: the scheme can be read.
-/
import Derived.Test.YtcalfblghblhcaaGroupI
namespace Go.Proofs.Ytcalfblghblhcaa
open Go.RowKit

theorem groupOk_any (s : Int) (w : World) : Calls Try.prog 61 #[.int .i64 s] w fun e w' => e = .returned (.bool (inR s 0 31)) ∧ w = w' := by
  go_enter Try.func61, Try.ntmps61
  go_wp2_with (first | (go_at_call 79; refine (within_any _ _ _ _).mono ?_; rintro e w' ⟨rfl, rfl⟩))
  go_ret
  exact ⟨rfl, rfl⟩
theorem knowsI_any (p : Int) (A O : Option Addr) (n c m e s : Nat) (M : Nat → Nat → Int) (f : Nat → Int) (w : World) (hs : SchV p n m M f) (h32 : s < 32) (h : Mat w w.heap.size A n (fun _ => m) M) (h2 : Ints w w.heap.size O n f) :
    Calls Try.prog 62 #[.agg #[.int .i64 p, .slice A n c, .slice O n e], .int .i64 p, .int .i64 s] w fun e w' => e = .returned (.bool (knB p n m M f s)) ∧ Below w.heap.size w w' := by
  have HF := hide (fun (W : World) (hb : Below w.heap.size w W) => factorsI_any p A O n c m e s M f W hs h32 (h.keep hb hb.size) (h2.keep hb hb.size))
  clear h h2 hs
  go_enter Try.func62, Try.ntmps62
  go_wp2_with fail
  refine (HF.out _ (below_box _)).mono ?_
  rintro x w1 ⟨A1, N1, c1, rfl, hb1, _⟩
  have HB := hide (box_plain hb1).1
  clear hb1
  go_wp2_with fail
  go_ret
  exact ⟨rfl, HB.out⟩

set_option maxHeartbeats 1000000 in
theorem DoesKnowI_any (p : Int) (A : Option Addr) (n c : Nat) (L : Nat → Nat) (M : Nat → Nat → Int) (O : Option Addr) (m e : Nat) (f : Nat → Int) (s : Int) (w : World) (hn : n ≤ 1048576) (hL : ∀ i, i < n → L i ≤ 1048576) (hm : m ≤ 1048576) (h : Mat w w.heap.size A n L M) (h2 : Ints w w.heap.size O m f) :
    Calls Try.prog 22 #[.agg #[.int .i64 p, .slice A n c, .slice O m e], .int .i64 s] w fun e w' => e = .returned (.bool (dkV p n L M m f s)) ∧ Below w.heap.size w w' := by
  have HV := hide (fun (W : World) (hb : Below w.heap.size w W) => knownI_any p A O n c m e L M f W (by omega) (fun i hi => Nat.le_trans (hL i hi) (by omega)) (by omega) (h.keep hb hb.size) (h2.keep hb hb.size))
  cases hv : vSch p n L M m f
  · refine calls_bool (a := false) (by simp [dkV, hv]) ?_
    rw [hv] at HV
    clear hL h h2 hv
    go_enter Try.func22, Try.ntmps22
    go_wp2_with fail
    refine (HV.out _ (below_box _)).mono ?_
    rintro x w1 ⟨rfl, hb1⟩
    have HB := hide (box_plain hb1).1
    clear hb1
    go_wp2_with fail
    go_ret
    exact ⟨rfl, HB.out⟩
  obtain ⟨hsc, rfl, hle⟩ := vSch_sch hv
  have HIN := hide (fun (W : World) => groupOk_any s W)
  cases hi : inR s 0 31
  · refine calls_bool (a := false) (by simp [dkV, hi]) ?_
    rw [hv] at HV
    rw [hi] at HIN
    clear hL h h2 hv hi hsc hle
    go_enter Try.func22, Try.ntmps22
    go_wp2_with fail
    refine (HV.out _ (below_box _)).mono ?_
    rintro x w1 ⟨rfl, hb1⟩
    have HB := hide (box_plain hb1).1
    clear hb1
    go_wp2_with fail
    refine (HIN.out _).mono ?_
    rintro x _ ⟨rfl, rfl⟩
    go_wp2_with fail
    go_ret
    exact ⟨rfl, HB.out⟩
  have hir := inR_true.1 hi
  obtain ⟨t, rfl⟩ := Int.eq_ofNat_of_zero_le hir.1
  have hm2 := h.const hle
  have HKN := hide (fun (W : World) (hb : Below w.heap.size w W) => knowsI_any p A O m c (L 0) e t M f W hsc (by omega) (hm2.keep hb hb.size) (h2.keep hb hb.size))
  refine calls_bool (a := knB p m (L 0) M f t) (by simp [dkV, hv, hi]) ?_
  rw [hv] at HV
  rw [hi] at HIN
  clear hL h h2 hv hi hsc hle hm2
  go_enter Try.func22, Try.ntmps22
  go_wp2_with fail
  refine (HV.out _ (below_box _)).mono ?_
  rintro x w1 ⟨rfl, hb1⟩
  obtain ⟨hbw, hbox⟩ := box_plain hb1
  have x0 := hbox.at_ (i := 0) rfl
  have x1 := hbox.at_ (i := 1) rfl
  have x2 := hbox.at_ (i := 2) rfl
  have HB := hide hbw
  have hbl := hbox.lt
  clear hb1 hbw hbox
  go_wp2_with fail
  refine (HIN.out _).mono ?_
  rintro x _ ⟨rfl, rfl⟩
  go_wp2_with fail
  refine (HKN.out _ HB.out).mono ?_
  rintro x w2 ⟨rfl, hb2⟩
  have HF := hide (up hb2 HB.out HB.out.size)
  clear hb2
  go_wp2_with fail
  go_ret
  exact ⟨rfl, HF.out⟩
end Go.Proofs.Ytcalfblghblhcaa
namespace Go.Proofs.Ytcalfblghblhcaa
open Go.RowKit

/-- the sum of the first j factors times the shares of the rows in a list -/
def sacc (fac sh : Nat → Int) (l : List Nat) : Nat → Int | 0 => 0 | j + 1 => sacc fac sh l j + fac j * sh (l.getD j 0)
theorem sacc_bd {fac sh : Nat → Int} {l : List Nat} {n : Nat} (h : ∀ j, j < n → (0 ≤ fac j ∧ fac j ≤ 6) ∧ (0 ≤ sh (l.getD j 0) ∧ sh (l.getD j 0) ≤ 6)) : ∀ j, j ≤ n → 0 ≤ sacc fac sh l j ∧ sacc fac sh l j ≤ 36 * j
  | 0, _ => by simp [sacc]
  | j + 1, hj => by
    have h1 := sacc_bd h j (by omega)
    have h2 := h j (by omega)
    have h3 := mul_bd6 h2.1 h2.2
    rw [sacc]
    push_cast
    omega
theorem ownL_less {f : Nat → Int} {s i : Nat} (hb : bt s (f i).toNat = true) : ∀ k, i < k → (ownL f s i).length < (ownL f s k).length := fun k => by
  induction k with
  | zero => intro h; omega
  | succ k ih =>
    intro hk
    rw [ownL_succ, List.length_append]
    by_cases e2 : k = i
    · subst e2; rw [hb, if_pos rfl]; simp
    · have := ih (by omega); omega
/-- a row of the group stands where the rows of the group ahead of it end -/
theorem ownL_place {f : Nat → Int} {s i : Nat} (hb : bt s (f i).toNat = true) : ∀ n, i < n → (ownL f s n).getD (ownL f s i).length 0 = i
  | 0, h => by omega
  | n + 1, h => by
    rw [ownL_succ]
    by_cases e : i = n
    · subst e
      rw [hb, if_pos rfl]
      simp [List.getD]
    · have hp : ∀ k, i + 1 ≤ k → (ownL f s i).length < (ownL f s k).length := fun k => by
        induction k with
        | zero => intro h; omega
        | succ k ih =>
          intro hk
          rw [ownL_succ, List.length_append]
          by_cases e2 : k = i
          · subst e2; rw [hb, if_pos rfl]; simp
          · have := ih (by omega); omega
      have hlt := hp n (by omega)
      have h1 := ownL_place hb n (by omega)
      simp only [List.getD] at h1 ⊢
      rw [List.getElem?_append_left hlt]
      exact h1
/-- SecretOf -/
noncomputable def secB (p : Int) (n : Nat) (L : Nat → Nat) (M : Nat → Nat → Int) (m : Nat) (f : Nat → Int) (n1 : Nat) (g : Nat → Int) (s : Int) : Bool := vSch p n L M m f && ((decide ((n1 : Int) = n) && allR n1 g p) && (inR s 0 31 && knB p n (L 0) M f s.toNat))
noncomputable def facF (p : Int) (n m : Nat) (M : Nat → Nat → Int) (f : Nat → Int) (s : Nat) : Nat → Int := (solF p (ownL f s n).length m (gR M f s n) unitF).getD (fun _ => 0)
noncomputable def secI (p : Int) (n : Nat) (L : Nat → Nat) (M : Nat → Nat → Int) (m : Nat) (f : Nat → Int) (n1 : Nat) (g : Nat → Int) (s : Int) : Int := if secB p n L M m f n1 g s then sacc (facF p n (L 0) M f s.toNat) g (ownL f s.toNat n) (ownL f s.toNat n).length % p else 0
def SecPost (p : Int) (n : Nat) (L : Nat → Nat) (M : Nat → Nat → Int) (m : Nat) (f : Nat → Int) (n1 : Nat) (g : Nat → Int) (s : Int) (w : World) (e : Ending) (w' : World) : Prop :=
  e = .returned (.tuple #[.int .i64 (secI p n L M m f n1 g s), .bool (secB p n L M m f n1 g s)]) ∧ Below w.heap.size w w'
theorem sec_no {p : Int} {n m n1 : Nat} {L : Nat → Nat} {M : Nat → Nat → Int} {f g : Nat → Int} {s : Int} {w w' : World} (h : secB p n L M m f n1 g s = false) (hb : Below w.heap.size w w') : SecPost p n L M m f n1 g s w (.returned (.tuple #[.int .i64 0, .bool false])) w' :=
  ⟨by rw [secI, h]; rfl, hb⟩
theorem fac_bd {p : Int} {n m s : Nat} {M : Nat → Nat → Int} {f : Nat → Int} (hp : isP p = true) (h : knB p n m M f s = true) : ∃ g, solF p (ownL f s n).length m (gR M f s n) unitF = some g ∧ facF p n m M f s = g ∧ ∀ j, j < (ownL f s n).length → 0 ≤ g j ∧ g j ≤ 6 := by
  rw [knB, Option.isSome_iff_exists] at h
  obtain ⟨g, hg⟩ := h
  refine ⟨g, hg, by rw [facF, hg]; rfl, ?_⟩
  have hx : ∃ f0, Good p (ownL f s n).length m (gR M f s n) unitF f0 := Classical.byContradiction fun hn => by
    rw [solF_none (fun f0 h0 => hn ⟨f0, h0⟩)] at hg; cases hg
  obtain ⟨f0, h0⟩ := hx
  obtain ⟨f1, e1, g1, _⟩ := solF_good hp h0
  have : f1 = g := by rw [e1] at hg; injection hg
  subst this
  have hb := isP_pos hp
  exact fun j hj => by have := g1.1 j hj; omega
end Go.Proofs.Ytcalfblghblhcaa
namespace Go.Proofs.Ytcalfblghblhcaa
open Go.RowKit

/-- what is asked of the arguments -/
def askB (p : Int) (n : Nat) (L : Nat → Nat) (M : Nat → Nat → Int) (m : Nat) (f : Nat → Int) (n1 : Nat) (g : Nat → Int) (s : Int) : Bool := vSch p n L M m f && (inR s 0 31 && (decide ((n1 : Int) = n) && allR n1 g p))
theorem ret_ask {p : Int} {a b : Bool} (h : a = b) : Ending.returned (.tuple #[.int .i64 p, .bool a]) = Ending.returned (.tuple #[.int .i64 p, .bool b]) := by rw [h]
set_option maxHeartbeats 1000000 in
theorem asked_any (p : Int) (A : Option Addr) (n c : Nat) (L : Nat → Nat) (M : Nat → Nat → Int) (O : Option Addr) (m e : Nat) (f : Nat → Int) (B : Option Addr) (n1 c1 : Nat) (g : Nat → Int) (s : Int) (w : World) (hn : n ≤ 1048576) (hL : ∀ i, i < n → L i ≤ 1048576) (hm : m ≤ 1048576) (h : Mat w w.heap.size A n L M) (h2 : Ints w w.heap.size O m f) (hn1 : n1 ≤ 1048576) (h3 : Ints w w.heap.size B n1 g) :
    Calls Try.prog 51 #[.agg #[.int .i64 p, .slice A n c, .slice O m e], .slice B n1 c1, .int .i64 s] w fun x w' => x = .returned (.tuple #[.int .i64 p, .bool (askB p n L M m f n1 g s)]) ∧ Below w.heap.size w w' := by
  have HV := hide (fun (W : World) (hb : Below w.heap.size w W) => knownI_any p A O n c m e L M f W (by omega) (fun i hi => Nat.le_trans (hL i hi) (by omega)) (by omega) (h.keep hb hb.size) (h2.keep hb hb.size))
  have HI := hide (fun (W : World) (hb : Below w.heap.size w W) => h3.keep hb hb.size)
  have HIN := hide (fun (W : World) => groupOk_any s W)
  clear hL h h2 h3
  cases hv : vSch p n L M m f
  · have HX := hide (show askB p n L M m f n1 g s = false by simp [askB, hv])
    rw [hv] at HV
    clear hv
    go_enter Try.func51, Try.ntmps51
    go_wp2_with fail
    refine (HV.out _ (below_box _)).mono ?_
    rintro x w1 ⟨rfl, hb1⟩
    have HB := hide (box_plain hb1).1
    clear hb1
    go_wp2_with fail
    go_ret2
    exact ⟨ret_ask HX.out.symm, HB.out⟩
  have hpb := isP_pos (vSch_sch hv).1.hp
  rw [hv] at HV
  cases hi : inR s 0 31
  · have HX := hide (show askB p n L M m f n1 g s = false by simp [askB, hi])
    rw [hi] at HIN
    clear hv hi
    go_enter Try.func51, Try.ntmps51
    go_wp2_with fail
    refine (HV.out _ (below_box _)).mono ?_
    rintro x w1 ⟨rfl, hb1⟩
    have HB := hide (box_plain hb1).1
    clear hb1
    go_wp2_with fail
    refine (HIN.out _).mono ?_
    rintro x _ ⟨rfl, rfl⟩
    go_wp2_with fail
    go_ret2
    exact ⟨ret_ask HX.out.symm, HB.out⟩
  rw [hi] at HIN
  by_cases hln : ¬ n1 = n
  · have HX := hide (show askB p n L M m f n1 g s = false by rw [askB, decide_eq_false (show ¬ (n1 : Int) = n by omega)]; simp)
    have hne : ((n1 : Int) == (n : Int)) = false := by simp; omega
    clear hv hi hln
    go_enter Try.func51, Try.ntmps51
    go_wp2_with fail
    refine (HV.out _ (below_box _)).mono ?_
    rintro x w1 ⟨rfl, hb1⟩
    obtain ⟨hbw, hbox⟩ := box_plain hb1
    have x1 := hbox.at_ (i := 1) rfl
    have hbl := hbox.lt
    have HB := hide hbw
    clear hb1 hbw hbox
    go_wp2_with fail
    refine (HIN.out _).mono ?_
    rintro x _ ⟨rfl, rfl⟩
    go_wp2_with fail
    go_ret2
    exact ⟨ret_ask HX.out.symm, HB.out⟩
  have hln' : n1 = n := by omega
  subst hln'
  have HH := hide (fun (W : World) (hb : Below w.heap.size w W) => has_any p B n1 c1 g W (by omega) (HI.out W hb) hpb)
  have HX := hide (show askB p n1 L M m f n1 g s = allR n1 g p by simp [askB, hv, hi])
  clear hv hi hln
  go_enter Try.func51, Try.ntmps51
  go_wp2_with fail
  refine (HV.out _ (below_box _)).mono ?_
  rintro x w1 ⟨rfl, hb1⟩
  obtain ⟨hbw, hbox⟩ := box_plain hb1
  have x1 := hbox.at_ (i := 1) rfl
  have hbl := hbox.lt
  have HB := hide hbw
  clear hb1 hbw hbox
  go_wp2_with fail
  refine (HIN.out _).mono ?_
  rintro x _ ⟨rfl, rfl⟩
  go_wp2_with fail
  refine (HH.out _ HB.out).mono ?_
  rintro x w2 ⟨rfl, hb2⟩
  have HB2 := hide (up hb2 HB.out HB.out.size)
  clear hb2
  go_wp2_with fail
  go_ret2
  exact ⟨ret_ask HX.out.symm, HB2.out⟩

set_option maxRecDepth 100000 in
set_option maxHeartbeats 4000000 in
theorem SecretOfI_any (p : Int) (A : Option Addr) (n c : Nat) (L : Nat → Nat) (M : Nat → Nat → Int) (O : Option Addr) (m e : Nat) (f : Nat → Int) (B : Option Addr) (n1 c1 : Nat) (g : Nat → Int) (s : Int) (w : World) (hn : n ≤ 1048576) (hL : ∀ i, i < n → L i ≤ 1048576) (hm : m ≤ 1048576) (h : Mat w w.heap.size A n L M) (h2 : Ints w w.heap.size O m f) (hn1 : n1 ≤ 1048576) (h3 : Ints w w.heap.size B n1 g) :
    Calls Try.prog 15 #[.agg #[.int .i64 p, .slice A n c, .slice O m e], .slice B n1 c1, .int .i64 s] w (SecPost p n L M m f n1 g s w) := by
  have HA := hide (fun (W : World) (hb : Below w.heap.size w W) => asked_any p A n c L M O m e f B n1 c1 g s W hn hL hm (h.keep hb hb.size) (h2.keep hb hb.size) hn1 (h3.keep hb hb.size))
  cases ha : askB p n L M m f n1 g s
  · have HN := hide (fun w' hb => sec_no (w := w) (w' := w') (show secB p n L M m f n1 g s = false by
      cases hb : secB p n L M m f n1 g s
      · rfl
      · simp only [secB, Bool.and_eq_true] at hb
        have : askB p n L M m f n1 g s = true := by simp only [askB, Bool.and_eq_true]; exact ⟨hb.1, hb.2.2.1, hb.2.1⟩
        rw [ha] at this; cases this) hb)
    rw [ha] at HA
    clear hL h h2 h3 ha
    go_enter Try.func15, Try.ntmps15
    go_wp2_with fail
    refine (HA.out _ (below_box _)).mono ?_
    rintro x w1 ⟨rfl, hb1⟩
    have HB := hide (box_plain hb1).1
    clear hb1
    go_wp2_with fail
    go_ret2
    exact HN.out _ HB.out
  have ha2 := ha
  simp only [askB, Bool.and_eq_true, decide_eq_true_eq] at ha2
  obtain ⟨hv, hi, hw1, hw2⟩ := ha2
  obtain ⟨hsc, rfl, hle⟩ := vSch_sch hv
  obtain rfl : n1 = m := by omega
  have hir := inR_true.1 hi
  obtain ⟨t, rfl⟩ := Int.eq_ofNat_of_zero_le hir.1
  have hpb := isP_pos hsc.hp
  have hnn := hsc.hn
  rw [ha] at HA
  have hm2 := h.const hle
  have HFA := hide (fun (W : World) (hb : Below w.heap.size w W) => factorsI_any p A O n1 c (L 0) e t M f W hsc (by omega) (hm2.keep hb hb.size) (h2.keep hb hb.size))
  cases hk : knB p n1 (L 0) M f t
  · have HN := hide (fun w' hb => sec_no (w := w) (w' := w') (show secB p n1 L M n1 f n1 g (t : Int) = false by simp [secB, hk]) hb)
    clear hL h h2 h3 ha hv hi hw1 hw2 hle hm2 hsc
    go_enter Try.func15, Try.ntmps15
    go_wp2_with fail
    refine (HA.out _ (below_box _)).mono ?_
    rintro x w1 ⟨rfl, hb1⟩
    obtain ⟨hbw, hbox⟩ := box_plain hb1
    have x0 := hbox.at_ (i := 0) rfl
    have x1 := hbox.at_ (i := 1) rfl
    have x2 := hbox.at_ (i := 2) rfl
    have hbl := hbox.lt
    have HB := hide hbw
    clear hb1 hbw hbox
    go_wp2_with fail
    refine (HFA.out _ HB.out).mono ?_
    rintro x w2 ⟨A2, N2, c2, rfl, hb2, _⟩
    rw [hk]
    have HB2 := hide (up hb2 HB.out HB.out.size)
    clear hb2
    go_wp2_with fail
    go_ret2
    exact HN.out _ HB2.out
  have hok : secB p n1 L M n1 f n1 g (t : Int) = true := by simp [secB, hv, hw2, hi, hk]
  have HRES := hide (show secI p n1 L M n1 f n1 g (t : Int) = sacc (facF p n1 (L 0) M f t) g (ownL f t n1) (ownL f t n1).length % p by rw [secI, if_pos hok]; rfl)
  have HOKB := hide hok
  have HOW := hide (fun (W : World) (hb : Below w.heap.size w W) => ownedI_any p A O n1 c (L 0) e t M f W hsc (by omega) (h2.keep hb hb.size))
  have HI := hide (fun (W : World) (hb : Below w.heap.size w W) => h3.keep hb hb.size)
  have HGB := hide (fun i hi => allR_bd hw2 i hi)
  obtain ⟨fac, hf1, hf2, hf3⟩ := fac_bd hsc.hp hk
  have HF3 := hide hf3
  have HKB := hide hk
  have hgl := ownL_len f t n1
  have HLT := hide (fun j (hj : j < (ownL f t n1).length) => ownL_lt hj)
  have HAT := hide (fun j (hj : j < (ownL f t n1).length) => ownI_at hj)
  rw [hf2] at HRES
  have HFAC := hide hf1
  clear hL h h2 h3 ha hv hw1 hw2 hi hk hle hm2 hok hf1 hf2 hf3 hsc
  go_enter Try.func15, Try.ntmps15
  go_wp2_with fail
  refine (HA.out _ (below_box _)).mono ?_
  rintro x w1 ⟨rfl, hb1⟩
  obtain ⟨hbw, hbox⟩ := box_plain hb1
  have x0 := hbox.at_ (i := 0) rfl
  have x1 := hbox.at_ (i := 1) rfl
  have x2 := hbox.at_ (i := 2) rfl
  have hbl := hbox.lt
  have HB := hide hbw
  have HBX := hide hbox
  clear hb1 hbw hbox
  go_wp2_with fail
  refine (HFA.out _ HB.out).mono ?_
  rintro x w2 ⟨A2, N2, c2, rfl, hb2, h5⟩
  rw [HKB.out]
  obtain ⟨hN5, fc, hfc1, hfc2, hrow5⟩ := h5 HKB.out
  have hfe : fc = fac := by have := HFAC.out; rw [hfc1] at this; injection this
  subst hfe
  subst hN5
  have hbx2 := HBX.out.below hb2 hbl
  have HB2 := hide (up hb2 HB.out HB.out.size)
  have HBX2 := hide hbx2
  have HROW := hide hrow5
  have hbl2 := hbx2.lt
  clear x0 x1 x2 hb2 HBX h5 hfc1 hfc2 hrow5
  have x0 := hbx2.at_ (i := 0) rfl
  have x1 := hbx2.at_ (i := 1) rfl
  have x2 := hbx2.at_ (i := 2) rfl
  clear hbx2
  go_wp2_with fail
  refine (HOW.out _ HB2.out).mono ?_
  rintro x w3 ⟨A3, c3, rfl, hr3, hb3⟩
  have HB3 := hide (up hb3 HB2.out HB2.out.size)
  have HR3 := hide hr3
  have HROW3 := hide (HROW.out.keep hb3)
  have HSH := hide (HI.out w3 HB3.out)
  clear hr3 hb3 x0 x1 x2
  generalize hl : ownL f t n1 = l at *
  have HLL := hide hl
  clear hl
  go_wp2_with fail
  go_loopw [12, 37] (fun v i wr => ∃ j : Nat, j ≤ l.length ∧ i = .int .i64 j ∧ v = .int .i64 (sacc fc g l j) ∧ ∃ q, wr = w3.drewN q) (fun _ i _ => l.length - (intOf i).toNat)
  case atStart => exact ⟨0, by omega, rfl, rfl, 0, rfl⟩
  case round =>
    obtain ⟨j, hj, rfl, rfl, q, rfl⟩ := hrel
    have hsb := sacc_bd (fac := fc) (sh := g) (l := l) (n := l.length) (fun k hk => ⟨HF3.out k hk, by have := HGB.out _ (HLT.out k hk); omega⟩)
    by_cases hlt : j < l.length
    · obtain ⟨gA, eA, _, _, q3, _, _⟩ := HR3.out.at_ (i := j) hlt
      subst eA
      rw [HAT.out j hlt] at q3
      have hi := HLT.out j hlt
      have hs1 := hsb j hj
      have hs2 := hsb (j + 1) (by omega)
      have hs3 : sacc fc g l (j + 1) = sacc fc g l j + fc j * g (l.getD j 0) := rfl
      have HSA := hide hs3
      obtain ⟨gF, eF, _, _, q4, _, _⟩ := HROW3.out.at_ (i := j) hlt
      subst eF
      rw [listOf_getD _ hlt] at q4
      have hfb := HF3.out j hlt
      generalize l.getD j 0 = i at *
      obtain ⟨bS, oS, rfl, hbS, hcS⟩ := HSH.out (by omega)
      have q5 := hcS i hi
      have hgb := HGB.out i hi
      have hpr := mul_bd6 (a := g i) (b := fc j) (by omega) (by omega)
      have hcm : fc j * g i = g i * fc j := Int.mul_comm _ _
      rw [hcm] at hs3 HSA
      rw [hs3] at hs2
      clear hs3
      generalize sacc fc g l j = u at *
      generalize fc j = y at *
      generalize g i = z at *
      have hwr : IntKind.i64.wrap (z * y) = z * y := IntWalk.i64_in _ (by omega)
      have hwr2 : IntKind.i64.wrap (u + z * y) = u + z * y := IntWalk.i64_in _ (by omega)
      have hjI : (j : Int) < (l.length : Int) := by omega
      have hjI0 : (0 : Int) ≤ (j : Int) := by omega
      have hiI : (i : Int) < (n1 : Int) := by omega
      have hiI0 : (0 : Int) ≤ (i : Int) := by omega
      clear hcS hcm
      go_wp2_with fail
      go_quiet (fail)
      go_wp2_with fail
      go_roundw
      case rel => exact ⟨j + 1, by omega, by go_num, by rw [HSA.out], by first | exact ⟨_, rfl⟩ | exact ⟨_, World.drewN_drewN _ _ _⟩⟩
      case measure => simp [intOf]; omega
    · obtain hjl : j = l.length := by omega
      have hs1 := hsb j hj
      have HRS := hide (fun (W : World) => rest_any p (sacc fc g l j) W hpb (by omega))
      have HR2 := hide (show sacc fc g l j % p = secI p n1 L M n1 f n1 g (t : Int) by rw [HRES.out, hjl])
      have hge : ¬ (j : Int) < (l.length : Int) := by omega
      have HF := hide (below_drewN HB3.out q)
      clear hsb hjl hs1
      go_wp2_with fail
      refine (HRS.out _).mono ?_
      rintro x _ ⟨rfl, rfl⟩
      rw [HR2.out]
      go_wp2_with fail
      go_ret2
      exact ⟨by rw [HOKB.out]; rfl, HF.out⟩
end Go.Proofs.Ytcalfblghblhcaa
