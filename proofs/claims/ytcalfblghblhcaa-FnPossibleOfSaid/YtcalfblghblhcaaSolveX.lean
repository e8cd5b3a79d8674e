/-
  SolveRows, by both, for all arguments. Conditions: the rows and the goal can be read.
-/
import Derived.Test.YtcalfblghblhcaaSolveM
import Derived.Test.YtcalfblghblhcaaShares
namespace Go.Proofs.Ytcalfblghblhcaa
open Go.RowKit

/-- the rows are a table and the goal fits -/
def srOk (p : Int) (n : Nat) (L : Nat → Nat) (M : Nat → Nat → Int) (n1 : Nat) (g : Nat → Int) : Bool := vTab p n L M && (decide ((n1 : Int) = L 0) && allR n1 g p)
open Classical in
/-- the answer, if there is one -/
noncomputable def solF (p : Int) (n m : Nat) (R : Nat → Nat → Int) (g : Nat → Int) : Option (Nat → Int) := if h : ∃ f, Good p n m R g f then some (Classical.choose h) else none
theorem solF_good {p : Int} {n m : Nat} {R : Nat → Nat → Int} {g f : Nat → Int} (hp : isP p = true) (h : Good p n m R g f) : ∃ f0, solF p n m R g = some f0 ∧ Good p n m R g f0 ∧ ∀ j, j < n → f j = f0 j := by
  have hx : ∃ f, Good p n m R g f := ⟨f, h⟩
  refine ⟨Classical.choose hx, by rw [solF, dif_pos hx], Classical.choose_spec hx, Good.uniq hp h (Classical.choose_spec hx)⟩
theorem solF_none {p : Int} {n m : Nat} {R : Nat → Nat → Int} {g : Nat → Int} (h : ∀ f, ¬ Good p n m R g f) : solF p n m R g = none := by
  rw [solF, dif_neg (fun ⟨f, hf⟩ => h f hf)]
noncomputable def srV (p : Int) (n : Nat) (L : Nat → Nat) (M : Nat → Nat → Int) (n1 : Nat) (g : Nat → Int) : Option (Nat → Int) := if srOk p n L M n1 g then solF p n (L 0) M g else none
noncomputable def srB (p : Int) (n : Nat) (L : Nat → Nat) (M : Nat → Nat → Int) (n1 : Nat) (g : Nat → Int) : Bool := (srV p n L M n1 g).isSome
noncomputable def srN (p : Int) (n : Nat) (L : Nat → Nat) (M : Nat → Nat → Int) (n1 : Nat) (g : Nat → Int) : Nat := if srB p n L M n1 g then n else 0
noncomputable def srF (p : Int) (n : Nat) (L : Nat → Nat) (M : Nat → Nat → Int) (n1 : Nat) (g : Nat → Int) : Nat → Int := (srV p n L M n1 g).getD (fun _ => 0)
def SrX (p : Int) (n : Nat) (L : Nat → Nat) (M : Nat → Nat → Int) (n1 : Nat) (g : Nat → Int) (w : World) (e : Ending) (w' : World) : Prop :=
  ∃ A c, e = .returned (.tuple #[.slice A (srN p n L M n1 g) c, .bool (srB p n L M n1 g)]) ∧ IT w' w.heap.size w'.heap.size A (srN p n L M n1 g) (srF p n L M n1 g) ∧ Below w.heap.size w w'
theorem srx_no {p : Int} {n n1 : Nat} {L : Nat → Nat} {M : Nat → Nat → Int} {g : Nat → Int} {w w' : World} (h : srV p n L M n1 g = none) (hb : Below w.heap.size w w') : SrX p n L M n1 g w (.returned (.tuple #[.slice none 0 0, .bool false])) w' := by
  have e1 : srB p n L M n1 g = false := by simp [srB, h]
  have e2 : srN p n L M n1 g = 0 := by simp [srN, e1]
  exact ⟨none, 0, by rw [e1, e2], by rw [e2]; exact IT.nil _ _ _ _, hb⟩
theorem sr_bad {p : Int} {n n1 : Nat} {L : Nat → Nat} {M : Nat → Nat → Int} {g : Nat → Int} (h : srOk p n L M n1 g = false) : srV p n L M n1 g = none := by simp [srV, h]
theorem srx_yes {p : Int} {n n1 : Nat} {L : Nat → Nat} {M : Nat → Nat → Int} {g : Nat → Int} {w w1 w' : World} {e : Ending} (hp : isP p = true) (h : srOk p n L M n1 g = true) (hb : Below w.heap.size w w1) (hx : SolPost p n (L 0) M g w1 e w') : SrX p n L M n1 g w e w' := by
  obtain ⟨hb2, hx⟩ := hx
  have hb3 := up hb2 hb hb.size
  rcases hx with ⟨f, A', c', h1, rfl, h3⟩ | ⟨h1, rfl⟩
  · obtain ⟨f0, e0, g0, ef⟩ := solF_good hp h1
    have e1 : srV p n L M n1 g = some f0 := by rw [srV, if_pos h, e0]
    have e2 : srB p n L M n1 g = true := by simp [srB, e1]
    have e3 : srN p n L M n1 g = n := by simp [srN, e2]
    have e4 : srF p n L M n1 g = f0 := by simp [srF, e1]
    refine ⟨A', c', by rw [e2, e3], ?_, hb3⟩
    rw [e3, e4]
    exact ((IT.of_row h3).mono hb.size (Nat.le_refl _)).congr fun i hi => by rw [listOf_getD _ hi]; exact ef i hi
  · exact srx_no (by rw [srV, if_pos h, solF_none h1]) hb3
/-- what a table's rows are -/
theorem vTab_rows {p : Int} {n : Nat} {L : Nat → Nat} {M : Nat → Nat → Int} (h : vTab p n L M = true) :
    isP p = true ∧ (1 ≤ n ∧ n ≤ 6) ∧ (1 ≤ L 0 ∧ L 0 ≤ 7) ∧ ∀ i, i < n → L i = L 0 ∧ ∀ j, j < L 0 → 0 ≤ M i j ∧ M i j < p := by
  obtain ⟨hp, hn, hl, hr⟩ := vTab_true.1 h
  have a := inR_true.1 hn
  have b := inR_true.1 hl
  refine ⟨hp, by omega, by omega, fun i hi => ?_⟩
  obtain ⟨r1, r2⟩ := hr i hi
  refine ⟨r1, fun j hj => ?_⟩
  have := inR_true.1 (allR_true.1 r2 j (by omega))
  omega
theorem Mat.const {w : World} {B n m : Nat} {A : Option Addr} {L : Nat → Nat} {M : Nat → Nat → Int} (h : Mat w B A n L M) (hl : ∀ i, i < n → L i = m) : Mat w B A n (fun _ => m) M := fun h0 => by
  obtain ⟨b, off, e, hb, hc⟩ := h h0
  exact ⟨b, off, e, hb, fun i hi => by obtain ⟨R, C, h1, h2⟩ := hc i hi; rw [hl i hi] at h1 h2; exact ⟨R, C, h1, h2⟩⟩

set_option maxHeartbeats 1000000 in
set_option maxRecDepth 100000 in
theorem SolveRowsS_any (p : Int) (A : Option Addr) (n c : Nat) (L : Nat → Nat) (M : Nat → Nat → Int) (B : Option Addr) (n1 c1 : Nat) (g : Nat → Int) (w : World) (hn : n ≤ 1048576) (hL : ∀ i, i < n → L i ≤ 1048576) (h : Mat w w.heap.size A n L M) (hn1 : n1 ≤ 1048576) (h2 : Ints w w.heap.size B n1 g) :
    Calls Try.prog 36 #[.int .i64 p, .slice A n c, .slice B n1 c1] w (SrX p n L M n1 g w) := by
  have HV := hide (validTableS_any p A n c L M w (by omega) (fun i hi => Nat.le_trans (hL i hi) (by omega)) h)
  cases hv : vTab p n L M
  · have HN := hide (fun w' hb => srx_no (w := w) (w' := w') (sr_bad (n1 := n1) (g := g) (show srOk p n L M n1 g = false by rw [srOk, hv]; rfl)) hb)
    rw [hv] at HV
    clear hL h h2 hv
    go_enter Try.func36, Try.ntmps36
    go_wp2_with fail
    refine (HV.out).mono ?_
    rintro e w1 ⟨rfl, hb⟩
    go_wp2_with fail
    go_ret2
    exact HN.out _ hb
  obtain ⟨hp, hn6, hl0, hrows⟩ := vTab_rows hv
  have hpb := isP_pos hp
  have hm := h.const fun i hi => (hrows i hi).1
  obtain ⟨b, off, rfl, hbl, hc⟩ := hm (by omega)
  obtain ⟨R0, C0, e1, _⟩ := hc 0 (by omega)
  simp only [Nat.add_zero] at e1
  have HR0 := hide e1
  have HM := hide hm
  have HI := hide h2
  rw [hv] at HV
  clear hc e1 h hL h2 hm
  have HW := hide (fun (W : World) (hb : Below w.heap.size w W) => validWord_any p B n1 c1 ((L 0 : Nat) : Int) g W hpb (by omega) (HI.out.keep hb hb.size))
  cases hw : decide ((n1 : Int) = L 0) && allR n1 g p
  · have HN := hide (fun w' hb => srx_no (w := w) (w' := w') (sr_bad (show srOk p n L M n1 g = false by rw [srOk, hv, hw]; rfl)) hb)
    rw [hw] at HW
    clear hv hw hrows
    go_enter Try.func36, Try.ntmps36
    go_wp2_with fail
    refine (HV.out).mono ?_
    rintro e w1 ⟨rfl, hb⟩
    have q2 := (hb.cell (p := ⟨b, off, none⟩) hbl).trans HR0.out
    have HB := hide hb
    clear hb
    go_wp2_with fail
    refine (HW.out _ HB.out).mono ?_
    rintro e _ ⟨rfl, rfl⟩
    go_wp2_with fail
    go_ret2
    exact HN.out _ HB.out
  have hok : srOk p n L M n1 g = true := by rw [srOk, hv, hw]; rfl
  rw [hw] at HW
  rw [Bool.and_eq_true, decide_eq_true_eq] at hw
  obtain ⟨hw1, hw2⟩ := hw
  have hw1' : n1 = L 0 := by omega
  have HS := hide (fun (W : World) (hb : Below w.heap.size w W) => solveS_any p hp (some ⟨b, off, none⟩) B n c (L 0) c1 M g W hn6 hl0 (fun i hi k hk => (hrows i hi).2 k hk) (fun k hk => by have := allR_bd hw2 k (by omega); omega) (HM.out.keep hb hb.size) (by have := HI.out.keep hb hb.size; rwa [hw1'] at this))
  rw [← hw1'] at HS
  have HY := hide (fun e w1 w' hb hx => srx_yes (w := w) (w1 := w1) (w' := w') (e := e) hp hok hb hx)
  rw [← hw1'] at HY
  clear hv hrows hw1 hw2 hok hw1'
  go_enter Try.func36, Try.ntmps36
  go_wp2_with fail
  refine (HV.out).mono ?_
  rintro e w1 ⟨rfl, hb⟩
  have q2 := (hb.cell (p := ⟨b, off, none⟩) hbl).trans HR0.out
  have HB := hide hb
  clear hb
  go_wp2_with fail
  refine (HW.out _ HB.out).mono ?_
  rintro e _ ⟨rfl, rfl⟩
  clear q2
  go_wp2_with fail
  refine (HS.out _ HB.out).mono ?_
  rintro e w2 hx
  have hx := HY.out _ _ _ HB.out hx
  obtain ⟨A2, c2, rfl, t1, hb1⟩ := hx
  have HX := hide (show SrX _ _ _ _ _ _ _ _ _ from ⟨A2, c2, rfl, t1, hb1⟩)
  clear t1 hb1
  go_wp2_with fail
  go_ret2
  exact HX.out

set_option maxHeartbeats 1000000 in
set_option maxRecDepth 100000 in
theorem SolveRowsI_any (p : Int) (A : Option Addr) (n c : Nat) (L : Nat → Nat) (M : Nat → Nat → Int) (B : Option Addr) (n1 c1 : Nat) (g : Nat → Int) (w : World) (hn : n ≤ 1048576) (hL : ∀ i, i < n → L i ≤ 1048576) (h : Mat w w.heap.size A n L M) (hn1 : n1 ≤ 1048576) (h2 : Ints w w.heap.size B n1 g) :
    Calls Try.prog 38 #[.int .i64 p, .slice A n c, .slice B n1 c1] w (SrX p n L M n1 g w) := by
  have HV := hide (tableOf_any p A n c L M w (by omega) (fun i hi => Nat.le_trans (hL i hi) (by omega)) h)
  cases hv : vTab p n L M
  · have HN := hide (fun w' hb => srx_no (w := w) (w' := w') (sr_bad (n1 := n1) (g := g) (show srOk p n L M n1 g = false by rw [srOk, hv]; rfl)) hb)
    rw [hv] at HV
    clear hL h h2 hv
    go_enter Try.func38, Try.ntmps38
    go_wp2_with fail
    refine (HV.out).mono ?_
    rintro e w1 ⟨rfl, hb⟩
    go_wp2_with fail
    go_ret2
    exact HN.out _ hb
  obtain ⟨hp, hn6, hl0, hrows⟩ := vTab_rows hv
  have hpb := isP_pos hp
  have hm := h.const fun i hi => (hrows i hi).1
  obtain ⟨b, off, rfl, hbl, hc⟩ := hm (by omega)
  obtain ⟨R0, C0, e1, _⟩ := hc 0 (by omega)
  simp only [Nat.add_zero] at e1
  have HR0 := hide e1
  have HM := hide hm
  have HI := hide h2
  rw [hv] at HV
  clear hc e1 h hL h2 hm
  by_cases hln : ¬ n1 = L 0
  · have HN := hide (fun w' hb => srx_no (w := w) (w' := w') (sr_bad (g := g) (show srOk p n L M n1 g = false by rw [srOk, hv, decide_eq_false (by omega)]; rfl)) hb)
    have hne : ((n1 : Int) != (L 0 : Nat)) = true := by simp; omega
    clear hv hrows hln
    go_enter Try.func38, Try.ntmps38
    go_wp2_with fail
    refine (HV.out).mono ?_
    rintro e w1 ⟨rfl, hb⟩
    have q2 := (hb.cell (p := ⟨b, off, none⟩) hbl).trans HR0.out
    have HB := hide hb
    clear hb
    go_wp2_with fail
    go_ret2
    exact HN.out _ HB.out
  have hw1' : n1 = L 0 := by omega
  have hne : ((n1 : Int) != (L 0 : Nat)) = false := by simp; omega
  have HH := hide (fun (W : World) (hb : Below w.heap.size w W) => has_any p B n1 c1 g W (by omega) (HI.out.keep hb hb.size) hpb)
  cases hw2 : allR n1 g p
  · have HN := hide (fun w' hb => srx_no (w := w) (w' := w') (sr_bad (show srOk p n L M n1 g = false by rw [srOk, hw2]; simp)) hb)
    rw [hw2] at HH
    clear hv hrows hln hw2 hw1'
    go_enter Try.func38, Try.ntmps38
    go_wp2_with fail
    refine (HV.out).mono ?_
    rintro e w1 ⟨rfl, hb⟩
    have q2 := (hb.cell (p := ⟨b, off, none⟩) hbl).trans HR0.out
    have HB := hide hb
    clear hb
    go_wp2_with fail
    refine (HH.out _ HB.out).mono ?_
    rintro e w2 ⟨rfl, hb2⟩
    go_wp2_with fail
    go_ret2
    exact HN.out _ (up hb2 HB.out HB.out.size)
  have hok : srOk p n L M n1 g = true := by rw [srOk, hv, hw2, decide_eq_true (by omega)]; rfl
  rw [hw2] at HH
  have HS := hide (fun (W : World) (hb : Below w.heap.size w W) => solveI_any p hp (some ⟨b, off, none⟩) B n c (L 0) c1 M g W hn6.2 hl0 (fun i hi k hk => (hrows i hi).2 k hk) (fun k hk => by have := allR_bd hw2 k (by omega); omega) (HM.out.keep hb hb.size) (by have := HI.out.keep hb hb.size; rwa [hw1'] at this))
  rw [← hw1'] at HS
  have HY := hide (fun e w1 w' hb hx => srx_yes (w := w) (w1 := w1) (w' := w') (e := e) hp hok hb hx)
  rw [← hw1'] at HY
  clear hv hrows hw2 hok hln hw1'
  go_enter Try.func38, Try.ntmps38
  go_wp2_with fail
  refine (HV.out).mono ?_
  rintro e w1 ⟨rfl, hb⟩
  have q2 := (hb.cell (p := ⟨b, off, none⟩) hbl).trans HR0.out
  have HB := hide hb
  clear hb
  go_wp2_with fail
  refine (HH.out _ HB.out).mono ?_
  rintro e w2 ⟨rfl, hb2⟩
  have HB2 := hide (up hb2 HB.out HB.out.size)
  clear q2 hb2
  go_wp2_with fail
  refine (HS.out _ HB2.out).mono ?_
  rintro e w3 hx
  have hx := HY.out _ _ _ HB2.out hx
  obtain ⟨A2, c2, rfl, t1, hb1⟩ := hx
  have HX := hide (show SrX _ _ _ _ _ _ _ _ _ from ⟨A2, c2, rfl, t1, hb1⟩)
  clear t1 hb1
  go_wp2_with fail
  go_ret2
  exact HX.out

theorem sr_bd (p : Int) (n : Nat) (L : Nat → Nat) (M : Nat → Nat → Int) (n1 : Nat) (g : Nat → Int) : srN p n L M n1 g ≤ 1000 := by
  unfold srN
  cases h : srB p n L M n1 g
  · simp
  · have h0 : srOk p n L M n1 g = true := by
      cases hw : srOk p n L M n1 g
      · simp [srB, sr_bad hw] at h
      · rfl
    rw [srOk, Bool.and_eq_true] at h0
    have := vTab_rows h0.1
    rw [if_pos rfl]; omega
end Go.Proofs.Ytcalfblghblhcaa
