/-
  SolveRows, by both, for all arguments. Conditions: the rows and the goal can be read.
-/
import Derived.Test.YthafmoofemfdmaaSolveM
import Derived.Test.YthafmoofemfdmaaShares
namespace Go.Proofs.Ythafmoofemfdmaa
open Go.RowKit

/-- the rows are a table and the goal fits -/
def srOk (p : Int) (n : Nat) (L : Nat → Nat) (M : Nat → Nat → Int) (n1 : Nat) (g : Nat → Int) : Bool := vTab p n L M && (decide ((n1 : Int) = L 0) && allR n1 g p)
open Classical in
/-- the answer, if there is one -/
noncomputable def solF (p : Int) (n m : Nat) (R : Nat → Nat → Int) (g : Nat → Int) : Option (Nat → Int) := if h : ∃ f, Good p n m R g f then some (Classical.choose h) else none
theorem solF_good {p : Int} {n m : Nat} {R : Nat → Nat → Int} {g f : Nat → Int} (hp : isP p = true) (h : Good p n m R g f) : ∃ f0, solF p n m R g = some f0 ∧ Good p n m R g f0 ∧ ∀ j, j < n → f j = f0 j := by
  have hx : ∃ f, Good p n m R g f := ⟨f, h⟩
  refine ⟨Classical.choose hx, by rw [solF, dif_pos hx], Classical.choose_spec hx, Good.uniq hp h (Classical.choose_spec hx)⟩
theorem solF_none {p : Int} {n m : Nat} {R : Nat → Nat → Int} {g : Nat → Int} (h : ∀ f, ¬ Good p n m R g f) : solF p n m R g = none := by
  rw [solF, dif_neg (fun ⟨f, hf⟩ => h f hf)]
noncomputable def srV (p : Int) (n : Nat) (L : Nat → Nat) (M : Nat → Nat → Int) (n1 : Nat) (g : Nat → Int) : Option (Nat → Int) := if srOk p n L M n1 g then solF p n (L 0) M g else none
noncomputable def srB (p : Int) (n : Nat) (L : Nat → Nat) (M : Nat → Nat → Int) (n1 : Nat) (g : Nat → Int) : Bool := (srV p n L M n1 g).isSome
noncomputable def srN (p : Int) (n : Nat) (L : Nat → Nat) (M : Nat → Nat → Int) (n1 : Nat) (g : Nat → Int) : Nat := if srB p n L M n1 g then n else 0
noncomputable def srF (p : Int) (n : Nat) (L : Nat → Nat) (M : Nat → Nat → Int) (n1 : Nat) (g : Nat → Int) : Nat → Int := (srV p n L M n1 g).getD (fun _ => 0)
def SrX (p : Int) (n : Nat) (L : Nat → Nat) (M : Nat → Nat → Int) (n1 : Nat) (g : Nat → Int) (w : World) (e : Ending) (w' : World) : Prop :=
  ∃ A c, e = .returned (.tuple #[.slice A (srN p n L M n1 g) c, .bool (srB p n L M n1 g)]) ∧ IT w' w.heap.size w'.heap.size A (srN p n L M n1 g) (srF p n L M n1 g) ∧ Below w.heap.size w w'
theorem srx_no {p : Int} {n n1 : Nat} {L : Nat → Nat} {M : Nat → Nat → Int} {g : Nat → Int} {w w' : World} (h : srV p n L M n1 g = none) (hb : Below w.heap.size w w') : SrX p n L M n1 g w (.returned (.tuple #[.slice none 0 0, .bool false])) w' := by
  have e1 : srB p n L M n1 g = false := by simp [srB, h]
  have e2 : srN p n L M n1 g = 0 := by simp [srN, e1]
  exact ⟨none, 0, by rw [e1, e2], by rw [e2]; exact IT.nil _ _ _ _, hb⟩
theorem sr_bad {p : Int} {n n1 : Nat} {L : Nat → Nat} {M : Nat → Nat → Int} {g : Nat → Int} (h : srOk p n L M n1 g = false) : srV p n L M n1 g = none := by simp [srV, h]
theorem srx_yes {p : Int} {n n1 : Nat} {L : Nat → Nat} {M : Nat → Nat → Int} {g : Nat → Int} {w w1 w' : World} {e : Ending} (hp : isP p = true) (h : srOk p n L M n1 g = true) (hb : Below w.heap.size w w1) (hx : SolPost p n (L 0) M g w1 e w') : SrX p n L M n1 g w e w' := by
  obtain ⟨hb2, hx⟩ := hx
  have hb3 := up hb2 hb hb.size
  rcases hx with ⟨f, A', c', h1, rfl, h3⟩ | ⟨h1, rfl⟩
  · obtain ⟨f0, e0, g0, ef⟩ := solF_good hp h1
    have e1 : srV p n L M n1 g = some f0 := by rw [srV, if_pos h, e0]
    have e2 : srB p n L M n1 g = true := by simp [srB, e1]
    have e3 : srN p n L M n1 g = n := by simp [srN, e2]
    have e4 : srF p n L M n1 g = f0 := by simp [srF, e1]
    refine ⟨A', c', by rw [e2, e3], ?_, hb3⟩
    rw [e3, e4]
    exact ((IT.of_row h3).mono hb.size (Nat.le_refl _)).congr fun i hi => by rw [listOf_getD _ hi]; exact ef i hi
  · exact srx_no (by rw [srV, if_pos h, solF_none h1]) hb3
/-- what a table's rows are -/
theorem vTab_rows {p : Int} {n : Nat} {L : Nat → Nat} {M : Nat → Nat → Int} (h : vTab p n L M = true) :
    isP p = true ∧ (1 ≤ n ∧ n ≤ 6) ∧ (1 ≤ L 0 ∧ L 0 ≤ 7) ∧ ∀ i, i < n → L i = L 0 ∧ ∀ j, j < L 0 → 0 ≤ M i j ∧ M i j < p := by
  obtain ⟨hp, hn, hl, hr⟩ := vTab_true.1 h
  have a := inR_true.1 hn
  have b := inR_true.1 hl
  refine ⟨hp, by omega, by omega, fun i hi => ?_⟩
  obtain ⟨r1, r2⟩ := hr i hi
  refine ⟨r1, fun j hj => ?_⟩
  have := inR_true.1 (allR_true.1 r2 j (by omega))
  omega
theorem Mat.const {w : World} {B n m : Nat} {A : Option Addr} {L : Nat → Nat} {M : Nat → Nat → Int} (h : Mat w B A n L M) (hl : ∀ i, i < n → L i = m) : Mat w B A n (fun _ => m) M := fun h0 => by
  obtain ⟨b, off, e, hb, hc⟩ := h h0
  exact ⟨b, off, e, hb, fun i hi => by obtain ⟨R, C, h1, h2⟩ := hc i hi; rw [hl i hi] at h1 h2; exact ⟨R, C, h1, h2⟩⟩


theorem sr_bd (p : Int) (n : Nat) (L : Nat → Nat) (M : Nat → Nat → Int) (n1 : Nat) (g : Nat → Int) : srN p n L M n1 g ≤ 1000 := by
  unfold srN
  cases h : srB p n L M n1 g
  · simp
  · have h0 : srOk p n L M n1 g = true := by
      cases hw : srOk p n L M n1 g
      · simp [srB, sr_bad hw] at h
      · rfl
    rw [srOk, Bool.and_eq_true] at h0
    have := vTab_rows h0.1
    rw [if_pos rfl]; omega
end Go.Proofs.Ythafmoofemfdmaa
