/-
  How arguments are opened into cells: small lemmas for the step from a walk to a row. No conditions: nothing is claimed of the program here.
-/
import Derived.Test.YtcalfblghblhcaaRows
import Derived.WalkKit
import Derived.ProofKit
import Derived.OpenShut
import Derived.ShutString
import Derived.ChangeOld
import Derived.Below
import Derived.Lib.SmallJoins
import Derived.Deep.Matrix
namespace Go.Proofs.Ytcalfblghblhcaa
open Go.ChangeShapes Go.WideShapes Go.ChangeAt Go.RowKit Go.Joins Go.Deep

/-- a slice of integers that came in: nil, or a row of cells -/
def IsRow (k : IntKind) (w : World) (a : Option Addr) (len cap : Nat) (zs : List Int) : Prop :=
  (a = none ∧ len = 0 ∧ cap = 0 ∧ zs = []) ∨
  ∃ x, a = some x ∧ len ≤ cap ∧ cap ≤ maxLen ∧ zs.length = cap ∧ (0 < zs.length → x.block < w.heap.size) ∧ (∀ i, i < zs.length → w.cell? (x.add i) = some (.int k (zs.getD i 0))) ∧ ∀ n ∈ zs, (Lit.int k n).wf = true

/-- a slice of slices of ints that came in -/
def IsRows (w : World) (a : Option Addr) (len cap : Nat) (A : Nat → Option Addr) (L C : Nat → Nat) (Z : Nat → List Int) : Prop :=
  (a = none ∧ len = 0 ∧ cap = 0) ∨
  ∃ x, a = some x ∧ len ≤ cap ∧ cap ≤ maxLen ∧ ∀ r, r < cap → x.block < w.heap.size ∧ w.cell? (x.add r) = some (.slice (A r) (L r) (C r)) ∧ L r ≤ C r ∧ C r ≤ maxLen ∧ (Z r).length = C r ∧ (A r = none → C r = 0) ∧
    ∀ a', A r = some a' → ∀ c, c < C r → a'.block < w.heap.size ∧ w.cell? (a'.add c) = some (.int .i64 ((Z r).getD c 0))

section
variable {H : Type} {enc : TypeId × Value → H} {P : Program} {w : World} {base : Nat} {spare : Nat → Bool} {held : Bool}
theorem open_agg5 {r : Reach} {b0 : Nat} {t : TypeId} {f0 f1 f2 f3 f4 : Field} {v : Value} {d : DataW H} {p : List MemPlace} (hs : P.underlying t = some (.struct #[f0, f1, f2, f3, f4])) (hone : oneCellFields P #[f0, f1, f2, f3, f4] = true) (hC : P.cellsOf t = 5)
    (hv : Value.okWide P w r b0 t v) (h : DataW.Trod enc P w base spare held t v d p) :
    ∃ (v0 v1 v2 v3 v4 : Value) (y0 y1 y2 y3 y4 : DataW H × List MemPlace) (n : Nat), v = .agg #[v0, v1, v2, v3, v4] ∧ d = .agg [y0.1, y1.1, y2.1, y3.1, y4.1] ∧ p = y0.2 ++ (y1.2 ++ (y2.2 ++ (y3.2 ++ y4.2))) ∧
      DataW.trod enc P w base spare held n f0.type [v0] = some y0 ∧ DataW.trod enc P w base spare held n f1.type [v1] = some y1 ∧ DataW.trod enc P w base spare held n f2.type [v2] = some y2 ∧ DataW.trod enc P w base spare held n f3.type [v3] = some y3 ∧ DataW.trod enc P w base spare held n f4.type [v4] = some y4 := by
  obtain ⟨cs, rfl, hsz⟩ := okWide_struct hs hv
  obtain ⟨l⟩ := cs
  match l, hsz.trans hC with
  | [c0, c1, c2, c3, c4], _ =>
    obtain ⟨fuel, hf⟩ := h
    obtain ⟨xs, n, _, hx, _, hlen, hg⟩ := DataW.trod_struct hs hf
    obtain ⟨o0, k0⟩ := hone_of hone 0 f0 rfl
    obtain ⟨o1, k1⟩ := hone_of hone 1 f1 rfl
    obtain ⟨o2, k2⟩ := hone_of hone 2 f2 rfl
    obtain ⟨o3, k3⟩ := hone_of hone 3 f3 rfl
    obtain ⟨o4, k4⟩ := hone_of hone 4 f4 rfl
    match xs, hlen with
    | [y0, y1, y2, y3, y4], _ =>
      simp only [Prod.mk.injEq] at hx
      exact ⟨c0, c1, c2, c3, c4, y0, y1, y2, y3, y4, n, rfl, by simpa using hx.1, by simpa using hx.2, by simpa [Value.cells, o0, k0] using hg 0 f0 rfl, by simpa [Value.cells, o1, k1] using hg 1 f1 rfl, by simpa [Value.cells, o2, k2] using hg 2 f2 rfl, by simpa [Value.cells, o3, k3] using hg 3 f3 rfl, by simpa [Value.cells, o4, k4] using hg 4 f4 rfl⟩
theorem isRow_of {t e : TypeId} {k : IntKind} {a : Option Addr} {len cap : Nat} {d : DataW H} {p : List MemPlace} (ht : P.underlying t = some (.slice e)) (he : P.underlying e = some (.int k)) (hC : P.cellsOf e = 1)
    (h : DataW.Trod enc P w 0 (fun _ => true) true t (.slice a len cap) d p) (hlt : ∀ x ∈ p, x.block < w.heap.size) : ∃ zs, IsRow k w a len cap zs := by
  obtain ⟨fuel, hf⟩ := h
  rcases open_ints ht he hC hf with ⟨hcs, _⟩ | ⟨x, l, c, zs, hcs, _, hl, hm, hz, hx, hcell, hwz⟩
  · simp [Value.cells] at hcs
    obtain ⟨rfl, rfl, rfl⟩ := hcs
    exact ⟨[], .inl ⟨rfl, rfl, rfl, rfl⟩⟩
  · simp [Value.cells] at hcs
    obtain ⟨rfl, rfl, rfl⟩ := hcs
    refine ⟨zs, .inr ⟨_, rfl, hl, hm, by simpa using hz, fun h0 => ?_, hcell, hwz⟩⟩
    refine hlt (.cell x.block (x.off + 0)) ?_
    rw [Prod.mk.injEq] at hx
    rw [hx.2]
    exact List.mem_map.2 ⟨0, List.mem_range.2 h0, rfl⟩

theorem cell_lt {w : World} {a : Addr} {v : Value} (h : w.cell? a = some v) : a.block < w.heap.size := by
  rcases Nat.lt_or_ge a.block w.heap.size with hlt | hge
  · exact hlt
  · exfalso
    unfold World.cell? at h
    rw [Array.getElem?_eq_none hge] at h
    simp at h

theorem isRows_of {t e q : TypeId} {a : Option Addr} {len cap : Nat} {d : DataW H} {p : List MemPlace} (ht : P.underlying t = some (.slice e)) (he : P.underlying e = some (.slice q)) (hq : P.underlying q = some (.int .i64)) (ce : P.cellsOf e = 1) (cq : P.cellsOf q = 1)
    (h : DataW.Trod enc P w 0 (fun _ => true) true t (.slice a len cap) d p) (_hlt : ∀ x ∈ p, x.block < w.heap.size) : ∃ A L C Z, IsRows w a len cap A L C Z := by
  obtain ⟨fuel, hf⟩ := h
  rcases open_int_rows ht he hq ce cq hf with ⟨hcs, _⟩ | ⟨x, l, c, A, L, C, Z, hcs, _, hl, hm, _, hcell⟩
  · simp [Value.cells] at hcs
    obtain ⟨rfl, rfl, rfl⟩ := hcs
    exact ⟨fun _ => none, fun _ => 0, fun _ => 0, fun _ => [], .inl ⟨rfl, rfl, rfl⟩⟩
  · simp [Value.cells] at hcs
    obtain ⟨rfl, rfl, rfl⟩ := hcs
    refine ⟨A, L, C, Z, .inr ⟨x, rfl, hl, hm, fun r hr => ?_⟩⟩
    obtain ⟨h1, h2, h3, h4, _, h6, h7⟩ := hcell r hr
    have hxb : (x.add r).block = x.block := by unfold Addr.add; split <;> rfl
    refine ⟨by have := cell_lt h1; rwa [hxb] at this, h1, h2, h3, h4, h6, fun a' ha' c hc => ?_⟩
    have hc' := (h7 a' ha').2 c hc
    have hab : (a'.add c).block = a'.block := by unfold Addr.add; split <;> rfl
    exact ⟨by have := cell_lt hc'; rwa [hab] at this, hc'⟩

theorem isRow_of' {t e : TypeId} {k : IntKind} {v : Value} {n : Nat} {y : DataW H × List MemPlace} (ht : P.underlying t = some (.slice e)) (he : P.underlying e = some (.int k)) (hC : P.cellsOf e = 1)
    (h : DataW.trod enc P w 0 (fun _ => true) true n t [v] = some y) (hlt : ∀ x ∈ y.2, x.block < w.heap.size) : ∃ a len cap zs, v = .slice a len cap ∧ IsRow k w a len cap zs := by
  rcases open_ints ht he hC h with ⟨hcs, _⟩ | ⟨x, l, c, zs, hcs, _, hl, hm, hz, hx, hcell, hwz⟩
  · simp at hcs
    subst hcs
    exact ⟨none, 0, 0, [], rfl, .inl ⟨rfl, rfl, rfl, rfl⟩⟩
  · simp at hcs
    subst hcs
    refine ⟨some x, l, c, zs, rfl, .inr ⟨x, rfl, hl, hm, by simpa using hz, fun h0 => ?_, hcell, hwz⟩⟩
    exact cell_lt (by have := hcell 0 h0; simpa [Addr.add] using this)
theorem isRows_of' {t e q : TypeId} {v : Value} {n : Nat} {y : DataW H × List MemPlace} (ht : P.underlying t = some (.slice e)) (he : P.underlying e = some (.slice q)) (hq : P.underlying q = some (.int .i64)) (ce : P.cellsOf e = 1) (cq : P.cellsOf q = 1)
    (h : DataW.trod enc P w 0 (fun _ => true) true n t [v] = some y) : ∃ a len cap A L C Z, v = .slice a len cap ∧ IsRows w a len cap A L C Z := by
  rcases open_int_rows ht he hq ce cq h with ⟨hcs, _⟩ | ⟨x, l, c, A, L, C, Z, hcs, _, hl, hm, _, hcell⟩
  · simp at hcs
    subst hcs
    exact ⟨none, 0, 0, fun _ => none, fun _ => 0, fun _ => 0, fun _ => [], rfl, .inl ⟨rfl, rfl, rfl⟩⟩
  · simp at hcs
    subst hcs
    refine ⟨some x, l, c, A, L, C, Z, rfl, .inr ⟨x, rfl, hl, hm, fun r hr => ?_⟩⟩
    obtain ⟨h1, h2, h3, h4, _, h6, h7⟩ := hcell r hr
    have hxb : (x.add r).block = x.block := by unfold Addr.add; split <;> rfl
    refine ⟨by have := cell_lt h1; rwa [hxb] at this, h1, h2, h3, h4, h6, fun a' ha' c hc => ?_⟩
    have hc' := (h7 a' ha').2 c hc
    have hab : (a'.add c).block = a'.block := by unfold Addr.add; split <;> rfl
    exact ⟨by have := cell_lt hc'; rwa [hab] at this, hc'⟩
theorem isScheme_of {b0 : Nat} {t tR tO tI : TypeId} {f0 f1 f2 : Field} {v : Value} {d : DataW H} {p : List MemPlace} (hs : P.underlying t = some (.struct #[f0, f1, f2])) (hone : oneCellFields P #[f0, f1, f2] = true) (hC : P.cellsOf t = 3)
    (e0 : f0.type = tI) (e1 : f1.type = tR) (e2 : f2.type = tO) (hr : P.underlying tR = some (.slice tO)) (ho : P.underlying tO = some (.slice tI)) (hi : P.underlying tI = some (.int .i64)) (co : P.cellsOf tO = 1) (ci : P.cellsOf tI = 1)
    (hv : Value.okWide P w .any b0 t v) (h : DataW.Trod enc P w 0 (fun _ => true) true t v d p) (hlt : ∀ x ∈ p, x.block < w.heap.size) :
    ∃ sp sra srl src soa sol soc z A L C Z, v = .agg #[.int .i64 sp, .slice sra srl src, .slice soa sol soc] ∧ (Lit.int .i64 sp).wf = true ∧ IsRows w sra srl src A L C Z ∧ IsRow .i64 w soa sol soc z := by
  obtain ⟨v0, v1, v2, y0, y1, y2, n, rfl, _, rfl, g0, g1, g2⟩ := open_agg3 hs hone hC hv h
  rw [e0] at g0
  rw [e1] at g1
  rw [e2] at g2
  obtain ⟨sp, q, _, ws⟩ := DataW.trod_int hi g0
  obtain ⟨a1, l1, c1, A, L, C, Z, rfl, w1⟩ := isRows_of' hr ho hi co ci g1
  obtain ⟨a2, l2, c2, zs, rfl, w2⟩ := isRow_of' ho hi ci g2 (fun x hx => hlt x (by simp [hx]))
  simp at q
  subst q
  exact ⟨sp, a1, l1, c1, a2, l2, c2, zs, A, L, C, Z, rfl, ws, w1, w2⟩
end
end Go.Proofs.Ytcalfblghblhcaa
