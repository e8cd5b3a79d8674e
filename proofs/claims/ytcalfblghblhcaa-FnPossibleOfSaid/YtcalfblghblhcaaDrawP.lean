/-
  Draws of numbers: one of some literals, a prime. Conditions: the reader is one that newReader has made.
-/
import Derived.Test.YtcalfblghblhcaaReader
import Derived.Test.YtcalfblghblhcaaFrame
namespace Go.Proofs.Ytcalfblghblhcaa
open Go.RowKit

/-- what newReader asks of a slice of bytes that came in -/
theorem bytes_in {w : World} {a : Option Addr} {len cap : Nat} {zs : List Int} (h : IsRow .u8 w a len cap zs) :
    len ≤ cap ∧ cap ≤ maxLen ∧ zs.length = cap ∧ (∀ x ∈ zs, 0 ≤ x ∧ x ≤ 255) ∧ (0 < len → ∃ b off, a = some ⟨b, off, none⟩ ∧ b < w.heap.size ∧ ∀ i, i < cap → w.cell? ⟨b, off + i, none⟩ = some (.int .u8 (zs.getD i 0))) := by
  rcases h with ⟨rfl, rfl, rfl, rfl⟩ | ⟨x, rfl, hl, hm, hz, hb, hcell, hwz⟩
  · exact ⟨Nat.le_refl _, by simp [maxLen], rfl, by simp, by omega⟩
  · refine ⟨hl, hm, hz, fun x hx => ?_, fun h0 => ?_⟩
    · have := hwz x hx
      simp [Lit.wf, IntKind.min, IntKind.max, IntKind.bits, IntKind.signed] at this
      omega
    · obtain ⟨b, off, spot⟩ := x
      have hc := hcell 0 (by omega)
      have hspot : spot = none := by simpa [Addr.add] using World.cell?_spot hc
      subst hspot
      refine ⟨b, off, rfl, hb (by omega), fun i hi => ?_⟩
      have := hcell i (by omega)
      unfold Addr.add at this
      split at this
      · rename_i h0; subst h0; simpa using this
      · simpa using this

theorem newReader_of (a : Option Addr) (len cap : Nat) (zs : List Int) (w W : World) (h : IsRow .u8 w a len cap zs) (hb : Below w.heap.size w W) :
    Calls Try.prog 63 #[.slice a len cap] W fun e w' => ∃ g, e = .returned (.pointer (some ⟨g, 0, none⟩)) ∧ W.heap.size ≤ g ∧ Rd w' g 0 ∧ Below W.heap.size W w' := by
  obtain ⟨h1, h2, h3, h4, h5⟩ := bytes_in h
  refine newReader_any a len cap zs W h1 h2 h3 h4 (fun h0 => ?_)
  obtain ⟨b, off, e, hlt, hc⟩ := h5 h0
  exact ⟨b, off, e, Nat.lt_of_lt_of_le hlt hb.size, fun i hi => (hb.cell (p := ⟨b, off + i, none⟩) hlt).trans (hc i hi)⟩

theorem Only.up {g B : Nat} {w W w1 : World} (ho : Only g W w1) (h : Below B w W) (hB : B ≤ W.heap.size) (hg : B ≤ g) : Below B w w1 := h.trans (ho.below hg hB)
theorem Rd.lt {w : World} {g k : Nat} (h : Rd w g k) : g < w.heap.size := by obtain ⟨_, _, _, _, _, _, _, h⟩ := h; exact h
theorem Rd.alloc {w : World} {g k : Nat} (h : Rd w g k) (o : Obj) : Rd (w.alloc o) g k := h.of_only ((Below.refl _ _).alloc (Nat.le_refl _) _)
theorem Rd.drew {w : World} {g k : Nat} (h : Rd w g k) : Rd w.drew g k := h

theorem one_lit (g k : Nat) (ys : List Int) (xs : Array Value) (n c : Nat) (w : World) (t : TypeId) (h : Rd w g k) (hx : xs = (ys.map (Value.int .i64)).toArray) (hl : ys.length = n) (hk : k ≤ 1000000) (hn : 1 ≤ n) (hm : n ≤ 1000) :
    Calls Try.prog 80 #[.pointer (some ⟨g, 0, none⟩), .slice (some ⟨w.heap.size, 0, none⟩) n c] (w.alloc (.cells xs t)) fun e w' => ∃ v : Int, v ∈ ys ∧ e = .returned (.int .i64 v) ∧ Rd w' g (k + 1) ∧ Only g w w' := by
  have hg := h.lt
  refine (one_any g k _ 0 n c ys _ (h.alloc _) hk hn hm (by omega) (by simp) (fun i hi => ?_)).mono ?_
  · rw [cell_of_row _ _ _ _ _ _ (heap_alloc_new w _)]
    subst hx
    simp [List.getD, hl, hi]
  · rintro e w' ⟨i, hi, rfl, hr, ho⟩
    refine ⟨_, ?_, rfl, hr, ((Only.refl g w).alloc _).trans ho⟩
    simp only [List.getD, List.getElem?_eq_getElem (show i < ys.length by omega), Option.getD_some]
    exact List.getElem_mem _

end Go.Proofs.Ytcalfblghblhcaa
