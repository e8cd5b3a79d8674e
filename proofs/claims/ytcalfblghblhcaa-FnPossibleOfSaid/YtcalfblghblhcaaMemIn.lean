/-
  What came in, as functions of the index. No conditions: nothing is claimed of the program here.
-/
import Derived.Test.YtcalfblghblhcaaMem2
namespace Go.Proofs.Ytcalfblghblhcaa
open Go.RowKit

theorem add_plain {w : World} {x : Addr} {v : Value} (h : w.cell? (x.add 0) = some v) : x.spot = none := by simpa [Addr.add] using World.cell?_spot h
theorem add_mk (b off i : Nat) : (⟨b, off, none⟩ : Addr).add i = ⟨b, off + i, none⟩ := by unfold Addr.add; split <;> simp_all

theorem ints_in {w : World} {a : Option Addr} {len cap : Nat} {zs : List Int} (h : IsRow .i64 w a len cap zs) : Ints w w.heap.size a len (fun i => zs.getD i 0) ∧ len ≤ 9223372036854775807 := by
  rcases h with ⟨rfl, rfl, rfl, rfl⟩ | ⟨x, rfl, hl, hm, hz, hb, hcell, hwz⟩
  · exact ⟨fun h0 => absurd h0 (by omega), by omega⟩
  · refine ⟨fun h0 => ?_, by unfold maxLen at hm; omega⟩
    obtain ⟨b, off, spot⟩ := x
    have hs : spot = none := add_plain (hcell 0 (by omega))
    subst hs
    exact ⟨b, off, rfl, hb (by omega), fun i hi => by have := hcell i (by omega); rwa [add_mk] at this⟩

theorem mat_in {w : World} {a : Option Addr} {len cap : Nat} {A : Nat → Option Addr} {L C : Nat → Nat} {Z : Nat → List Int} (h : IsRows w a len cap A L C Z) :
    Mat w w.heap.size a len L (fun i j => (Z i).getD j 0) ∧ len ≤ 9223372036854775807 ∧ ∀ i, i < len → L i ≤ 9223372036854775807 := by
  rcases h with ⟨rfl, rfl, rfl⟩ | ⟨x, rfl, hl, hm, hr⟩
  · exact ⟨fun h0 => absurd h0 (by omega), by omega, fun i hi => absurd hi (by omega)⟩
  · unfold maxLen at hm
    refine ⟨fun h0 => ?_, by omega, fun i hi => by have := hr i (by omega); have h3 := this.2.2.2.1; unfold maxLen at h3; omega⟩
    obtain ⟨b, off, spot⟩ := x
    have hs : spot = none := add_plain (hr 0 (by omega)).2.1
    subst hs
    refine ⟨b, off, rfl, (hr 0 (by omega)).1, fun i hi => ?_⟩
    obtain ⟨_, h1, h2, h3, h4, h5, h6⟩ := hr i (by omega)
    rw [add_mk] at h1
    refine ⟨A i, C i, h1, fun h0 => ?_⟩
    cases hA : A i with
    | none => have := h5 hA; omega
    | some a' =>
      obtain ⟨rb, ro, rs⟩ := a'
      have hrs : rs = none := add_plain (h6 _ hA 0 (by omega)).2
      subst hrs
      exact ⟨rb, ro, rfl, (h6 _ hA 0 (by omega)).1, fun j hj => by have := (h6 _ hA j (by omega)).2; rwa [add_mk] at this⟩

/-- what toIntSS made can be read -/
theorem OwnMat.mat {w : World} {b n B : Nat} {L : Nat → Nat} {M : Nat → Nat → Int} (h : OwnMat w b n L M) (hB : b + n < B) : Mat w B (some ⟨b, 0, none⟩) n L M := fun _ =>
  ⟨b, 0, rfl, by omega, fun i hi => ⟨_, _, by rw [Nat.zero_add]; exact h.top.cell hi, (Ints.of_row (h.rows i hi) (fun _ _ => rfl) (by omega))⟩⟩
theorem OwnMat.keep {w w' : World} {b n B : Nat} {L : Nat → Nat} {M : Nat → Nat → Int} (h : OwnMat w b n L M) (hb : Below B w w') (hB : b + n < B) : OwnMat w' b n L M :=
  ⟨h.top.of_block (hb.block _ (by omega)), fun j hj => (h.rows j hj).of_block (hb.block _ (by omega))⟩
end Go.Proofs.Ytcalfblghblhcaa
