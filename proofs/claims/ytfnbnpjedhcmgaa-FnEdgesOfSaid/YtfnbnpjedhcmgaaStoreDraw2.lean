/-
  The draws of stores from a code. Conditions: the code is a slice of bytes that can be read.
-/
import Derived.Test.YtfnbnpjedhcmgaaStoreDraw
import Derived.Test.YtfnbnpjedhcmgaaFrame
namespace Go.Proofs.Ytfnbnpjedhcmgaa
open Go.RowKit

/-- what newReader asks of a slice of bytes that came in -/
theorem bytes_in {w : World} {a : Option Addr} {len cap : Nat} {zs : List Int} (h : IsRow .u8 w a len cap zs) :
    len ≤ cap ∧ cap ≤ maxLen ∧ zs.length = cap ∧ (∀ x ∈ zs, 0 ≤ x ∧ x ≤ 255) ∧ (0 < len → ∃ b off, a = some ⟨b, off, none⟩ ∧ b < w.heap.size ∧ ∀ i, i < cap → w.cell? ⟨b, off + i, none⟩ = some (.int .u8 (zs.getD i 0))) := by
  rcases h with ⟨rfl, rfl, rfl, rfl⟩ | ⟨x, rfl, hl, hm, hz, hb, hcell, hwz⟩
  · exact ⟨Nat.le_refl _, by simp [maxLen], rfl, by simp, by omega⟩
  · refine ⟨hl, hm, hz, fun x hx => ?_, fun h0 => ?_⟩
    · have := hwz x hx
      simp [Lit.wf, IntKind.min, IntKind.max, IntKind.bits, IntKind.signed] at this
      omega
    · obtain ⟨b, off, spot⟩ := x
      have hc := hcell 0 (by omega)
      have hspot : spot = none := by simpa [Addr.add] using World.cell?_spot hc
      subst hspot
      refine ⟨b, off, rfl, hb (by omega), fun i hi => ?_⟩
      have := hcell i (by omega)
      unfold Addr.add at this
      split at this
      · rename_i h0; subst h0; simpa using this
      · simpa using this

theorem newReader_of (a : Option Addr) (len cap : Nat) (zs : List Int) (w W : World) (h : IsRow .u8 w a len cap zs) (hb : Below w.heap.size w W) :
    Calls Try.prog 41 #[.slice a len cap] W fun e w' => ∃ g, e = .returned (.pointer (some ⟨g, 0, none⟩)) ∧ W.heap.size ≤ g ∧ Rd w' g 0 ∧ Below W.heap.size W w' := by
  obtain ⟨h1, h2, h3, h4, h5⟩ := bytes_in h
  refine newReader_any a len cap zs W h1 h2 h3 h4 (fun h0 => ?_)
  obtain ⟨b, off, e, hlt, hc⟩ := h5 h0
  exact ⟨b, off, e, Nat.lt_of_lt_of_le hlt hb.size, fun i hi => (hb.cell (p := ⟨b, off + i, none⟩) hlt).trans (hc i hi)⟩

theorem Only.up {g B : Nat} {w W w1 : World} (ho : Only g W w1) (h : Below B w W) (hB : B ≤ W.heap.size) (hg : B ≤ g) : Below B w w1 := h.trans (ho.below hg hB)

theorem DrawValidStore_any (a : Option Addr) (len cap : Nat) (zs : List Int) (w W : World) (h : IsRow .u8 w a len cap zs) (hb : Below w.heap.size w W) :
    Calls Try.prog 22 #[.slice a len cap] W fun e w' => ∃ nd ne ak k s : Int, e = .returned (.agg #[.int .i64 nd, .int .i64 ne, .int .i64 ak, .int .i64 k, .int .i64 s]) ∧ Below W.heap.size W w' := by
  have Hh := hide h
  have Hb := hide hb
  clear h hb
  go_enter Try.func22, Try.ntmps22
  go_wp2_with fail
  refine (newReader_of a len cap zs w _ Hh.out (Hb.out.alloc Hb.out.size _)).mono ?_
  rintro e w1 ⟨g, rfl, hg, hr, hb1⟩
  simp only [World.size_alloc] at hg
  obtain ⟨hc1, hf1⟩ := bcell hb1
  have hz1 : W.heap.size < w1.heap.size := by have := hb1.size; simp at this; omega
  have hne : W.heap.size ≠ g := by omega
  go_wp2_with fail
  refine (someStore_any g _ hr).mono ?_
  rintro e w2 ⟨nd, ne, ak, k, s, rfl, hr2, ho⟩
  obtain ⟨hc2, hf2⟩ := ho.cells
  go_wp2_with fail
  have e0 : Below W.heap.size W w2 := ho.up (up hb1 (by go_grown) (by simp)) (by omega) (by omega)
  refine bodyPost_ret (v := .agg #[.int .i64 nd, .int .i64 ne, .int .i64 ak, .int .i64 k, .int .i64 s]) (by simp [results, Try.results22, go_sem, hc2, hc1, hz1, hne]) rfl ⟨nd, ne, ak, k, s, rfl, ?_⟩
  clear hc1 hc2 hf1 hf2
  go_grown

theorem DrawCapacityOf_any (a : Option Addr) (len cap : Nat) (zs : List Int) (w W : World) (h : IsRow .u8 w a len cap zs) (hb : Below w.heap.size w W) :
    Calls Try.prog 30 #[.slice a len cap] W fun e w' => ∃ nd ne ak k s : Int, e = .returned (.agg #[.int .i64 nd, .int .i64 ne, .int .i64 ak, .int .i64 k, .int .i64 s]) ∧ Below W.heap.size W w' := by
  have Hh := hide h
  have Hb := hide hb
  clear h hb
  go_enter Try.func30, Try.ntmps30
  go_wp2_with fail
  refine (newReader_of a len cap zs w _ Hh.out (Hb.out.alloc Hb.out.size _)).mono ?_
  rintro e w1 ⟨g, rfl, hg, hr, hb1⟩
  simp only [World.size_alloc] at hg
  obtain ⟨hc1, hf1⟩ := bcell hb1
  have hz1 : W.heap.size < w1.heap.size := by have := hb1.size; simp at this; omega
  have hne : W.heap.size ≠ g := by omega
  go_wp2_with fail
  refine (someStore_any g _ hr).mono ?_
  rintro e w2 ⟨nd, ne, ak, k, s, rfl, hr2, ho⟩
  obtain ⟨hc2, hf2⟩ := ho.cells
  go_wp2_with fail
  have e0 : Below W.heap.size W w2 := ho.up (up hb1 (by go_grown) (by simp)) (by omega) (by omega)
  refine bodyPost_ret (v := .agg #[.int .i64 nd, .int .i64 ne, .int .i64 ak, .int .i64 k, .int .i64 s]) (by simp [results, Try.results30, go_sem, hc2, hc1, hz1, hne]) rfl ⟨nd, ne, ak, k, s, rfl, ?_⟩
  clear hc1 hc2 hf1 hf2
  go_grown

theorem DrawEdgesOf_any (a : Option Addr) (len cap : Nat) (zs : List Int) (w W : World) (h : IsRow .u8 w a len cap zs) (hb : Below w.heap.size w W) :
    Calls Try.prog 33 #[.slice a len cap] W fun e w' => ∃ nd ne ak k s : Int, e = .returned (.agg #[.int .i64 nd, .int .i64 ne, .int .i64 ak, .int .i64 k, .int .i64 s]) ∧ Below W.heap.size W w' := by
  have Hh := hide h
  have Hb := hide hb
  clear h hb
  go_enter Try.func33, Try.ntmps33
  go_wp2_with fail
  refine (newReader_of a len cap zs w _ Hh.out (Hb.out.alloc Hb.out.size _)).mono ?_
  rintro e w1 ⟨g, rfl, hg, hr, hb1⟩
  simp only [World.size_alloc] at hg
  obtain ⟨hc1, hf1⟩ := bcell hb1
  have hz1 : W.heap.size < w1.heap.size := by have := hb1.size; simp at this; omega
  have hne : W.heap.size ≠ g := by omega
  go_wp2_with fail
  refine (someStore_any g _ hr).mono ?_
  rintro e w2 ⟨nd, ne, ak, k, s, rfl, hr2, ho⟩
  obtain ⟨hc2, hf2⟩ := ho.cells
  go_wp2_with fail
  have e0 : Below W.heap.size W w2 := ho.up (up hb1 (by go_grown) (by simp)) (by omega) (by omega)
  refine bodyPost_ret (v := .agg #[.int .i64 nd, .int .i64 ne, .int .i64 ak, .int .i64 k, .int .i64 s]) (by simp [results, Try.results33, go_sem, hc2, hc1, hz1, hne]) rfl ⟨nd, ne, ak, k, s, rfl, ?_⟩
  clear hc1 hc2 hf1 hf2
  go_grown

end Go.Proofs.Ytfnbnpjedhcmgaa
