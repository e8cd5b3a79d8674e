/-
  The draws of nets, with goals. Conditions: the code is a slice of bytes that can be read.
-/
import Derived.Test.YtecmihmopiepfaaNetDraw
import Derived.Test.YtecmihmopiepfaaBits
namespace Go.Proofs.Ytecmihmopiepfaa
open Go.RowKit

/-- what a draw of a net leaves: rows that can be read -/
def DrN (W w' : World) (A : Option Addr) (n : Nat) (L : Nat → Nat) (M : Nat → Nat → Int) : Prop :=
  Mat w' w'.heap.size A n L M ∧ (1 ≤ n ∧ n ≤ 8) ∧ (∀ i, i < n → L i ≤ 8) ∧ Below W.heap.size W w' ∧ ∀ b off i R l C, A = some ⟨b, off, none⟩ → i < n → w'.cell? ⟨b, off + i, none⟩ = some (.slice R l C) → l ≤ C
theorem DrN.of {W w1 w' : World} {g k n c : Nat} {A : Option Addr} {R : List Sl} (h : Tab w' w1.heap.size A n c R) (hl : ∀ r ∈ R, r.xs.length ≤ 8) (hn : 1 ≤ n ∧ n ≤ 8) (hb : Below W.heap.size W w') :
    DrN W w' A n (fun i => (R.getD i ⟨none, 0, []⟩).xs.length) (fun i j => (R.getD i ⟨none, 0, []⟩).xs.getD j 0) :=
  ⟨h.mat, hn, fun i hi => by
    have hx : i < R.length := by rw [h.1]; exact hi
    simp only [List.getD, List.getElem?_eq_getElem hx, Option.getD_some]
    exact hl _ (List.getElem_mem hx), hb, fun b off i R l C hA hi hc => by
    obtain ⟨b', r, e, _, _, hr, hc', _, hrow⟩ := h.at_ hi
    rw [hA] at e
    injection e with e
    injection e with e1 e2
    subst e1 e2
    rw [Nat.zero_add, hc'] at hc
    injection hc with hc
    injection hc with _ h2 h3
    subst h2 h3
    exact hrow.cap⟩
theorem DrawValidNet_any (a : Option Addr) (len cap : Nat) (zs : List Int) (w W : World) (h : IsRow .u8 w a len cap zs) (hb : Below w.heap.size w W) :
    Calls Try.prog 15 #[.slice a len cap] W fun e w' => ∃ A n c L M, e = .returned (.slice A n c) ∧ DrN W w' A n L M := by
  have Hh := hide h
  have Hb := hide hb
  clear h hb
  go_enter Try.func15, Try.ntmps15
  go_wp2_with fail
  refine (newReader_of a len cap zs w _ Hh.out Hb.out).mono ?_
  rintro e w1 ⟨g, rfl, hg, hr, hb1⟩
  go_wp2_with fail
  refine (someNet_any g _ hr).mono ?_
  rintro e w2 ⟨A, n, c, R, rfl, ht, hl, hn, hr2, ho2⟩
  have HF := hide (DrN.of (g := g) (k := 0) ht hl hn (ho2.up hb1 hb1.size hg))
  clear ht hl hr2 ho2
  go_wp2_with fail
  go_ret
  exact ⟨A, n, c, _, _, rfl, HF.out⟩

theorem DrawCutOf_any (a : Option Addr) (len cap : Nat) (zs : List Int) (w W : World) (h : IsRow .u8 w a len cap zs) (hb : Below w.heap.size w W) :
    Calls Try.prog 23 #[.slice a len cap] W fun e w' => ∃ A n c L M, ∃ v : Int, e = .returned (.tuple #[.slice A n c, .int .i64 v]) ∧ DrN W w' A n L M := by
  have Hh := hide h
  have Hb := hide hb
  clear h hb
  go_enter Try.func23, Try.ntmps23
  go_wp2_with fail
  refine (newReader_of a len cap zs w _ Hh.out Hb.out).mono ?_
  rintro e w1 ⟨g, rfl, hg, hr, hb1⟩
  go_wp2_with fail
  refine (someNet_any g _ hr).mono ?_
  rintro e w2 ⟨A, n, c, R, rfl, ht, hl, hn, hr2, ho2⟩
  have HB2 := ho2.up hb1 hb1.size hg
  have HT := hide ht
  have HL := hide hl
  have hg2 := hr.lt
  clear ht hl ho2
  by_cases h1 : 1 ≤ (n : Int) - 1
  · go_wp2_with fail
    refine (pick_rd g 60 ((n : Int) - 1) _ hr2 (by omega)).mono ?_
    rintro e w3 ⟨v3, rfl, hv3, hr3, ho3⟩
    have q3 : 0 ≤ v3 ∧ v3 ≤ 10 := ⟨hv3.1, (by have := hv3.2.1 (by omega); omega)⟩
    have HT3 := hide (HT.out.only ho3 hg2)
    have HB3 := ho3.up HB2 HB2.size hg
    clear hv3 ho3
    go_wp2_with fail
    refine (one_lit g 61 [(n : Int) - 1, 1 + v3, (n : Int) - 1, 0, n] _ 5 5 w3 _ hr3 rfl rfl (by omega) (by omega) (by omega)).mono ?_
    rintro e w5 ⟨x, hx, rfl, hr5, ho5⟩
    have HF := hide (DrN.of (g := g) (k := 0) (HT3.out.only ho5 hg2) HL.out hn (ho5.up HB3 HB3.size hg))
    clear hx ho5
    go_wp2_with fail
    go_ret2
    exact ⟨A, n, c, _, _, x, rfl, HF.out⟩
  · go_wp2_with fail
    refine (pick_rd g 60 1 _ hr2 (by omega)).mono ?_
    rintro e w3 ⟨v3, rfl, hv3, hr3, ho3⟩
    have q3 : 0 ≤ v3 ∧ v3 ≤ 10 := ⟨hv3.1, (by have := hv3.2.1 (by omega); omega)⟩
    have HT3 := hide (HT.out.only ho3 hg2)
    have HB3 := ho3.up HB2 HB2.size hg
    clear hv3 ho3
    go_wp2_with fail
    refine (one_lit g 61 [(n : Int) - 1, 1 + v3, (n : Int) - 1, 0, n] _ 5 5 w3 _ hr3 rfl rfl (by omega) (by omega) (by omega)).mono ?_
    rintro e w5 ⟨x, hx, rfl, hr5, ho5⟩
    have HF := hide (DrN.of (g := g) (k := 0) (HT3.out.only ho5 hg2) HL.out hn (ho5.up HB3 HB3.size hg))
    clear hx ho5
    go_wp2_with fail
    go_ret2
    exact ⟨A, n, c, _, _, x, rfl, HF.out⟩

theorem DrawFlowOf_any (a : Option Addr) (len cap : Nat) (zs : List Int) (w W : World) (h : IsRow .u8 w a len cap zs) (hb : Below w.heap.size w W) :
    Calls Try.prog 31 #[.slice a len cap] W fun e w' => ∃ A n c L M, ∃ v : Int, e = .returned (.tuple #[.slice A n c, .int .i64 v]) ∧ DrN W w' A n L M := by
  have Hh := hide (DrawCutOf_any a len cap zs w W h hb)
  clear h hb
  go_enter Try.func31, Try.ntmps31
  go_wp2_with fail
  refine (Hh.out).mono ?_
  rintro e w1 ⟨A, n, c, L, M, v, rfl, hd⟩
  have HD := hide hd
  clear hd
  go_wp2_with fail
  go_ret2
  exact ⟨A, n, c, L, M, v, rfl, HD.out⟩

theorem DrawManyCut_any (a : Option Addr) (len cap : Nat) (zs : List Int) (w W : World) (h : IsRow .u8 w a len cap zs) (hb : Below w.heap.size w W) :
    Calls Try.prog 28 #[.slice a len cap] W fun e w' => ∃ A n c L M, ∃ v : Int, e = .returned (.tuple #[.slice A n c, .int .i64 v]) ∧ DrN W w' A n L M := by
  have Hh := hide h
  have Hb := hide hb
  clear h hb
  go_enter Try.func28, Try.ntmps28
  go_wp2_with fail
  refine (newReader_of a len cap zs w _ Hh.out Hb.out).mono ?_
  rintro e w1 ⟨g, rfl, hg, hr, hb1⟩
  go_wp2_with fail
  refine (someNet_any g _ hr).mono ?_
  rintro e w2 ⟨A, n, c, R, rfl, ht, hl, hn, hr2, ho2⟩
  have HB2 := ho2.up hb1 hb1.size hg
  have HT := hide ht
  have HL := hide hl
  have hg2 := hr.lt
  clear ht hl ho2
  have e8 : (2 : Int) ^ 8 = 256 := by decide
  go_wp2_with fail
  refine (powerS_small ((n : Int) - 1) 8 _ (by omega) (by omega) (by omega)).mono ?_
  rintro e _ ⟨q1, rfl, hq1, b1, b2, rfl⟩
  rw [e8] at b2
  have Q1 := hide hq1
  clear hq1
  go_wp2_with fail
  refine (pick_rd g 60 _ _ hr2 (by omega)).mono ?_
  rintro e w3 ⟨v3, rfl, hv3, hr3, ho3⟩
  have q3 : 0 ≤ v3 ∧ v3 ≤ 256 := ⟨hv3.1, (by have := hv3.2.1 (by omega); omega)⟩
  have HT3 := hide (HT.out.only ho3 hg2)
  have HB3 := ho3.up HB2 HB2.size hg
  clear hv3 ho3
  go_wp2_with fail
  refine (powerS_small ((n : Int) - 1) 8 _ (by omega) (by omega) (by omega)).mono ?_
  rintro e _ ⟨q2, rfl, hq2, b3, b4, rfl⟩
  rw [e8] at b4
  have Q2 := hide hq2
  clear hq2
  go_wp2_with fail
  refine (pick_rd g 61 _ _ hr3 (by omega)).mono ?_
  rintro e w4 ⟨v4, rfl, hv4, hr4, ho4⟩
  have q4 : 0 ≤ v4 ∧ v4 ≤ 256 := ⟨hv4.1, (by have := hv4.2.1 (by omega); omega)⟩
  have HT4 := hide (HT3.out.only ho4 hg2)
  have HB4 := ho4.up HB3 HB3.size hg
  clear hv4 ho4
  go_wp2_with fail
  refine (powerS_small ((n : Int) - 1) 8 _ (by omega) (by omega) (by omega)).mono ?_
  rintro e _ ⟨q5, rfl, hq5, b5, b6, rfl⟩
  rw [e8] at b6
  have Q5 := hide hq5
  clear hq5
  go_wp2_with fail
  refine (powerS_small (n : Int) 8 _ (by omega) (by omega) (by omega)).mono ?_
  rintro e _ ⟨q6, rfl, hq6, b7, b8, rfl⟩
  rw [e8] at b8
  have Q6 := hide hq6
  clear hq6
  go_wp2_with fail
  refine (one_lit g 62 [2 * v3, 2 * v4, q5, 0, 1, q6] _ 6 6 w4 _ hr4 rfl rfl (by omega) (by omega) (by omega)).mono ?_
  rintro e w5 ⟨x, hx, rfl, hr5, ho5⟩
  have HF := hide (DrN.of (g := g) (k := 0) (HT4.out.only ho5 hg2) HL.out hn (ho5.up HB4 HB4.size hg))
  clear hx ho5
  go_wp2_with fail
  go_ret2
  exact ⟨A, n, c, _, _, x, rfl, HF.out⟩
end Go.Proofs.Ytecmihmopiepfaa
