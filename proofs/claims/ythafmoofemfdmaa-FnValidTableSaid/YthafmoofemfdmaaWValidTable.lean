/-
  FnValidTable returns true for every code: the walk. Conditions: none.
-/
import Derived.Test.YthafmoofemfdmaaTabDraw
import Derived.Test.YthafmoofemfdmaaWExactValidTable
namespace Go.Proofs.Ythafmoofemfdmaa
open Go.RowKit

theorem DrawValidTable_any (a : Option Addr) (len cap : Nat) (zs : List Int) (w W : World) (h : IsRow .u8 w a len cap zs) (hb : Below w.heap.size w W) :
    Calls Try.prog 32 #[.slice a len cap] W fun e w' => ∃ (p : Int) (A : Option Addr) (n c : Nat) (L : Nat → Nat) (M : Nat → Nat → Int), e = .returned (.tuple #[.int .i64 p, .slice A n c]) ∧ Mat w' w'.heap.size A n L M ∧ n ≤ 8 ∧ n ≤ c ∧ (∀ i, i < n → L i ≤ 8) ∧ Below W.heap.size W w' := by
  have Hh := hide h
  have Hb := hide hb
  clear h hb
  go_enter Try.func32, Try.ntmps32
  go_wp2_with fail
  refine (newReader_of a len cap zs w _ Hh.out Hb.out).mono ?_
  rintro e w1 ⟨g, rfl, hg, hr, hb1⟩
  go_wp2_with fail
  refine (aPrime_any g 0 _ hr (by omega)).mono ?_
  rintro e w2 ⟨p, rfl, hp, hr2, ho2⟩
  have HB2 := ho2.up hb1 hb1.size hg
  clear ho2
  go_wp2_with fail
  refine (aTable_any g 2 p _ hr2 (by omega)).mono ?_
  rintro e w3 ⟨A, n, c, R, rfl, ht, hl, hn, hr3, ho3⟩
  have HF := hide (show _ ∧ _ ∧ _ ∧ _ from ⟨ht.mat, fun i (hi : i < n) => (by
    have hx : i < R.length := by rw [ht.1]; exact hi
    simp only [List.getD, List.getElem?_eq_getElem hx, Option.getD_some]
    exact hl _ (List.getElem_mem hx) : (R.getD i ⟨none, 0, []⟩).xs.length ≤ 8), ho3.up HB2 HB2.size hg, ht.cap⟩)
  clear ht hl ho3
  go_wp2_with fail
  go_ret2
  exact ⟨p, A, n, c, _, _, rfl, HF.out.1, hn, HF.out.2.2.2, HF.out.2.1, HF.out.2.2.1⟩

theorem vTab_less {p : Int} {n : Nat} {L : Nat → Nat} {M : Nat → Nat → Int} (h : vTab p n L M = true) (hn : n ≠ 1) : vTab p (n - 1) L M = true := by
  obtain ⟨h1, h2, h3, h4⟩ := vTab_true.1 h
  have := inR_true.1 h2
  exact vTab_true.2 ⟨h1, inR_mk (by omega) (by omega), h3, fun i hi => h4 i (by omega)⟩

set_option maxHeartbeats 1000000 in
theorem fnValidTable_walk (a : Option Addr) (len cap : Nat) (zs : List Int) (w : World) (h : IsRow .u8 w a len cap zs) :
    Calls Try.prog 8 #[.slice a len cap] w fun e w' => e = .returned (.bool true) ∧ Below w.heap.size w w' := by
  have hlen : len ≤ 9223372036854775807 := by obtain ⟨h1, h2, _⟩ := bytes_in h; unfold maxLen at h2; omega
  have Hh := hide h
  clear h
  by_cases hl : 1048576 < len
  · go_enter Try.func8, Try.ntmps8
    go_wp2_with fail
    go_ret
    exact ⟨rfl, by go_grown⟩
  go_enter Try.func8, Try.ntmps8
  go_wp2_with fail
  refine (DrawValidTable_any a len cap zs w _ Hh.out (by go_grown)).mono ?_
  rintro e w1 ⟨p, A, n, c, L, M, rfl, hm, hn, hnc, hL, B1⟩
  have HM := hide (fun (W : World) (hb : Below w1.heap.size w1 W) => hm.keep hb hb.size)
  have HL := hide (fun i (hi : i < n) => Nat.le_trans (hL i hi) (show 8 ≤ 1048576 by omega))
  have I := hide (fun W hb => ValidTableI_any p A n c L M W (by omega) HL.out (HM.out W hb))
  have S := hide (fun W hb => ValidTableS_any p A n c L M W (by omega) HL.out (HM.out W hb))
  clear hm hL
  cases hv : vTab p n L M
  · rw [hv] at I S
    go_wp2_with fail
    refine (I.out _ (Below.refl _ _)).mono ?_
    rintro e w2 ⟨rfl, hb2⟩
    go_wp2_with fail
    refine (S.out _ hb2).mono ?_
    rintro e w3 ⟨rfl, hb3⟩
    have hc3 : Below w1.heap.size w1 w3 := up hb3 hb2 hb2.size
    go_wp2_with fail
    refine (S.out _ hc3).mono ?_
    rintro e w4 ⟨rfl, hb4⟩
    go_wp2_with fail
    go_ret
    exact ⟨rfl, up (up hb4 hc3 hc3.size) B1 B1.size⟩
  have hn1 : 1 ≤ n := by have := inR_true.1 (vTab_true.1 hv).2.1; omega
  rw [hv] at I S
  have HV := hide hv
  clear hv
  go_wp2_with fail
  refine (I.out _ (Below.refl _ _)).mono ?_
  rintro e w2 ⟨rfl, hb2⟩
  go_wp2_with fail
  refine (S.out _ hb2).mono ?_
  rintro e w3 ⟨rfl, hb3⟩
  have hc3 : Below w1.heap.size w1 w3 := up hb3 hb2 hb2.size
  by_cases h1 : n = 1
  · subst h1
    go_wp2_with fail
    go_ret
    exact ⟨rfl, up hc3 B1 B1.size⟩
  · have e1 : ((n : Int) == 1) = false := by simp; omega
    have HV2 := hide (vTab_less HV.out h1)
    have H1 := hide h1
    have HX := hide (ValidTableI_any p A (n - 1) c L M w3 (by omega) (fun i hi => HL.out i (by omega)) (fun h0 => by
      obtain ⟨b, off, e, hlt, hc⟩ := HM.out w3 hc3 (by omega)
      exact ⟨b, off, e, hlt, fun i hi => hc i (by omega)⟩))
    clear h1
    go_wp2_with fail
    refine (HX.out).mono ?_
    rintro e w4 ⟨rfl, hb4⟩
    rw [HV2.out]
    go_wp2_with fail
    go_ret
    exact ⟨rfl, up (up hb4 hc3 hc3.size) B1 B1.size⟩
end Go.Proofs.Ythafmoofemfdmaa
