/-
  The draws of tables. Conditions: the reader is one that newReader has made; the code is a slice of bytes that can be read.
-/
import Derived.Test.YthafmoofemfdmaaOwn3
import Derived.Deep.RegionWith
import Derived.Deep.DeepCutAuto
namespace Go.Proofs.Ythafmoofemfdmaa
open Go.RowKit

/-- what a draw of a table gives: a few rows of a few numbers each -/
def DrT (w : World) (g k : Nat) (w' : World) (e : Ending) : Prop := ∃ A n c R, e = .returned (.slice A n c) ∧ Tab w' w.heap.size A n c R ∧ (∀ r ∈ R, r.xs.length ≤ 8) ∧ n ≤ 8 ∧ Rd w' g k ∧ Only g w w'

set_option maxHeartbeats 4000000 in
theorem aTable_any (g k0 : Nat) (p : Int) (w : World) (h : Rd w g k0) (hk0 : k0 ≤ 1000) :
    Calls Try.prog 74 #[.pointer (some ⟨g, 0, none⟩), .int .i64 p, .int .i64 6] w fun e w' => DrT w g (k0 + 60) w' e := by
  have hg := h.lt
  go_enter Try.func74, Try.ntmps74
  go_wp2_with fail
  refine (pick_rd g k0 6 _ (h.alloc _) (by omega)).mono ?_
  rintro e w1 ⟨v1, rfl, hv1, hr1, ho1⟩
  have hn0 : 0 ≤ v1 ∧ v1 ≤ 5 := ⟨hv1.1, (by have := hv1.2.1 (by omega); omega)⟩
  clear hv1
  obtain ⟨n, rfl⟩ := Int.eq_ofNat_of_zero_le hn0.1
  have hz1 := ho1.size
  simp only [World.size_alloc] at hz1
  have T0 : TabD w1 w.heap.size w1.heap.size (some ⟨w.heap.size, 0, none⟩) 0 0 [] := (TabD.empty0 0 rfl (Nat.le_refl _)).only ho1 hg
  have HT0 := hide T0
  have hO1 : Only g w w1 := ((Only.refl g w).alloc _).trans ho1
  clear T0 ho1
  go_wp2_with fail
  refine (pick_rd g (k0 + 1) 6 _ hr1 (by omega)).mono ?_
  rintro e w2 ⟨v2, rfl, hv2, hr2, ho2⟩
  have hm0 : 0 ≤ v2 ∧ v2 ≤ 5 := ⟨hv2.1, (by have := hv2.2.1 (by omega); omega)⟩
  clear hv2
  obtain ⟨m, rfl⟩ := Int.eq_ofNat_of_zero_le hm0.1
  have hz2 := ho2.size
  have HT2 := hide ((HT0.out.only ho2 hg).mono (Nat.le_refl _) hz2)
  have hO2 := hO1.trans ho2
  clear ho2 hO1 hr1
  have hpm : (1 ≤ p ∧ 1 < p) ∨ p = 1 ∨ (p < 1 ∧ p ≤ 1) := by omega
  go_wp2_with fail
  go_loopw [7, 10] (fun v i wr => ∃ (k : Nat) (A : Option Addr) (c : Nat) (R : List Sl), k ≤ n + 1 ∧ i = .int .i64 k ∧ v = .slice A k c ∧ TabD wr w.heap.size wr.heap.size A k c R ∧ (∀ r ∈ R, r.xs.length = m + 1) ∧ Rd wr g (k0 + 2 + 7 * k) ∧ Only g w wr) (fun _ i _ => n + 1 - (intOf i).toNat)
  case atStart => exact ⟨0, _, _, [], by omega, rfl, rfl, HT2.out, by simp, hr2, hO2⟩
  case round =>
    obtain ⟨k, A, c, R, hk, rfl, rfl, ht, hl, hr, ho⟩ := hrel
    obtain ⟨wo, rfl⟩ : ∃ x, x = wr := ⟨_, rfl⟩
    have HT := hide ht
    have HL := hide hl
    clear ht hl HT0 HT2 hr2 hO2
    have hz := ho.size
    by_cases hlt : (k : Int) < 1 + n
    · go_wp2_with fail
      go_loopw [11, 12] (fun v i wr => ∃ (j : Nat) (A1 : Option Addr) (c1 : Nat) (xs : List Int), j ≤ m + 1 ∧ i = .int .i64 j ∧ v = .slice A1 j c1 ∧ Row wr wo.heap.size A1 j c1 xs ∧ Rd wr g (k0 + 2 + 7 * k + j) ∧ Only g wo wr) (fun _ i _ => m + 1 - (intOf i).toNat)
      case atStart => exact ⟨0, _, _, [], by omega, rfl, rfl, Row.lit (xs := []) (n := 0) rfl rfl (Nat.le_refl _), hr.alloc _, (Only.refl g wo).alloc _⟩
      case round =>
        obtain ⟨j, A1, c1, xs, hj, rfl, rfl, hrow, hri, hoi⟩ := hrel
        have hzi := hoi.size
        have Hrow := hide hrow
        clear hrow
        by_cases hlj : (j : Int) < 1 + m
        · rcases hpm with hp | rfl | hp
          all_goals
            go_wp2_with fail
            refine (pick_rd g _ _ _ hri (by omega)).mono ?_
            rintro e w3 ⟨y, rfl, hy, hr3, ho3⟩
            have Hrow3 := hide (Hrow.out.only ho3 (by omega))
            have hz3 := ho3.size
            clear hy
            go_wp2_with (at_builtin; refine push_int rfl _ _ rfl xs rfl Hrow3.out y _ rfl (by omega) (by omega) ?_; intro A2 c2 w4 hr4 hb4 hg4 hat4)
            have HF := hide (show _ ∧ _ ∧ _ from ⟨hr4, Rd.grown hr3 hg4 (fun b hb => by have := (Hrow3.out.blk b hb).1; omega), (hoi.trans ho3).of_grown hg4 (fun b hb => (Hrow3.out.blk b hb).1)⟩)
            clear hr4 hb4 hg4 hat4
            go_roundw
            case rel => first | exact ⟨j + 1, A2, c2, _, by omega, by go_num, rfl, HF.out.1, HF.out.2.1.mono (by omega), HF.out.2.2⟩ | ((repeat apply Exists.intro); exact ⟨⟨j + 1, A2, c2, _, by omega, by go_num, rfl, HF.out.1, HF.out.2.1.mono (by omega), HF.out.2.2⟩, rfl⟩)
            case measure => simp [intOf]; omega
        · obtain rfl : j = m + 1 := by omega
          have hT1 := hide (HT.out.only hoi (by omega))
          have hO3 := ho.trans hoi
          by_cases hk1 : k = 0
          · subst hk1
            go_wp2_with (at_builtin; refine push_row rfl _ _ rfl R rfl hT1.out.tab A1 (m + 1) c1 xs (Hrow.out.mono hz) _ rfl (by omega) (by omega) ?_; intro A2 c2 w2 ht2 hb2 hg2 hat2)
            have hz2 := hb2.size
            have HG := hide (show _ ∧ _ ∧ _ from ⟨hT1.out.push (top' := w2.heap.size) (Hrow.out) ht2 (by omega) (fun q hq => by have := (Hrow.out.blk q (by rw [ownBlock_slice]; exact hq)).2; omega), Rd.grown hri hg2 (fun b hb => by have := (hT1.out.tab.blk b hb).1; omega), hO3.of_grown hg2 (fun b hb => (hT1.out.tab.blk b hb).1)⟩)
            clear ht2 hb2 hg2 hat2
            go_roundw
            case rel => first | exact ⟨0 + 1, _, _, _, by omega, by go_num, rfl, HG.out.1, fun r hr => by
              rw [List.mem_append, List.mem_singleton] at hr
              rcases hr with hr | rfl
              · exact HL.out r hr
              · exact Hrow.out.1, HG.out.2.1.mono (by omega), HG.out.2.2⟩ | ((repeat apply Exists.intro); exact ⟨⟨0 + 1, _, _, _, by omega, by go_num, rfl, HG.out.1, fun r hr => by
              rw [List.mem_append, List.mem_singleton] at hr
              rcases hr with hr | rfl
              · exact HL.out r hr
              · exact Hrow.out.1, HG.out.2.1.mono (by omega), HG.out.2.2⟩, rfl⟩)
            case measure => simp [intOf] <;> omega
          · have hk2 : (0 : Int) < k := by omega
            go_wp2_with fail
            refine (pick_rd g _ _ _ hri (by omega)).mono ?_
            rintro e w3 ⟨v, rfl, hv, hr3, ho3⟩
            have Hrow3 := hide (Hrow.out.only ho3 (by omega))
            have hT3 := hide (hT1.out.only ho3 (by omega))
            have hO4 := hO3.trans ho3
            have hO5 := hoi.trans ho3
            have hz3 := ho3.size
            clear hv ho3 hoi hri
            by_cases v0 : v = 0
            · subst v0
              obtain ⟨bo, r, rfl, q1, q2, hrk, hck, hfk, hrowk⟩ := hT3.out.tab.at_ (i := k - 1) (by omega)
              have hlk := HL.out r (List.mem_of_getElem? hrk)
              rw [hlk] at hck hrowk
              have HK := hide hrowk
              clear hrk hlk hrowk
              go_wp2_with (first | (at_builtin; refine push_copy rfl _ _ rfl rfl (Row.lit (xs := []) (n := 0) (base := wo.heap.size) rfl rfl (by omega)) r.xs (HK.out.alloc _) (by omega) rfl (by omega) (by simp; omega) ?_; intro A4 c4 w4 hr4 hb4 hg4; have HF := hide (show _ ∧ _ ∧ _ from ⟨hr4, Rd.grown (hr3.alloc _) hg4 (fun b hb => by simp [Value.ownBlock] at hb; omega), (hO5.alloc _).of_grown hg4 (fun b hb => by simp [Value.ownBlock] at hb; omega)⟩); have z4 := hb4.size; simp only [World.size_alloc] at z4; have hT4 := hide (HT.out.only HF.out.2.2 (by omega)); have hOO := hide (ho.trans HF.out.2.2); clear hr4 hb4 hg4) | (at_builtin; refine push_row rfl _ _ rfl R rfl hT4.out.tab A4 (m + 1) c4 r.xs (HF.out.1.mono hz) _ rfl (by omega) (by omega) ?_; intro A9 c9 w9 ht9 hb9 hg9 hat9))
              have hz9 := hb9.size
              have HG := hide (show _ ∧ _ ∧ _ from ⟨hT4.out.push (top' := w9.heap.size) (HF.out.1) ht9 (by omega) (fun q hq => by have := (HF.out.1.blk q (by rw [ownBlock_slice]; exact hq)).2; omega), Rd.grown HF.out.2.1 hg9 (fun b hb => by have := (hT4.out.tab.blk b hb).1; omega), hOO.out.of_grown hg9 (fun b hb => (hT4.out.tab.blk b hb).1)⟩)
              clear ht9 hb9 hg9 hat9
              go_roundw
              case rel => first | exact ⟨k + 1, _, _, _, by omega, by go_num, rfl, HG.out.1, fun r hr => by
                rw [List.mem_append, List.mem_singleton] at hr
                rcases hr with hr | rfl
                · exact HL.out r hr
                · exact (HK.out.1), HG.out.2.1.mono (by omega), HG.out.2.2⟩ | ((repeat apply Exists.intro); exact ⟨⟨k + 1, _, _, _, by omega, by go_num, rfl, HG.out.1, fun r hr => by
                rw [List.mem_append, List.mem_singleton] at hr
                rcases hr with hr | rfl
                · exact HL.out r hr
                · exact (HK.out.1), HG.out.2.1.mono (by omega), HG.out.2.2⟩, rfl⟩)
              case measure => simp [intOf]; omega
            · have v1 : (v == 0) = false := by simp [v0]
              go_wp2_with (at_builtin; refine push_row rfl _ _ rfl R rfl hT3.out.tab A1 (m + 1) c1 xs (Hrow3.out.mono hz) _ rfl (by omega) (by omega) ?_; intro A9 c9 w9 ht9 hb9 hg9 hat9)
              have hz9 := hb9.size
              have HG := hide (show _ ∧ _ ∧ _ from ⟨hT3.out.push (top' := w9.heap.size) (Hrow3.out) ht9 (by omega) (fun q hq => by have := (Hrow3.out.blk q (by rw [ownBlock_slice]; exact hq)).2; omega), Rd.grown hr3 hg9 (fun b hb => by have := (hT3.out.tab.blk b hb).1; omega), hO4.of_grown hg9 (fun b hb => (hT3.out.tab.blk b hb).1)⟩)
              clear ht9 hb9 hg9 hat9
              go_roundw
              case rel => first | exact ⟨k + 1, _, _, _, by omega, by go_num, rfl, HG.out.1, fun r hr => by
                rw [List.mem_append, List.mem_singleton] at hr
                rcases hr with hr | rfl
                · exact HL.out r hr
                · exact Hrow3.out.1, HG.out.2.1.mono (by omega), HG.out.2.2⟩ | ((repeat apply Exists.intro); exact ⟨⟨k + 1, _, _, _, by omega, by go_num, rfl, HG.out.1, fun r hr => by
                rw [List.mem_append, List.mem_singleton] at hr
                rcases hr with hr | rfl
                · exact HL.out r hr
                · exact Hrow3.out.1, HG.out.2.1.mono (by omega), HG.out.2.2⟩, rfl⟩)
              case measure => simp [intOf]; omega
    · obtain rfl : k = n + 1 := by omega
      clear hpm
      go_wp2_with fail
      refine (pick_rd g _ _ _ hr (by omega)).mono ?_
      rintro e w2 ⟨v, rfl, hv, hr2, ho2⟩
      have hT2 := hide (HT.out.only ho2 (by omega))
      clear hv
      have hzz : wo.heap.size ≤ w2.heap.size := ho2.size
      obtain ⟨bo, r0, rfl, q1, q2, hr0, hc0, hf0, hrow0⟩ := hT2.out.tab.at_ (i := 0) (by omega)
      have hl0 := HL.out r0 (List.mem_of_getElem? hr0)
      obtain ⟨b0, e0, p1, p2, d0, g0, hset0⟩ := hT2.out.setIn hr0 (j := 0) (by omega)
      rw [hl0, e0] at hc0
      have HS0 := hide hset0
      have HR0 := hide hr0
      have HE0 := hide e0
      have HL0 := hide hl0
      have HW0 := hide hrow0
      have hR2 := hr2.mono (k' := k0 + 50) (by omega)
      have hO2 := ho.trans ho2
      clear hset0 hr0 e0 hl0 hrow0 hr hr2 ho ho2
      by_cases v0 : v = 0
      · subst v0
        go_wp2_with fail
        go_ret
        exact ⟨_, 0, _, [], rfl, Tab.empty0 0 rfl (by omega), by simp, by omega, (hR2.alloc _).mono (by omega), hO2.alloc _⟩
      have w0 : (v == 0) = false := by simp [v0]
      by_cases v1 : v = 1
      · subst v1
        have hrow := HW0.out
        rw [HL0.out, HE0.out] at hrow
        have HW := hide hrow
        clear hrow
        have PUT := hide (fun (A2 : Option Addr) (c2 : Nat) (w3 : World) (hr3 : Row w3 w.heap.size A2 (m + 1 + 1) c2 (r0.xs ++ [0])) (hb3 : Below w.heap.size w2 w3) (hg3 : w2.grownBy w3 (Value.slice (some ⟨b0, 0, none⟩) (m + 1) r0.c).ownBlock) => (by
          obtain ⟨bq, eq, s1, s2, hcq, hfq, htab⟩ := hT2.out.putRow HR0.out (by rw [Sl.blk, HE0.out]; exact hg3) ⟨A2, c2, r0.xs ++ [0]⟩ (by dsimp only; rw [hr3.1]; exact hr3)
          obtain rfl : bo = bq := by simpa using eq
          dsimp only at htab
          rw [hr3.1] at htab
          exact ⟨⟨_, hcq⟩, hfq, htab, hr3.1, Rd.grown hR2 hg3 (fun b hb => by have := (HW.out.blk b hb).1; omega), hO2.of_grown hg3 (fun b hb => (HW.out.blk b hb).1)⟩ :
            (∃ v, w3.cell? ⟨bo, 0, none⟩ = some v) ∧ w3.frozen? ⟨bo, 0, none⟩ = false ∧ Tab (w3.setCell ⟨bo, 0, none⟩ (.slice A2 (m + 1 + 1) c2)) w.heap.size (some ⟨bo, 0, none⟩) (n + 1) c (R.set 0 ⟨A2, c2, r0.xs ++ [0]⟩) ∧ (r0.xs ++ [0]).length = m + 1 + 1 ∧ Rd w3 g (k0 + 50) ∧ Only g w w3))
        go_wp2_with (at_builtin; refine push_int rfl _ _ rfl r0.xs rfl HW.out 0 _ rfl (by omega) (by omega) ?_; intro A2 c2 w3 hr3 hb3 hg3 hat3; have HF := hide (PUT.out A2 c2 w3 hr3 hb3 hg3).2.2; have z3 := hb3.size; obtain ⟨⟨vq, hcq⟩, hfq, _⟩ := PUT.out A2 c2 w3 hr3 hb3 hg3; clear hr3 hb3 hg3 hat3)
        go_ret
        exact ⟨_, _, _, _, rfl, HF.out.1, lens_set HL.out (by omega) (by dsimp only; rw [HF.out.2.1]; omega), by omega, (HF.out.2.2.1.set1 (p := ⟨bo, 0, none⟩) (by dsimp only; omega) _).mono (by omega), HF.out.2.2.2.setCell (.inr (by dsimp only; omega)) _⟩
      have w1' : (v == 1) = false := by simp [v1]
      by_cases v2 : v = 2
      · subst v2
        go_wp2_with fail
        go_region_with (go_at_call 65; refine (one_lit g (k0 + 50) [-1, p] _ 2 2 w2.drew _ hR2.drew rfl rfl (by omega) (by omega) (by omega)).mono ?_; rintro e w3 ⟨x, hx, rfl, hr3, ho3'⟩; have ho3 : Only g w2 w3 := ⟨ho3'.os, ho3'.tape, ho3'.output, ho3'.size, ho3'.block⟩; have hz3 : w2.heap.size ≤ w3.heap.size := ho3.size; have o3 := (ho3.cells.1 bo 0 q2 (by omega)).trans hc0; have d3 := (ho3.cells.1 b0 0 p2 (by omega)).trans d0; have g3 := (ho3.cells.2 b0 0 p2 (by omega)).trans g0)
        all_goals
          have HF := hide (show _ ∧ _ from ⟨ho3, hr3⟩)
          clear hx ho3 ho3' hr3
          go_wp2_with fail
          go_ret
          obtain ⟨b9, e9, _, _, _, _, hs9⟩ := (hT2.out.only HF.out.1 (by omega)).setIn HR0.out (j := 0) (by have := HL0.out; omega)
          rw [HE0.out] at e9
          obtain rfl : b0 = b9 := by simpa using e9
          exact ⟨_, _, _, _, rfl, by first | exact (hs9 x).tab | exact (hs9 x).tab.drew, lens_set HL.out (by omega) (by simp [HL0.out]; omega), by omega, by first | exact (HF.out.2.set1 (p := ⟨b0, 0, none⟩) (by dsimp only; omega) _).mono (by omega) | exact ((HF.out.2.set1 (p := ⟨b0, 0, none⟩) (by dsimp only; omega) _).mono (by omega)).drew, by first | exact (hO2.trans HF.out.1).setCell (.inr (by dsimp only; omega)) _ | exact ((hO2.trans HF.out.1).setCell (.inr (by dsimp only; omega)) _).drew⟩
      have w2' : (v == 2) = false := by simp [v2]
      have V := hide (⟨v0, v1, v2⟩ : _ ∧ _ ∧ _)
      clear v0 v1 v2
      go_wp2_with fail
      go_ret
      exact ⟨_, _, _, _, rfl, hT2.out.tab, fun r hr => by have := HL.out r hr; omega, by omega, hR2.mono (by omega), hO2⟩
end Go.Proofs.Ythafmoofemfdmaa
