/-
  The draws of nets. Conditions: the reader is one that newReader has made; the code is a slice of bytes that can be read.
-/
import Derived.Test.YtecmihmopiepfaaOwn3
import Derived.Deep.RegionWith
import Derived.Deep.DeepCutAuto

namespace Go.Proofs.Ytecmihmopiepfaa
open Go.RowKit

/-- what a draw of rows gives: a few rows of a few numbers each -/
def DrM (w : World) (g k : Nat) (w' : World) (e : Ending) : Prop := ∃ A n c R, e = .returned (.slice A n c) ∧ Tab w' w.heap.size A n c R ∧ (∀ r ∈ R, r.xs.length ≤ 8) ∧ (1 ≤ n ∧ n ≤ 8) ∧ Rd w' g k ∧ Only g w w'

set_option maxHeartbeats 2000000 in
theorem someNet_any (g : Nat) (w : World) (h : Rd w g 0) :
    Calls Try.prog 41 #[.pointer (some ⟨g, 0, none⟩)] w fun e w' => DrM w g 60 w' e := by
  have hg := h.lt
  go_enter Try.func41, Try.ntmps41
  go_wp2_with fail
  refine (one_lit g 0 [4, 5, 6, 3, 2] _ 5 5 w _ h rfl rfl (by omega) (by omega) (by omega)).mono ?_
  rintro e w1 ⟨v, hv, rfl, hr1, ho1⟩
  have hn : 2 ≤ v ∧ v ≤ 6 := by simp at hv; omega
  clear hv
  obtain ⟨n, rfl⟩ := Int.eq_ofNat_of_zero_le (show 0 ≤ v by omega)
  have hz1 : w.heap.size ≤ w1.heap.size := ho1.size
  have hmk := run_make_row' (P := Try.prog) 26 3 (.int .i64 0) 8 Try.underlying26 info_int rfl .i64 .i64 n (by omega) (by omega)
  go_wp2_with fail
  go_loopw [4, 5] (fun v i wr => ∃ (k : Nat) (A : Option Addr) (c : Nat) (R : List Sl), k ≤ n ∧ i = .int .i64 k ∧ v = .slice A k c ∧ TabD wr w.heap.size wr.heap.size A k c R ∧ (∀ r ∈ R, r.xs.length = n) ∧ Rd wr g (1 + 7 * k) ∧ Only g w wr) (fun _ i _ => n - (intOf i).toNat)
  case atStart => exact ⟨0, _, _, [], by omega, rfl, rfl, TabD.empty0 0 rfl hz1, by simp, hr1.alloc _, ho1.alloc _⟩
  case round =>
    obtain ⟨k, A, c, R, hk, rfl, rfl, ht, hl, hr, ho⟩ := hrel
    obtain ⟨wo, rfl⟩ : ∃ x, x = wr := ⟨_, rfl⟩
    have HT := hide ht
    have HL := hide hl
    clear ht hl
    have hz := ho.size
    by_cases hlt : k < n
    · go_wp2_with fail
      clear hmk
      go_loopw [7] (fun i wr => ∃ (b : Nat) (xs : List Int), k + 1 ≤ b ∧ b ≤ n ∧ i = .int .i64 b ∧ Row wr wo.heap.size (some ⟨wo.heap.size, 0, none⟩) n n xs ∧ Rd wr g (1 + 7 * k + (b - k - 1)) ∧ Only g wo wr) (fun i _ => n - (intOf i).toNat)
      case atStart => exact ⟨k + 1, _, by omega, by omega, by go_num, Row.zeros n (Nat.le_refl _), (hr.alloc _).mono (by omega), (Only.refl g wo).alloc _⟩
      case round =>
        obtain ⟨b, xs, hb1, hb2, rfl, hrow, hri, hoi⟩ := hrel
        have hzi := hoi.size
        by_cases hlb : b < n
        · have Hrow := hide hrow
          clear hrow
          go_wp2_with fail
          refine (one_lit g _ [0, 1, 2, 0, 3, 1, 5] _ 7 7 wr _ hri rfl rfl (by omega) (by omega) (by omega)).mono ?_
          rintro e wj ⟨x, hx, rfl, hrj, hoj⟩
          clear hx
          obtain ⟨b0, e0, q1, q2, q3, q4, q5⟩ := (Hrow.out.only hoj (by omega)).at_ hlb
          have e0' : wo.heap.size = b0 := by simpa using e0
          subst e0'
          have Q := hide q5
          clear q5 e0
          go_wp2_with fail
          go_roundw
          case rel => exact ⟨b + 1, _, by omega, by omega, by go_num, Q.out _, (hrj.set1 (p := ⟨wo.heap.size, b, none⟩) (by dsimp only; omega) _).mono (by omega), (hoi.trans hoj).setCell (.inr (by dsimp only; omega)) _⟩
          case measure => simp [intOf]; omega
        · obtain rfl : b = n := by omega
          have hT1 := hide (HT.out.only hoi (by omega))
          have Hrow := hide hrow
          clear hrow
          go_wp2_with (at_builtin; refine push_row rfl _ _ rfl R rfl hT1.out.tab (some ⟨wo.heap.size, 0, none⟩) b b xs (Hrow.out.mono hz) _ rfl (by omega) (by omega) ?_; intro A2 c2 w2 ht2 hb2 hg2 hat2)
          have hz2 := hb2.size
          have HG := hide (show _ ∧ _ ∧ _ from ⟨hT1.out.push (top' := w2.heap.size) (Hrow.out) ht2 (by omega) (fun k hk => by simp at hk; have := (Hrow.out.blk wo.heap.size rfl).2; omega), Rd.grown hri hg2 (fun b hb => by have := (hT1.out.tab.blk b hb).1; omega), (ho.trans hoi).of_grown hg2 (fun b hb => (hT1.out.tab.blk b hb).1)⟩)
          clear ht2 hb2 hg2 hat2
          go_wp2_with fail
          go_roundw
          case rel => exact ⟨k + 1, _, _, _, by omega, by go_num, rfl, HG.out.1, fun r hr => by
            rw [List.mem_append, List.mem_singleton] at hr
            rcases hr with hr | rfl
            · exact HL.out r hr
            · exact Hrow.out.1, HG.out.2.1.mono (by omega), HG.out.2.2⟩
          case measure => simp [intOf]; omega
    · obtain rfl : k = n := by omega
      clear hmk
      go_wp2_with fail
      refine (pick_rd g _ _ _ hr (by omega)).mono ?_
      rintro e w2 ⟨v, rfl, hv, hr2, ho2⟩
      have hT2 := hide (HT.out.only ho2 (by omega))
      clear hv
      have hzz : wo.heap.size ≤ w2.heap.size := ho2.size
      obtain ⟨bo, r0, rfl, q1, q2, hr0, hc0, hf0, hrow0⟩ := hT2.out.tab.at_ (i := 0) (by omega)
      obtain ⟨bo', r1, eb, _, _, hr1', hc1, hf1, hrow1⟩ := hT2.out.tab.at_ (i := 1) (by omega)
      obtain rfl : bo = bo' := by simpa using eb
      have hl0 := HL.out r0 (List.mem_of_getElem? hr0)
      have hl1 := HL.out r1 (List.mem_of_getElem? hr1')
      obtain ⟨b0, e0, p1, p2, d0, g0, hset0⟩ := hT2.out.setIn hr0 (j := k - 1) (by omega)
      obtain ⟨b1, e1, p3, p4, d1, g1, hset1⟩ := hT2.out.setIn hr1' (j := 0) (by omega)
      rw [hl0] at hc0
      rw [hl1] at hc1
      rw [e0] at hc0
      rw [e1] at hc1
      have HS0 := hide hset0
      have HS1 := hide hset1
      have HR0 := hide hr0
      have HE0 := hide e0
      have HL0 := hide hl0
      have HL1 := hide hl1
      have HW0 := hide hrow0
      have hR2 := hr2.mono (k' := 50) (by omega)
      have hO2 := ho.trans ho2
      clear hset0 hset1 hr0 e0 e1 hl0 hl1 hrow0 hrow1 hr1' eb hr hr2 ho ho2
      by_cases v0 : v = 0
      · subst v0
        go_wp2_with fail
        go_ret
        exact ⟨_, _, _, _, rfl, (HS1.out 1).tab, lens_set HL.out (by omega) (by simp [HL1.out]; omega), by omega, (hR2.set1 (p := ⟨b1, 0, none⟩) (by dsimp only; omega) _).mono (by omega), hO2.setCell (.inr (by dsimp only; omega)) _⟩
      have w0 : (v == 0) = false := by simp [v0]
      by_cases v1 : v = 1
      · subst v1
        have hrow := HW0.out
        rw [HL0.out, HE0.out] at hrow
        have HW := hide hrow
        clear hrow
        have PUT := hide (fun (A2 : Option Addr) (c2 : Nat) (w3 : World) (hr3 : Row w3 w.heap.size A2 (k + 1) c2 (r0.xs ++ [0])) (hb3 : Below w.heap.size w2 w3) (hg3 : w2.grownBy w3 (Value.slice (some ⟨b0, 0, none⟩) k r0.c).ownBlock) => (by
          obtain ⟨bq, eq, s1, s2, hcq, hfq, htab⟩ := hT2.out.putRow HR0.out (by rw [Sl.blk, HE0.out]; exact hg3) ⟨A2, c2, r0.xs ++ [0]⟩ (by dsimp only; rw [hr3.1]; exact hr3)
          obtain rfl : bo = bq := by simpa using eq
          dsimp only at htab
          rw [hr3.1] at htab
          exact ⟨⟨_, hcq⟩, hfq, htab, hr3.1, Rd.grown hR2 hg3 (fun b hb => by have := (HW.out.blk b hb).1; omega), hO2.of_grown hg3 (fun b hb => (HW.out.blk b hb).1)⟩ :
            (∃ v, w3.cell? ⟨bo, 0, none⟩ = some v) ∧ w3.frozen? ⟨bo, 0, none⟩ = false ∧ Tab (w3.setCell ⟨bo, 0, none⟩ (.slice A2 (k + 1) c2)) w.heap.size (some ⟨bo, 0, none⟩) k c (R.set 0 ⟨A2, c2, r0.xs ++ [0]⟩) ∧ (r0.xs ++ [0]).length = k + 1 ∧ Rd w3 g 50 ∧ Only g w w3))
        go_wp2_with (at_builtin; refine push_int rfl _ _ rfl r0.xs rfl HW.out 0 _ rfl (by omega) (by omega) ?_; intro A2 c2 w3 hr3 hb3 hg3 hat3; have HF := hide (PUT.out A2 c2 w3 hr3 hb3 hg3).2.2; have z3 := hb3.size; obtain ⟨⟨vq, hcq⟩, hfq, _⟩ := PUT.out A2 c2 w3 hr3 hb3 hg3; clear hr3 hb3 hg3 hat3)
        go_ret
        exact ⟨_, _, _, _, rfl, HF.out.1, lens_set HL.out (by omega) (by dsimp only; rw [HF.out.2.1]; omega), by omega, (HF.out.2.2.1.set1 (p := ⟨bo, 0, none⟩) (by dsimp only; omega) _).mono (by omega), HF.out.2.2.2.setCell (.inr (by dsimp only; omega)) _⟩
      have w1' : (v == 1) = false := by simp [v1]
      by_cases v2 : v = 2
      · subst v2
        go_wp2_with fail
        go_region_with (go_at_call 51; refine (one_lit g 50 [-1, 21, 20] _ 3 3 w2.drew _ hR2.drew rfl rfl (by omega) (by omega) (by omega)).mono ?_; rintro e w3 ⟨x, hx, rfl, hr3, ho3'⟩; have ho3 : Only g w2 w3 := ⟨ho3'.os, ho3'.tape, ho3'.output, ho3'.size, ho3'.block⟩; have hz3 : w2.heap.size ≤ w3.heap.size := ho3.size; have o3 := (ho3.cells.1 bo 0 q2 (by omega)).trans hc0; have d3 := (ho3.cells.1 b0 (k - 1) p2 (by omega)).trans d0; have g3 := (ho3.cells.2 b0 (k - 1) p2 (by omega)).trans g0)
        all_goals
          have HF := hide (show _ ∧ _ from ⟨ho3, hr3⟩)
          clear hx ho3 ho3' hr3
          go_wp2_with fail
          go_ret
          obtain ⟨b9, e9, _, _, _, _, hs9⟩ := (hT2.out.only HF.out.1 (by omega)).setIn HR0.out (j := k - 1) (by have := HL0.out; omega)
          rw [HE0.out] at e9
          obtain rfl : b0 = b9 := by simpa using e9
          exact ⟨_, _, _, _, rfl, by first | exact (hs9 x).tab | exact (hs9 x).tab.drew, lens_set HL.out (by omega) (by simp [HL0.out]; omega), by omega, by first | exact (HF.out.2.set1 (p := ⟨b0, k - 1, none⟩) (by dsimp only; omega) _).mono (by omega) | exact ((HF.out.2.set1 (p := ⟨b0, k - 1, none⟩) (by dsimp only; omega) _).mono (by omega)).drew, by first | exact (hO2.trans HF.out.1).setCell (.inr (by dsimp only; omega)) _ | exact ((hO2.trans HF.out.1).setCell (.inr (by dsimp only; omega)) _).drew⟩
      have w2' : (v == 2) = false := by simp [v2]
      by_cases v3 : v = 3
      · subst v3
        go_wp2_with fail
        go_ret
        exact ⟨_, _, _, [⟨some ⟨w2.heap.size, 0, none⟩, 1, [0]⟩], rfl, (by simpa using Tab.one (w := w2.alloc _) (Row.lit (cs := #[.int .i64 0]) (xs := [0]) (n := 1) (base := w.heap.size) rfl rfl (by omega)) (by simp; omega)), (fun r hr => by rw [List.mem_singleton] at hr; subst hr; simp), by omega, ((hR2.alloc _).alloc _).mono (by omega), (hO2.alloc _).alloc _⟩
      have w3' : (v == 3) = false := by simp [v3]
      have V := hide (⟨v0, v1, v2, v3⟩ : _ ∧ _ ∧ _ ∧ _)
      clear v0 v1 v2 v3
      go_wp2_with fail
      go_ret
      exact ⟨_, _, _, _, rfl, hT2.out.tab, fun r hr => by have := HL.out r hr; omega, by omega, hR2.mono (by omega), hO2⟩
end Go.Proofs.Ytecmihmopiepfaa
