/-
  The draw of arrays. Conditions: the reader is one that newReader has made; the code is a slice of bytes that can be read.
-/
import Derived.Test.YtkalecdjcdgodaaOwn3
import Derived.Deep.RegionWith
import Derived.Deep.DeepCutAuto
namespace Go.Proofs.Ytkalecdjcdgodaa
open Go.RowKit

/-- what a draw of an array gives: a number, a few rows of a few numbers each -/
def DrA (w : World) (g k : Nat) (w' : World) (e : Ending) : Prop := ∃ (p : Int) (A : Option Addr) (n c : Nat) (R : List Sl), e = .returned (.tuple #[.int .i64 p, .slice A n c]) ∧ Tab w' w.heap.size A n c R ∧ (∀ r ∈ R, r.xs.length ≤ 8) ∧ (1 ≤ n ∧ n ≤ 8) ∧ Rd w' g k ∧ Only g w w'
set_option maxHeartbeats 4000000 in
theorem anArray_any (g : Nat) (w : World) (h : Rd w g 0) :
    Calls Try.prog 72 #[.pointer (some ⟨g, 0, none⟩)] w fun e w' => DrA w g 60 w' e := by
  have hg := h.lt
  go_enter Try.func72, Try.ntmps72
  go_wp2_with fail
  refine (one_lit g 0 [3, 5, 5, 3] _ 4 4 w _ h rfl rfl (by omega) (by omega) (by omega)).mono ?_
  rintro e w1 ⟨v, hv, rfl, hr1, ho1⟩
  have hp : v = 3 ∨ v = 5 := by simp at hv; omega
  clear hv
  have hz1 : w.heap.size ≤ w1.heap.size := ho1.size
  rcases hp with rfl | rfl
  · go_wp2_with fail
    go_loopw [5, 6] (fun v i wr => ∃ (k : Nat) (A : Option Addr) (c : Nat) (R : List Sl), k ≤ 2 ∧ i = .int .i64 k ∧ v = .slice A k c ∧ TabD wr w.heap.size wr.heap.size A k c R ∧ (∀ r ∈ R, r.xs.length = 2) ∧ Rd wr g (1 + 5 * k) ∧ Only g w wr) (fun _ i _ => 2 - (intOf i).toNat)
    case atStart => exact ⟨0, _, _, [], by omega, rfl, rfl, TabD.empty0 0 rfl hz1, by simp, hr1.alloc _, ho1.alloc _⟩
    case round =>
      obtain ⟨k, A, c, R, hk, rfl, rfl, ht, hl, hr, ho⟩ := hrel
      obtain ⟨wo, hwo⟩ : ∃ x, x = wr := ⟨_, rfl⟩
      rw [← hwo] at ht hr ho
      rw [← hwo]
      clear hwo
      have HT := hide ht
      have HL := hide hl
      clear ht hl
      have hz := ho.size
      by_cases hlt : k < 2
      · have hkI : (k : Int) < 2 := by omega
        go_wp2_with fail
        go_loopw [7, 8] (fun v i wr => ∃ (j : Nat) (A3 : Option Addr) (c3 : Nat) (xs : List Int), j ≤ 2 ∧ i = .int .i64 j ∧ v = .slice A3 j c3 ∧ Row wr wo.heap.size A3 j c3 xs ∧ Rd wr g (1 + 5 * k + j) ∧ Only g wo wr) (fun _ i _ => 2 - (intOf i).toNat)
        case atStart => exact ⟨0, _, _, [], by omega, rfl, rfl, Row.lit (xs := []) rfl rfl (Nat.le_refl _), hr.alloc _, (Only.refl g wo).alloc _⟩
        case round =>
          obtain ⟨j, A3, c3, xs, hj, rfl, rfl, hrow, hri, hoi⟩ := hrel
          have Hrow := hide hrow
          have hzi := hoi.size
          clear hrow
          by_cases hjq : j < 2
          · have hjI : (j : Int) < 2 := by omega
            go_wp2_with fail
            refine (pick_rd g _ _ _ hri (by omega)).mono ?_
            rintro e wj ⟨x, rfl, hx, hrj, hoj⟩
            have Hrow2 := hide (Hrow.out.only hoj (by omega))
            have hzj : wr.heap.size ≤ wj.heap.size := hoj.size
            clear hx
            go_wp2_with (at_builtin; refine push_int rfl _ _ rfl xs rfl Hrow2.out _ _ rfl (by omega) (by omega) ?_; intro A2 c2 w6 hr6 hb6 hg6 hat6; have HF := hide (show _ ∧ _ ∧ _ from ⟨hr6, Rd.grown hrj hg6 (fun b hb => by have := (Hrow2.out.blk b hb).1; omega), (hoi.trans hoj).of_grown hg6 (fun b hb => (Hrow2.out.blk b hb).1)⟩); clear hr6 hb6 hg6 hat6)
            go_roundw
            case rel => exact ⟨j + 1, _, _, _, by omega, by go_num, rfl, HF.out.1, HF.out.2.1.mono (by omega), HF.out.2.2⟩
            case measure => simp [intOf]; omega
          · obtain rfl : j = 2 := by omega
            have hT1 := hide (HT.out.only hoi (by omega))
            go_wp2_with (at_builtin; refine push_row rfl _ _ rfl R rfl hT1.out.tab A3 2 c3 xs (Hrow.out.mono hz) _ rfl (by omega) (by omega) ?_; intro A2 c2 w2 ht2 hb2 hg2 hat2; have hz2 := hb2.size; have HG := hide (show _ ∧ _ ∧ _ from ⟨hT1.out.push (top' := w2.heap.size) (Hrow.out) ht2 (by omega) (fun k hk => by have := (Hrow.out.blk k (by rw [ownBlock_slice]; exact hk)).2; omega), Rd.grown hri hg2 (fun b hb => by have := (hT1.out.tab.blk b hb).1; omega), (ho.trans hoi).of_grown hg2 (fun b hb => (hT1.out.tab.blk b hb).1)⟩); clear ht2 hb2 hg2 hat2)
            go_roundw
            case rel => exact ⟨k + 1, _, _, _, by omega, by go_num, rfl, HG.out.1, fun r hr => by
              rw [List.mem_append, List.mem_singleton] at hr
              rcases hr with hr | rfl
              · exact HL.out r hr
              · exact Hrow.out.1, HG.out.2.1.mono (by omega), HG.out.2.2⟩
            case measure => simp [intOf]; omega
      · obtain rfl : k = 2 := by omega
        go_wp2_with fail
        refine (pick_rd g _ _ _ hr (by omega)).mono ?_
        rintro e w2 ⟨v, rfl, hv, hr2, ho2⟩
        have hT2 := hide (HT.out.only ho2 (by omega))
        clear hv
        have hzz : wo.heap.size ≤ w2.heap.size := ho2.size
        have HRd := hide (hr2.mono (k' := 50) (by omega))
        have HO2 := hide (ho.trans ho2)
        have HLL := hide (show ∀ r ∈ R, r.xs.length ≤ 8 from fun r hr => by rw [HL.out r hr]; omega)
        clear hr2 ho2 hr
        by_cases v0 : v = 0
        · subst v0
          go_wp2_with fail
          refine (one_lit g _ [4, 7, 2] _ 3 3 w2 _ HRd.out rfl rfl (by omega) (by omega) (by omega)).mono ?_
          rintro e w3 ⟨x, _, rfl, hr3, ho3⟩
          have HX := hide (show _ ∧ _ ∧ _ from ⟨(hT2.out.only ho3 (by omega)).tab, hr3.mono (k' := 60) (by omega), HO2.out.trans ho3⟩)
          clear hr3 ho3
          go_wp2_with fail
          go_ret2
          exact ⟨_, _, _, _, _, rfl, HX.out.1, HLL.out, by omega, HX.out.2.1, HX.out.2.2⟩
        have w0 : (v == 0) = false := by simp [v0]
        by_cases v1 : v = 1
        · subst v1
          obtain ⟨bo, r0, rfl, q1, q2, hr0, hc0, hf0, hrow0⟩ := hT2.out.tab.at_ (i := 0) (by omega)
          have hl0 := HL.out r0 (List.mem_of_getElem? hr0)
          obtain ⟨b0, e0, p1, p2, d0, g0, hset0⟩ := hT2.out.setIn hr0 (j := 0) (by omega)
          rw [hl0, e0] at hc0
          have HS0 := hide hset0
          have HLS := hide (show ∀ r ∈ R.set 0 ⟨r0.A, r0.c, r0.xs.set 0 2⟩, r.xs.length ≤ 8 from lens_set (m := 2) HL.out (by omega) (by simp [hl0]))
          clear hset0 hr0 e0 hl0 hrow0
          go_wp2_with fail
          go_ret2
          exact ⟨_, _, _, _, _, rfl, (HS0.out 2).tab, HLS.out, by omega, (HRd.out.set1 (p := ⟨b0, 0, none⟩) (by dsimp only; omega) _).mono (by omega), HO2.out.setCell (.inr (by dsimp only; omega)) _⟩
        have w1' : (v == 1) = false := by simp [v1]
        by_cases v2 : v = 2
        · subst v2
          obtain ⟨bo, r0, rfl, q1, q2, hr0, hc0, hf0, hrow0⟩ := hT2.out.tab.at_ (i := 0) (by omega)
          have hl0 := HL.out r0 (List.mem_of_getElem? hr0)
          obtain ⟨b0, e0⟩ : ∃ b0, r0.A = some ⟨b0, 0, none⟩ := by
            rcases hrow0.form with ⟨_, h0, _⟩ | ⟨b0, e, _⟩
            · omega
            · exact ⟨b0, e⟩
          rw [hl0, e0] at hc0
          rw [hl0, e0] at hrow0
          have HW := hide hrow0
          have HLA := hide (show (r0.xs ++ [0]).length ≤ 8 by simp [hl0])
          have PUT := hide (fun (A2 : Option Addr) (c2 : Nat) (w3 : World) (hr3 : Row w3 w.heap.size A2 (2 + 1) c2 (r0.xs ++ [0])) (_hb3 : Below w.heap.size w2 w3) (hg3 : w2.grownBy w3 (Value.slice (some ⟨b0, 0, none⟩) 2 r0.c).ownBlock) => (by
            obtain ⟨bq, eq, s1, s2, hcq, hfq, htab⟩ := hT2.out.putRow hr0 (by rw [Sl.blk, e0]; exact hg3) ⟨A2, c2, r0.xs ++ [0]⟩ (by dsimp only; rw [hr3.1]; exact hr3)
            obtain rfl : bo = bq := by simpa using eq
            dsimp only at htab
            rw [hr3.1] at htab
            exact ⟨⟨_, hcq⟩, hfq, htab, Rd.grown HRd.out hg3 (fun b hb => by have := (HW.out.blk b hb).1; omega), HO2.out.of_grown hg3 (fun b hb => (HW.out.blk b hb).1)⟩ :
              (∃ v, w3.cell? ⟨bo, 0, none⟩ = some v) ∧ w3.frozen? ⟨bo, 0, none⟩ = false ∧ Tab (w3.setCell ⟨bo, 0, none⟩ (.slice A2 (2 + 1) c2)) w.heap.size (some ⟨bo, 0, none⟩) 2 c (R.set 0 ⟨A2, c2, r0.xs ++ [0]⟩) ∧ Rd w3 g 50 ∧ Only g w w3))
          clear hr0 e0 hl0 hrow0
          go_wp2_with (at_builtin; refine push_int rfl _ _ rfl r0.xs rfl HW.out 0 _ rfl (by omega) (by omega) ?_; intro A2 c2 w3 hr3 hb3 hg3 hat3; have HF := hide (PUT.out A2 c2 w3 hr3 hb3 hg3).2.2; have z3 := hb3.size; obtain ⟨⟨vq, hcq⟩, hfq, _⟩ := PUT.out A2 c2 w3 hr3 hb3 hg3; clear hr3 hb3 hg3 hat3)
          go_ret2
          exact ⟨_, _, _, _, _, rfl, HF.out.1, lens_set (m := 2) HL.out (by omega) HLA.out, by omega, (HF.out.2.1.set1 (p := ⟨bo, 0, none⟩) (by dsimp only; omega) _).mono (by omega), HF.out.2.2.setCell (.inr (by dsimp only; omega)) _⟩
        have w2' : (v == 2) = false := by simp [v2]
        clear v0 v1 v2
        go_wp2_with fail
        go_ret2
        exact ⟨_, _, _, _, _, rfl, hT2.out.tab, HLL.out, by omega, HRd.out.mono (by omega), HO2.out⟩

  · go_wp2_with fail
    go_loopw [5, 6] (fun v i wr => ∃ (k : Nat) (A : Option Addr) (c : Nat) (R : List Sl), k ≤ 4 ∧ i = .int .i64 k ∧ v = .slice A k c ∧ TabD wr w.heap.size wr.heap.size A k c R ∧ (∀ r ∈ R, r.xs.length = 4) ∧ Rd wr g (1 + 5 * k) ∧ Only g w wr) (fun _ i _ => 4 - (intOf i).toNat)
    case atStart => exact ⟨0, _, _, [], by omega, rfl, rfl, TabD.empty0 0 rfl hz1, by simp, hr1.alloc _, ho1.alloc _⟩
    case round =>
      obtain ⟨k, A, c, R, hk, rfl, rfl, ht, hl, hr, ho⟩ := hrel
      obtain ⟨wo, hwo⟩ : ∃ x, x = wr := ⟨_, rfl⟩
      rw [← hwo] at ht hr ho
      rw [← hwo]
      clear hwo
      have HT := hide ht
      have HL := hide hl
      clear ht hl
      have hz := ho.size
      by_cases hlt : k < 4
      · have hkI : (k : Int) < 4 := by omega
        go_wp2_with fail
        go_loopw [7, 8] (fun v i wr => ∃ (j : Nat) (A3 : Option Addr) (c3 : Nat) (xs : List Int), j ≤ 4 ∧ i = .int .i64 j ∧ v = .slice A3 j c3 ∧ Row wr wo.heap.size A3 j c3 xs ∧ Rd wr g (1 + 5 * k + j) ∧ Only g wo wr) (fun _ i _ => 4 - (intOf i).toNat)
        case atStart => exact ⟨0, _, _, [], by omega, rfl, rfl, Row.lit (xs := []) rfl rfl (Nat.le_refl _), hr.alloc _, (Only.refl g wo).alloc _⟩
        case round =>
          obtain ⟨j, A3, c3, xs, hj, rfl, rfl, hrow, hri, hoi⟩ := hrel
          have Hrow := hide hrow
          have hzi := hoi.size
          clear hrow
          by_cases hjq : j < 4
          · have hjI : (j : Int) < 4 := by omega
            go_wp2_with fail
            refine (pick_rd g _ _ _ hri (by omega)).mono ?_
            rintro e wj ⟨x, rfl, hx, hrj, hoj⟩
            have Hrow2 := hide (Hrow.out.only hoj (by omega))
            have hzj : wr.heap.size ≤ wj.heap.size := hoj.size
            clear hx
            go_wp2_with (at_builtin; refine push_int rfl _ _ rfl xs rfl Hrow2.out _ _ rfl (by omega) (by omega) ?_; intro A2 c2 w6 hr6 hb6 hg6 hat6; have HF := hide (show _ ∧ _ ∧ _ from ⟨hr6, Rd.grown hrj hg6 (fun b hb => by have := (Hrow2.out.blk b hb).1; omega), (hoi.trans hoj).of_grown hg6 (fun b hb => (Hrow2.out.blk b hb).1)⟩); clear hr6 hb6 hg6 hat6)
            go_roundw
            case rel => exact ⟨j + 1, _, _, _, by omega, by go_num, rfl, HF.out.1, HF.out.2.1.mono (by omega), HF.out.2.2⟩
            case measure => simp [intOf]; omega
          · obtain rfl : j = 4 := by omega
            have hT1 := hide (HT.out.only hoi (by omega))
            go_wp2_with (at_builtin; refine push_row rfl _ _ rfl R rfl hT1.out.tab A3 4 c3 xs (Hrow.out.mono hz) _ rfl (by omega) (by omega) ?_; intro A2 c2 w2 ht2 hb2 hg2 hat2; have hz2 := hb2.size; have HG := hide (show _ ∧ _ ∧ _ from ⟨hT1.out.push (top' := w2.heap.size) (Hrow.out) ht2 (by omega) (fun k hk => by have := (Hrow.out.blk k (by rw [ownBlock_slice]; exact hk)).2; omega), Rd.grown hri hg2 (fun b hb => by have := (hT1.out.tab.blk b hb).1; omega), (ho.trans hoi).of_grown hg2 (fun b hb => (hT1.out.tab.blk b hb).1)⟩); clear ht2 hb2 hg2 hat2)
            go_roundw
            case rel => exact ⟨k + 1, _, _, _, by omega, by go_num, rfl, HG.out.1, fun r hr => by
              rw [List.mem_append, List.mem_singleton] at hr
              rcases hr with hr | rfl
              · exact HL.out r hr
              · exact Hrow.out.1, HG.out.2.1.mono (by omega), HG.out.2.2⟩
            case measure => simp [intOf]; omega
      · obtain rfl : k = 4 := by omega
        go_wp2_with fail
        refine (pick_rd g _ _ _ hr (by omega)).mono ?_
        rintro e w2 ⟨v, rfl, hv, hr2, ho2⟩
        have hT2 := hide (HT.out.only ho2 (by omega))
        clear hv
        have hzz : wo.heap.size ≤ w2.heap.size := ho2.size
        have HRd := hide (hr2.mono (k' := 50) (by omega))
        have HO2 := hide (ho.trans ho2)
        have HLL := hide (show ∀ r ∈ R, r.xs.length ≤ 8 from fun r hr => by rw [HL.out r hr]; omega)
        clear hr2 ho2 hr
        by_cases v0 : v = 0
        · subst v0
          go_wp2_with fail
          refine (one_lit g _ [4, 7, 2] _ 3 3 w2 _ HRd.out rfl rfl (by omega) (by omega) (by omega)).mono ?_
          rintro e w3 ⟨x, _, rfl, hr3, ho3⟩
          have HX := hide (show _ ∧ _ ∧ _ from ⟨(hT2.out.only ho3 (by omega)).tab, hr3.mono (k' := 60) (by omega), HO2.out.trans ho3⟩)
          clear hr3 ho3
          go_wp2_with fail
          go_ret2
          exact ⟨_, _, _, _, _, rfl, HX.out.1, HLL.out, by omega, HX.out.2.1, HX.out.2.2⟩
        have w0 : (v == 0) = false := by simp [v0]
        by_cases v1 : v = 1
        · subst v1
          obtain ⟨bo, r0, rfl, q1, q2, hr0, hc0, hf0, hrow0⟩ := hT2.out.tab.at_ (i := 0) (by omega)
          have hl0 := HL.out r0 (List.mem_of_getElem? hr0)
          obtain ⟨b0, e0, p1, p2, d0, g0, hset0⟩ := hT2.out.setIn hr0 (j := 0) (by omega)
          rw [hl0, e0] at hc0
          have HS0 := hide hset0
          have HLS := hide (show ∀ r ∈ R.set 0 ⟨r0.A, r0.c, r0.xs.set 0 2⟩, r.xs.length ≤ 8 from lens_set (m := 4) HL.out (by omega) (by simp [hl0]))
          clear hset0 hr0 e0 hl0 hrow0
          go_wp2_with fail
          go_ret2
          exact ⟨_, _, _, _, _, rfl, (HS0.out 2).tab, HLS.out, by omega, (HRd.out.set1 (p := ⟨b0, 0, none⟩) (by dsimp only; omega) _).mono (by omega), HO2.out.setCell (.inr (by dsimp only; omega)) _⟩
        have w1' : (v == 1) = false := by simp [v1]
        by_cases v2 : v = 2
        · subst v2
          obtain ⟨bo, r0, rfl, q1, q2, hr0, hc0, hf0, hrow0⟩ := hT2.out.tab.at_ (i := 0) (by omega)
          have hl0 := HL.out r0 (List.mem_of_getElem? hr0)
          obtain ⟨b0, e0⟩ : ∃ b0, r0.A = some ⟨b0, 0, none⟩ := by
            rcases hrow0.form with ⟨_, h0, _⟩ | ⟨b0, e, _⟩
            · omega
            · exact ⟨b0, e⟩
          rw [hl0, e0] at hc0
          rw [hl0, e0] at hrow0
          have HW := hide hrow0
          have HLA := hide (show (r0.xs ++ [0]).length ≤ 8 by simp [hl0])
          have PUT := hide (fun (A2 : Option Addr) (c2 : Nat) (w3 : World) (hr3 : Row w3 w.heap.size A2 (4 + 1) c2 (r0.xs ++ [0])) (_hb3 : Below w.heap.size w2 w3) (hg3 : w2.grownBy w3 (Value.slice (some ⟨b0, 0, none⟩) 4 r0.c).ownBlock) => (by
            obtain ⟨bq, eq, s1, s2, hcq, hfq, htab⟩ := hT2.out.putRow hr0 (by rw [Sl.blk, e0]; exact hg3) ⟨A2, c2, r0.xs ++ [0]⟩ (by dsimp only; rw [hr3.1]; exact hr3)
            obtain rfl : bo = bq := by simpa using eq
            dsimp only at htab
            rw [hr3.1] at htab
            exact ⟨⟨_, hcq⟩, hfq, htab, Rd.grown HRd.out hg3 (fun b hb => by have := (HW.out.blk b hb).1; omega), HO2.out.of_grown hg3 (fun b hb => (HW.out.blk b hb).1)⟩ :
              (∃ v, w3.cell? ⟨bo, 0, none⟩ = some v) ∧ w3.frozen? ⟨bo, 0, none⟩ = false ∧ Tab (w3.setCell ⟨bo, 0, none⟩ (.slice A2 (4 + 1) c2)) w.heap.size (some ⟨bo, 0, none⟩) 4 c (R.set 0 ⟨A2, c2, r0.xs ++ [0]⟩) ∧ Rd w3 g 50 ∧ Only g w w3))
          clear hr0 e0 hl0 hrow0
          go_wp2_with (at_builtin; refine push_int rfl _ _ rfl r0.xs rfl HW.out 0 _ rfl (by omega) (by omega) ?_; intro A2 c2 w3 hr3 hb3 hg3 hat3; have HF := hide (PUT.out A2 c2 w3 hr3 hb3 hg3).2.2; have z3 := hb3.size; obtain ⟨⟨vq, hcq⟩, hfq, _⟩ := PUT.out A2 c2 w3 hr3 hb3 hg3; clear hr3 hb3 hg3 hat3)
          go_ret2
          exact ⟨_, _, _, _, _, rfl, HF.out.1, lens_set (m := 4) HL.out (by omega) HLA.out, by omega, (HF.out.2.1.set1 (p := ⟨bo, 0, none⟩) (by dsimp only; omega) _).mono (by omega), HF.out.2.2.setCell (.inr (by dsimp only; omega)) _⟩
        have w2' : (v == 2) = false := by simp [v2]
        clear v0 v1 v2
        go_wp2_with fail
        go_ret2
        exact ⟨_, _, _, _, _, rfl, hT2.out.tab, HLL.out, by omega, HRd.out.mono (by omega), HO2.out⟩

set_option maxRecDepth 100000 in
theorem DrawRowsPlusTwo_any (a : Option Addr) (len cap : Nat) (zs : List Int) (w W : World) (h : IsRow .u8 w a len cap zs) (hb : Below w.heap.size w W) :
    Calls Try.prog 39 #[.slice a len cap] W fun e w' => ∃ (p : Int) (A : Option Addr) (n c : Nat) (R : List Sl), e = .returned (.tuple #[.int .i64 p, .slice A n c]) ∧ Tab w' W.heap.size A n c R ∧ (∀ r ∈ R, r.xs.length ≤ 8) ∧ n ≤ 8 ∧ Below W.heap.size W w' := by
  have Hh := hide h
  have Hb := hide hb
  clear h hb
  go_enter Try.func39, Try.ntmps39
  go_wp2_with fail
  refine (newReader_of a len cap zs w _ Hh.out Hb.out).mono ?_
  rintro e w1 ⟨g, rfl, hg, hr1, hb1⟩
  have HB1 := hide hb1
  have hz1 : W.heap.size ≤ w1.heap.size := hb1.size
  clear hb1
  go_wp2_with fail
  refine (anArray_any g w1 hr1).mono ?_
  rintro e w2 ⟨p, A, n, c, R, rfl, ht, hl, hn, _, ho⟩
  have HX := hide (show _ ∧ _ ∧ _ from ⟨ht.mono (show W.heap.size ≤ w1.heap.size from hz1), hl, Only.up ho HB1.out hz1 hg⟩)
  clear ht hl ho
  go_wp2_with fail
  go_ret2
  exact ⟨_, _, _, _, _, rfl, HX.out.1, HX.out.2.1, by omega, HX.out.2.2⟩
end Go.Proofs.Ytkalecdjcdgodaa
