/-
  The program's messages: the iterator's contract. Conditions: those that it names.
  Lists over a prime, one behind the other: how the next one comes of the one before, plain. No conditions: nothing is claimed of the program here.
-/
import Derived.Test.YtcalfblghblhcaaPossLaw
import Derived.Test.YtcalfblghblhcaaRangeCell
import Derived.Test.YtcalfblghblhcaaOwn4
import Derived.Test.YtcalfblghblhcaaQuietIn
import Derived.RangeFuncNested
import Derived.RangeFuncBound
import Derived.RangeFuncCalls
import Derived.RangeFuncLeaves
import Derived.WalkKit
import Derived.OwnWalkIn
import Derived.TacticsInMore
import Derived.LoopNIn
import Derived.LoopIn
import Derived.RegionIn
namespace Go.Proofs.Ytcalfblghblhcaa
open Go.RowKit

/-- digit i of list t -/
def dg (p k t i : Nat) : Int := (dgs p k t).getD i 0
theorem dg_low {p k t i : Nat} (h : i < k) : dg p (k + 1) t i = dg p k (t / p) i := by
  rw [dg, dgs, List.getD, List.getElem?_append_left (by rw [dgs_len]; exact h)]; rfl
theorem dg_top {p k t : Nat} : dg p (k + 1) t k = ((t % p : Nat) : Int) := by
  rw [dg, dgs, List.getD, List.getElem?_append_right (by rw [dgs_len]; omega), dgs_len]; simp
theorem dg_bd {p : Nat} (hp : 0 < p) {k t i : Nat} (h : i < k) : 0 ≤ dg p k t i ∧ dg p k t i < p := by
  have hl : i < (dgs p k t).length := by rw [dgs_len]; exact h
  simp only [dg, List.getD, List.getElem?_eq_getElem hl, Option.getD_some]
  exact dgs_bd hp k t _ (List.getElem_mem _)
/-- the next list: behind the last place that is not full all is 0 -/
theorem dg_next {p : Nat} (hp : 2 ≤ p) : ∀ k t, t < p ^ k → (t + 1 = p ^ k ∧ ∀ i, i < k → dg p k t i = (p : Int) - 1) ∨
    (t + 1 < p ^ k ∧ ∃ a, a < k ∧ (∀ i, a < i → i < k → dg p k t i = (p : Int) - 1) ∧ dg p k t a ≠ (p : Int) - 1 ∧ ∀ i, i < k → dg p k (t + 1) i = if a < i then 0 else if i = a then dg p k t a + 1 else dg p k t i)
  | 0, t, h => by
    rw [Nat.pow_zero] at h ⊢
    exact .inl ⟨by omega, fun i hi => absurd hi (by omega)⟩
  | k + 1, t, h => by
    have hpk : p ^ (k + 1) = p ^ k * p := Nat.pow_succ p k
    have hq : t / p < p ^ k := by rw [Nat.div_lt_iff_lt_mul (by omega)]; rw [← hpk]; exact h
    have hdm := Nat.div_add_mod t p
    have hml := Nat.mod_lt t (show 0 < p by omega)
    by_cases hr : t % p + 1 < p
    · have e1 : (t + 1) / p = t / p := by
        have e : t + 1 = t % p + 1 + p * (t / p) := by omega
        rw [e, Nat.add_mul_div_left _ _ (by omega), Nat.div_eq_of_lt hr]; omega
      have e2 : (t + 1) % p = t % p + 1 := by
        have e : t + 1 = t % p + 1 + p * (t / p) := by omega
        rw [e, Nat.add_mul_mod_self_left, Nat.mod_eq_of_lt hr]
      right
      refine ⟨?_, k, by omega, fun i h1 h2 => absurd h1 (by omega), ?_, fun i hi => ?_⟩
      · have h3 : (t / p + 1) * p ≤ p ^ k * p := Nat.mul_le_mul_right p hq
        rw [← hpk, Nat.add_mul, Nat.one_mul, Nat.mul_comm (t / p) p] at h3
        omega
      · rw [dg_top]; omega
      · rw [if_neg (by omega)]
        by_cases e : i = k
        · subst e
          rw [if_pos rfl, dg_top, dg_top, e2]; push_cast; rfl
        · rw [if_neg e, dg_low (by omega), dg_low (by omega), e1]
    · have hr1 : t % p = p - 1 := by omega
      have e0 : t + 1 = p * (t / p + 1) := by rw [Nat.mul_add]; omega
      have e1 : (t + 1) / p = t / p + 1 := by rw [e0, Nat.mul_div_cancel_left _ (by omega)]
      have e2 : (t + 1) % p = 0 := by rw [e0, Nat.mul_mod_right]
      rcases dg_next hp k (t / p) hq with ⟨g1, g2⟩ | ⟨g1, a, g2, g3, g4, g5⟩
      · left
        refine ⟨by rw [e0, g1, hpk, Nat.mul_comm], fun i hi => ?_⟩
        by_cases e : i = k
        · subst e; rw [dg_top, hr1]; omega
        · rw [dg_low (by omega), g2 i (by omega)]
      · right
        refine ⟨?_, a, by omega, fun i h1 h2 => ?_, by rw [dg_low g2]; exact g4, fun i hi => ?_⟩
        · rw [e0, hpk, Nat.mul_comm]
          exact Nat.mul_lt_mul_of_pos_right g1 (by omega)
        · by_cases e : i = k
          · subst e; rw [dg_top, hr1]; omega
          · rw [dg_low (by omega), g3 i h1 (by omega)]
        · by_cases e : i = k
          · subst e
            rw [if_pos g2, dg_top, e2]; rfl
          · rw [dg_low (by omega), e1, g5 i (by omega)]
            by_cases h1 : a < i
            · rw [if_pos h1, if_pos h1]
            · rw [if_neg h1, if_neg h1, dg_low g2, dg_low (by omega)]
end Go.Proofs.Ytcalfblghblhcaa
namespace Go.Proofs.Ytcalfblghblhcaa
open Go.RowKit
attribute [local go_sem] Oper.semAt_some

def rowO (p k t : Nat) : Obj := .cells ((dgs p k t).map (Value.int .i64)).toArray 3 (0, 0)
/-- which list lies in a block -/
def decO (p : Nat) : Option Obj → Nat | some (.cells cs _ _) => cs.toList.foldl (fun a v => a * p + (intOf v).toNat) 0 | _ => 0
theorem dec_dgs {p : Nat} : ∀ k t, t < p ^ k → (((dgs p k t).map (Value.int .i64)).foldl (fun a v => a * p + (intOf v).toNat) 0 : Nat) = t
  | 0, t, h => by
    rw [Nat.pow_zero] at h
    have : t = 0 := by omega
    subst this; rfl
  | k + 1, t, h => by
    have hp : 0 < p := by
      rcases Nat.eq_zero_or_pos p with e | e
      · subst e; simp at h
      · exact e
    have hq : t / p < p ^ k := by rw [Nat.div_lt_iff_lt_mul hp, ← Nat.pow_succ]; exact h
    rw [dgs, List.map_append, List.foldl_append, dec_dgs k (t / p) hq]
    have := Nat.div_add_mod t p
    simp [intOf]
    rw [Nat.mul_comm]; exact this
theorem dec_row {p k t : Nat} (h : t < p ^ k) : decO p (some (rowO p k t)) = t := by
  simp only [decO, rowO]
  exact dec_dgs k t h
theorem dgs_zero {p : Nat} : ∀ k, dgs p k 0 = List.replicate k 0
  | 0 => rfl
  | k + 1 => by rw [dgs, Nat.zero_div, dgs_zero k, List.replicate_succ']; simp
theorem row_zero {p k : Nat} : (Obj.cells (madeCells #[.int .i64 0] k) 3 (0, 0)) = rowO p k 0 := by
  rw [rowO, dgs_zero]
  congr 1
  rw [← Array.toList_inj]
  simp [toList_madeCells_one]
theorem row_blk {w : World} {base g k : Nat} {xs : List Int} (h : Row w base (some ⟨g, 0, none⟩) k k xs) : w.heap[g]? = some (.cells (xs.map (Value.int .i64)).toArray 3 (0, 0)) := by
  rcases h.2.2 with ⟨h1, _⟩ | ⟨g', cap, cur, h1, _, h3, h4, _, h6, h7⟩
  · cases h1
  · injection h1 with e1 e2 e3
    injection e1 with e1
    injection e1 with e1
    subst e1
    subst e3
    rw [h3]
    congr 2
    rw [← Array.toList_inj]
    have hl : cur.toList.length = k := by rw [Array.length_toList]; omega
    rw [List.take_of_length_le (by omega)] at h7
    exact h7
theorem dgs_ext {p k t : Nat} {xs : List Int} (hl : xs.length = k) (h : ∀ i, i < k → xs.getD i 0 = dg p k t i) : xs = dgs p k t := by
  refine List.ext_getElem? fun i => ?_
  by_cases hi : i < k
  · have h1 := h i hi
    have hd : i < (dgs p k t).length := by rw [dgs_len]; exact hi
    have hx : i < xs.length := by omega
    simp only [dg, List.getD, List.getElem?_eq_getElem hd, List.getElem?_eq_getElem hx, Option.getD_some] at h1
    rw [List.getElem?_eq_getElem hd, List.getElem?_eq_getElem hx, h1]
  · rw [List.getElem?_eq_none (by omega), List.getElem?_eq_none (by rw [dgs_len]; omega)]
theorem set_getD {xs : List Int} {i q : Nat} {v : Int} (hq : q < xs.length) : (xs.set q v).getD i 0 = if i = q then v else xs.getD i 0 := by
  by_cases e : i = q
  · subst e; simp [List.getD, hq]
  · rw [if_neg e]; simp [List.getD, List.getElem?_set, show ¬ q = i from fun h => e h.symm]
set_option maxHeartbeats 4000000 in
set_option maxRecDepth 100000 in
theorem messages1_in (n : Nat) (hn : 1 ≤ n) (l b1 b2 p k : Nat) (hp : 2 ≤ p ∧ p ≤ 7) (hk : 1 ≤ k ∧ k ≤ 7) (W : World) (J : Nat → World → Prop)
    (hJ : ∀ t A B, J t A → Below W.heap.size A B → J t B) (hbx : ∀ t A, J t A → A.cell? ⟨b1, 0, none⟩ = some (.int .i64 k) ∧ A.cell? ⟨b2, 0, none⟩ = some (.int .i64 p)) (hb1 : b1 < W.heap.size) (hb2 : b2 < W.heap.size)
    (hY : ∀ t W1, t < p ^ k → J t W1 → W1.heap[W.heap.size]? = some (rowO p k t) → YieldAt (fw none) (n - 1) Try.prog l #[.slice (some ⟨W.heap.size, 0, none⟩) k k] W1 fun e W' => e = .returned (.bool true) ∧ J (t + 1) W' ∧ Abv W.heap.size W1 W')
    (h0 : J 0 W) :
    CallsIn (fw none) n Try.prog 76 #[.func (.yield l) #[] #[], .pointer (some ⟨b1, 0, none⟩), .pointer (some ⟨b2, 0, none⟩)] W fun e W' => (∃ u, e = .returned u) ∧ J (p ^ k) W' := by
  have HY := hide hY
  have HJ := hide hJ
  have HB := hide hbx
  obtain ⟨x1, x2⟩ := hbx 0 W h0
  have hmk := run_make_row' (P := Try.prog) 23 3 (.int .i64 0) 8 Try.underlying23 info_int rfl .i64 .i64 k (by omega) (by omega)
  clear hY hJ hbx
  refine callsIn_of_wp Try.func76 rfl trivial ?_ rfl
  simp only [Try.ntmps76, List.size_toArray, List.length_cons, List.length_nil, Nat.reduceAdd, Nat.reduceSub, Array.replicate_succ, Array.replicate_zero, List.push_toArray, List.append_toArray, List.nil_append, List.cons_append]
  gi_wp2
  gi_loopw [5] (fun _ wr => ∃ t : Nat, t < p ^ k ∧ wr.heap[W.heap.size]? = some (rowO p k t) ∧ J t wr) (fun _ wr => p ^ k - decO p wr.heap[W.heap.size]?)
  case atStart => exact ⟨0, Nat.pow_pos (by omega), by rw [heap_alloc_new W _, row_zero], HJ.out 0 _ _ h0 ((Below.refl _ _).alloc (Nat.le_refl _) _)⟩
  case round =>
    obtain ⟨t, ht, hrow, hj⟩ := hrel
    obtain ⟨fn, tmps, assign, body, hy, hR⟩ := HY.out t wr ht hj hrow
    gi_wp2
    refine hR.mono ?_
    rintro e W3 ⟨rfl, hj3, hab⟩
    obtain ⟨z1, z2⟩ := HB.out (t + 1) W3 hj3
    have hlt3 : W.heap.size < wr.heap.size := (Array.getElem?_eq_some_iff.1 hrow).1
    have hr3 : Row W3 W.heap.size (some ⟨W.heap.size, 0, none⟩) k k (dgs p k t) := by
      have h := (hab.2 W.heap.size (Nat.le_refl _) hlt3).trans hrow
      have h2 := Row.of_blk (xs := dgs p k t) h (Nat.le_refl _) (by rw [dgs_len]; omega)
      rw [dgs_len] at h2
      exact h2
    gi_wp2
    gi_loopw [5] (fun i wr2 => ∃ (j : Nat) (xs : List Int), j ≤ k ∧ i = .int .i64 ((j : Int) - 1) ∧ Row wr2 W.heap.size (some ⟨W.heap.size, 0, none⟩) k k xs ∧ (∀ i, i < k → xs.getD i 0 = if j ≤ i then 0 else dg p k t i) ∧ (∀ i, j ≤ i → i < k → dg p k t i = (p : Int) - 1) ∧ J (t + 1) wr2) (fun i _ => (intOf i + 1).toNat)
    case atStart => exact ⟨k, dgs p k t, Nat.le_refl _, rfl, hr3, fun i hi => by rw [if_neg (by omega)]; rfl, fun i h1 h2 => absurd h1 (by omega), hj3⟩
    case round =>
      obtain ⟨j, xs, hjk, rfl, hrw, hxs, hfull, hj4⟩ := hrel
      obtain ⟨y1, y2⟩ := HB.out (t + 1) _ hj4
      have HX := hide hxs
      have HF := hide hfull
      clear hxs hfull
      cases j with
      | zero =>
        rcases dg_next hp.1 k t ht with ⟨g1, _⟩ | ⟨_, a, g2, _, g4, _⟩
        · rw [show (((0 : Nat) : Int) - 1) = -1 from rfl]
          gi_wp2
          refine quietIn (by kernel_rfl) (by kernel_rfl) ?_
          repeat (quiet_step (fail))
          refine wpQuiet_nil ?_
          intro _ hw'
          obtain ⟨nq, hw''⟩ := hw'
          subst hw''
          gi_wp2
          refine bodyPost_ret (results_none rfl _ _ _) rfl ?_
          exact ⟨⟨_, rfl⟩, by rw [← g1]; exact HJ.out _ _ _ hj4 (below_drewN (Below.refl _ _) _)⟩
        · exact absurd (HF.out a (by omega) g2) g4
      | succ q =>
        rw [show (((q + 1 : Nat) : Int) - 1) = (q : Int) by omega]
        have hqk : q < k := hjk
        have hq0 : (0 : Int) ≤ (q : Int) := by omega
        have hqi : (q : Int) < (k : Int) := by omega
        obtain ⟨b, hbe, hb0, hbs, hcell, hfrz, hset⟩ := hrw.at_ hqk
        injection hbe with hbe
        injection hbe with hbe
        subst hbe
        rw [HX.out q hqk, if_neg (by omega)] at hcell
        obtain ⟨d1, d2⟩ := dg_bd (p := p) (by omega) (k := k) (t := t) hqk
        have HS := hide hset
        clear hset
        have hlen : xs.length = k := hrw.1
        have hwr : IntKind.i64.wrap ((p : Int) - 1) = (p : Int) - 1 := IntWalk.i64_in _ (by omega)
        by_cases hfl : dg p k t q = (p : Int) - 1
        · rw [hfl] at hcell
          have HL := hide hfl
          have htest : ((p : Int) - 1 == IntKind.i64.wrap ((p : Int) - 1)) = true := by rw [hwr]; simp
          clear hfl hwr
          gi_wp2
          refine quietIn (by kernel_rfl) (by kernel_rfl) ?_
          repeat (quiet_step (fail))
          refine wpQuiet_nil ?_
          intro _ hw'
          obtain ⟨nq, hw''⟩ := hw'
          subst hw''
          gi_wp2
          refine ⟨⟨q, xs.set q 0, by omega, rfl, HS.out 0, fun i hi => ?_, fun i h1 h2 => ?_, HJ.out _ _ _ hj4 ((below_drewN (Below.refl _ _) _).setCell (p := ⟨W.heap.size, q, none⟩) (Nat.le_refl _) _)⟩, ?_⟩
          · rw [set_getD (by omega)]
            by_cases e : i = q
            · rw [if_pos e, if_pos (by omega)]
            · rw [if_neg e, HX.out i hi]
              by_cases h1 : q + 1 ≤ i
              · rw [if_pos h1, if_pos (by omega)]
              · rw [if_neg h1, if_neg (by omega)]
          · by_cases e : i = q
            · subst e; exact HL.out
            · exact HF.out i (by omega) h2
          · simp only [intOf]; omega
        · have htest : (dg p k t q == IntKind.i64.wrap ((p : Int) - 1)) = false := by rw [hwr]; simpa using hfl
          have HN := hide hfl
          clear hwr hfl
          have key : t + 1 < p ^ k ∧ ∀ i, i < k → (xs.set q (dg p k t q + 1)).getD i 0 = dg p k (t + 1) i := by
            rcases dg_next hp.1 k t ht with ⟨_, g2⟩ | ⟨g1, a, g2, g3, g4, g5⟩
            · exact absurd (g2 q hqk) HN.out
            · obtain rfl : a = q := by
                rcases Nat.lt_trichotomy a q with h | h | h
                · exact absurd (g3 q h hqk) HN.out
                · exact h
                · exact absurd (HF.out a (by omega) g2) g4
              refine ⟨g1, fun i hi => ?_⟩
              rw [set_getD (by omega), g5 i hi, HX.out i hi]
              by_cases e : i = a
              · rw [if_pos e, if_neg (by omega), if_pos e]
              · rw [if_neg e, if_neg e]
                by_cases h1 : a < i
                · rw [if_pos (by omega), if_pos h1]
                · rw [if_neg (by omega), if_neg h1]
          have hblk := (row_blk (HS.out (dg p k t q + 1))).trans (congrArg some (show _ = rowO p k (t + 1) by rw [rowO, dgs_ext (by simpa using hlen) key.2]))
          have HK := hide key
          have HBK := hide hblk
          clear key hblk
          gi_wp2
          refine quietIn (by kernel_rfl) (by kernel_rfl) ?_
          repeat (quiet_step (fail))
          refine wpQuiet_nil ?_
          intro _ hw'
          obtain ⟨nq, hw''⟩ := hw'
          subst hw''
          gi_wp2
          have e2 : ((wr.drewN nq).setCell ⟨W.heap.size, q, none⟩ (.int .i64 (dg p k t q + 1))).heap[W.heap.size]? = some (rowO p k (t + 1)) := HBK.out
          refine ⟨⟨t + 1, HK.out.1, e2, HJ.out _ _ _ hj4 ((below_drewN (Below.refl _ _) _).setCell (p := ⟨W.heap.size, q, none⟩) (Nat.le_refl _) _)⟩, ?_⟩
          rw [e2, hrow, dec_row HK.out.1, dec_row ht]
          have := HK.out.1
          omega
end Go.Proofs.Ytcalfblghblhcaa
