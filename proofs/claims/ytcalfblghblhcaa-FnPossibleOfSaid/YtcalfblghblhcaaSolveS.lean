/-
  Solving rows, the reference's. Conditions: the rows and the goal can be read, at most 6 rows and 7 columns, of numbers over a prime.
-/
import Derived.Test.YtcalfblghblhcaaRed
namespace Go.Proofs.Ytcalfblghblhcaa
open Go.RowKit

theorem listOf_set (n : Nat) (f : Nat → Int) (j : Nat) (v : Int) : (listOf n f).set j v = listOf n (fun i => if i = j then v else f i) := by
  refine List.ext_getElem? fun i => ?_
  rw [List.getElem?_set]
  by_cases hi : i < n
  · by_cases e : j = i
    · subst e
      rw [if_pos rfl, if_pos (by rw [listOf_len]; exact hi), listOf_get _ hi]; simp
    · rw [if_neg e, listOf_get _ hi, listOf_get _ hi, if_neg (fun h => e h.symm)]
  · rw [List.getElem?_eq_none (l := listOf n (fun i => if i = j then v else f i)) (by rw [listOf_len]; omega)]
    split
    · rw [if_neg (by rw [listOf_len]; omega)]
    · exact List.getElem?_eq_none (by rw [listOf_len]; omega)
theorem listOf_zero (n : Nat) : listOf n (fun _ => 0) = List.replicate n 0 := by
  refine List.ext_getElem? fun i => ?_
  by_cases hi : i < n
  · rw [listOf_get _ hi, List.getElem?_replicate, if_pos hi]
  · rw [List.getElem?_eq_none (by rw [listOf_len]; omega), List.getElem?_eq_none (by simp; omega)]
theorem listOf_congr {n : Nat} {f g : Nat → Int} (h : ∀ i, i < n → f i = g i) : listOf n f = listOf n g :=
  List.map_congr_left fun i hi => h i (List.mem_range.1 hi)
theorem listOf_succ (n : Nat) (f : Nat → Int) : listOf (n + 1) f = listOf n f ++ [f n] := by simp [listOf, List.range_succ]
theorem aug_row {n : Nat} {R : Nat → Nat → Int} {g : Nat → Int} {k : Nat} : ∀ j, j < n + 1 → (listOf n (fun i => R i k) ++ [g k]).getD j 0 = aug n R g k j := fun j hj => by
  unfold aug
  by_cases h : j < n
  · rw [if_pos h, List.getD, List.getElem?_append_left (by rw [listOf_len]; exact h), listOf_get _ h]; rfl
  · have e : j = n := by omega
    subst e
    rw [if_neg h]
    simp [List.getD, listOf_len]

/-- the answer while the rows are read -/
def outF (l : Nat → Nat) (X : Nat → Nat → Int) (n : Nat) : Nat → Nat → Int | 0 => fun _ => 0 | i + 1 => fun j => if j = l i then X i n else outF l X n i j
theorem outF_lead {l : Nat → Nat} {X : Nat → Nat → Int} {n : Nat} : ∀ {s : Nat}, (∀ i j, i < s → j < s → l i = l j → i = j) → ∀ i, i < s → outF l X n s (l i) = X i n
  | 0, _, i, hi => by omega
  | s + 1, h, i, hi => by
    rw [outF]
    by_cases e : i = s
    · subst e; simp
    · have hne : l i ≠ l s := fun hh => e (h i s hi (by omega) hh)
      simp only [if_neg hne]
      exact outF_lead (fun i j h1 h2 => h i j (by omega) (by omega)) i (by omega)
theorem outF_none {l : Nat → Nat} {X : Nat → Nat → Int} {n j : Nat} : ∀ {s : Nat}, (∀ i, i < s → l i ≠ j) → outF l X n s j = 0
  | 0, _ => rfl
  | s + 1, h => by
    rw [outF]
    simp only [if_neg (show ¬ j = l s from fun e => h s (by omega) e.symm)]
    exact outF_none fun i hi => h i (by omega)
theorem Rdc.apart {p : Int} {m N t : Nat} {A0 A : Nat → Nat → Int} {c : Nat} {l : Nat → Nat} (h : Rdc p m N A0 A c t l) : ∀ i j, i < t → j < t → l i = l j → i = j := fun i j hi hj e =>
  Classical.byContradiction fun hne => by
    have h1 := h.col i hi j (by have := h.le; omega) (fun h => hne h.symm)
    rw [e, (h.one j hj).2] at h1
    omega
/-- the place where a number stands that is not 0 and has only 0 ahead of it -/
theorem Rdc.place {p : Int} {m N t : Nat} {A0 A : Nat → Nat → Int} {c : Nat} {l : Nat → Nat} (h : Rdc p m N A0 A c t l) {i k : Nat} (hi : i < t) : (A i k ≠ 0 ∧ ahd (A i) k = true) ↔ k = l i := by
  constructor
  · rintro ⟨h1, h2⟩
    rw [ahd_true] at h2
    rcases Nat.lt_trichotomy k (l i) with h3 | h3 | h3
    · exact absurd (h.low i hi k h3) h1
    · exact h3
    · have := h2 (l i) h3
      rw [(h.one i hi).2] at this
      omega
  · rintro rfl
    exact ⟨by rw [(h.one i hi).2]; omega, ahd_true.2 fun j hj => h.low i hi j hj⟩

/-- what solve gives -/
def SolPost (p : Int) (n m : Nat) (R : Nat → Nat → Int) (g : Nat → Int) (w : World) (e : Ending) (w' : World) : Prop :=
  Below w.heap.size w w' ∧ ((∃ f A' c', Good p n m R g f ∧ e = .returned (.tuple #[.slice A' n c', .bool true]) ∧ Row w' w.heap.size A' n c' (listOf n f)) ∨
    ((∀ f, ¬ Good p n m R g f) ∧ e = .returned (.tuple #[.slice none 0 0, .bool false])))

set_option maxHeartbeats 4000000 in
set_option maxRecDepth 100000 in
theorem solveS_any (p : Int) (hp : isP p = true) (A B : Option Addr) (n c m d : Nat) (R : Nat → Nat → Int) (g : Nat → Int) (w : World) (hn : 1 ≤ n ∧ n ≤ 6) (hm : 1 ≤ m ∧ m ≤ 7) (hR : ∀ i, i < n → ∀ k, k < m → 0 ≤ R i k ∧ R i k < p) (hg : ∀ k, k < m → 0 ≤ g k ∧ g k < p)
    (h : Mat w w.heap.size A n (fun _ => m) R) (h2 : Ints w w.heap.size B m g) :
    Calls Try.prog 48 #[.int .i64 p, .slice A n c, .slice B m d] w (SolPost p n m R g w) := by
  have HM := hide h
  have HG := hide h2
  have HAR := hide (show ∀ i, i < m → ∀ k, k < n + 1 → 0 ≤ aug n R g i k ∧ aug n R g i k < p from fun i hi k hk => by
    unfold aug
    split
    · rename_i h; exact hR k h i hi
    · exact hg i hi)
  have HP := hide hp
  have hpb := isP_pos hp
  have hmk := run_make_row' (P := Try.prog) 23 3 (.int .i64 0) 8 Try.underlying23 info_int rfl .i64 .i64 n (by omega) (by omega)
  clear h h2 hR hg hp
  go_enter Try.func48, Try.ntmps48
  go_wp2_with fail
  go_loopw [9, 10] (fun v i wr => ∃ (k : Nat) (A' : Option Addr) (c' : Nat) (T : List Sl), k ≤ m ∧ i = .int .i64 k ∧ v = .slice A' k c' ∧ TabD wr w.heap.size wr.heap.size A' k c' T ∧ TbC T k (n + 1) (aug n R g) ∧ Below w.heap.size w wr) (fun _ i _ => m - (intOf i).toNat)
  case atStart => exact ⟨0, _, _, [], by omega, rfl, rfl, TabD.empty0 0 rfl (Nat.le_refl _), TbC.nil _ _, by go_grown⟩
  case round =>
    obtain ⟨k, A', c', T, hk, rfl, rfl, ht, hcp, hb⟩ := hrel
    obtain ⟨wo, hwo⟩ : ∃ x, x = wr := ⟨_, rfl⟩
    rw [← hwo] at ht hb
    rw [← hwo]
    clear hwo
    have HT := hide ht
    have HC := hide hcp
    have HB := hide hb
    have hz := hb.size
    clear ht hcp hb
    by_cases hlt : k < m
    · have hkI : (k : Int) < (m : Int) := by omega
      go_wp2_with fail
      go_loopw [11, 12] (fun v i wx => ∃ (j : Nat) (A3 : Option Addr) (c3 : Nat), j ≤ n ∧ i = .int .i64 j ∧ v = .slice A3 j c3 ∧ Row wx wo.heap.size A3 j c3 (listOf j (fun i => R i k)) ∧ Below wo.heap.size wo wx) (fun _ i _ => n - (intOf i).toNat)
      case atStart => exact ⟨0, _, _, by omega, rfl, rfl, Row.lit (xs := []) rfl rfl (Nat.le_refl _), (Below.refl _ _).alloc (Nat.le_refl _) _⟩
      case round =>
        obtain ⟨j, A3, c3, hj, rfl, rfl, hrow, hb3⟩ := hrel
        have HRW := hide hrow
        have HB3 := hide hb3
        have hz3 := hb3.size
        have hbx := up hb3 HB.out hz
        clear hrow hb3
        by_cases hjn : j < n
        · obtain ⟨b, off, rfl, hbl, hc⟩ := HM.out (by omega)
          obtain ⟨R1, C1, e1, e2⟩ := hc j hjn
          obtain ⟨b1, o1, rfl, hb1, hc1⟩ := e2 (show 0 < m by omega)
          have x1 := (hbx.cell (p := ⟨b, off + j, none⟩) hbl).trans e1
          have x2 := (hbx.cell (p := ⟨b1, o1 + k, none⟩) hb1).trans (hc1 k hlt)
          have HN := hide (show listOf (j + 1) (fun i => R i k) = listOf j (fun i => R i k) ++ [R j k] from listOf_succ _ _)
          have hjI : (j : Int) < (n : Int) := by omega
          have hl1 : b < wr.heap.size := by omega
          have hl2 : b1 < wr.heap.size := by omega
          clear hc e1 e2 hc1
          generalize R j k = y at *
          go_wp2_with (at_builtin; (refine push_int rfl _ _ rfl _ rfl HRW.out y _ rfl (by omega) (by omega) ?_; intro A4 c4 w4 hr4 hb4 hg4 hat4; have HF4 := hide (show Row w4 wo.heap.size A4 (j + 1) c4 (listOf (j + 1) (fun i => R i k)) ∧ Below wo.heap.size wo w4 from ⟨by rw [HN.out]; exact hr4, HB3.out.trans hb4⟩); clear hr4 hb4 hg4 hat4))
          go_roundw
          case rel => first | exact ⟨j + 1, _, _, by omega, by go_num, rfl, HF4.out.1, HF4.out.2⟩ | ((repeat apply Exists.intro); exact ⟨⟨j + 1, _, _, by omega, by go_num, rfl, HF4.out.1, HF4.out.2⟩, rfl⟩)
          case measure => simp [intOf]; omega
        · obtain rfl : j = n := by omega
          obtain ⟨b1, o1, rfl, hb1, hc1⟩ := HG.out (by omega)
          have x2 := (hbx.cell (p := ⟨b1, o1 + k, none⟩) hb1).trans (hc1 k hlt)
          have HPU := hide (fun (A : Option Addr) (c : Nat) => HC.out.push (A := A) (c := c) (xs := listOf j (fun i => R i k) ++ [g k]) (by simp [listOf_len]) aug_row)
          have hl2 : b1 < wr.heap.size := by omega
          clear hc1
          generalize g k = y at *
          go_wp2_with (first | (at_builtin; (refine push_int rfl _ _ rfl _ rfl HRW.out y _ rfl (by omega) (by omega) ?_; intro A4 c4 w4 hr4 hb4 hg4 hat4; have hz4 := hb4.size; have HF4 := hide (show Row w4 wo.heap.size A4 (j + 1) c4 (listOf j (fun i => R i k) ++ [y]) ∧ Below wo.heap.size wo w4 from ⟨hr4, HB3.out.trans hb4⟩); clear hr4 hb4 hg4 hat4)) | (at_builtin; (refine push_row rfl _ _ rfl T rfl (HT.out.keep HF4.out.2).tab A4 (j + 1) c4 (listOf j (fun i => R i k) ++ [y]) (HF4.out.1.mono hz) _ rfl (by omega) (by have := HF4.out.2.size; omega) ?_; intro A6 c6 w6 ht6 hb6 hg6 hat6; have hz6 := hb6.size; have HX := hide (show _ ∧ _ from ⟨(HT.out.keep HF4.out.2).push (top' := w6.heap.size) HF4.out.1 ht6 (by have := HF4.out.2.size; omega) (fun q hq => by have := (HF4.out.1.blk q (by rw [ownBlock_slice]; exact hq)).2; have := hg6.size; omega), (HB.out.trans (HF4.out.2.mono hz)).trans (hb6.mono (by omega))⟩); clear ht6 hb6 hg6 hat6)))
          go_roundw
          case rel => first | exact ⟨k + 1, _, _, _, by omega, by go_num, rfl, HX.out.1, HPU.out A4 c4, HX.out.2⟩ | ((repeat apply Exists.intro); exact ⟨⟨k + 1, _, _, _, by omega, by go_num, rfl, HX.out.1, HPU.out A4 c4, HX.out.2⟩, rfl⟩)
          case measure => simp [intOf]; omega
    · obtain rfl : k = m := by omega
      have hge : ¬ (k : Int) < (k : Int) := by omega
      have HRE := hide (reduce_any p HP.out A' c' k (n + 1) (aug n R g) wo (by omega) (by omega) HAR.out (HC.out.mat HT.out))
      clear HM HG
      go_wp2_with fail
      refine (HRE.out).mono ?_
      rintro e w1 ⟨A1, c1, t, l, X, rfl, hmx, hrd, hb1⟩
      have HX := hide hmx
      have HR := hide hrd
      have HB1 := hide (up hb1 HB.out hz)
      have hz1 := HB1.out.size
      have htk := hrd.le.1
      clear hmx hrd hb1
      go_wp2_with fail
      clear hmk
      go_loopw [15] (fun i wr => ∃ s : Nat, s ≤ t ∧ i = .int .i64 s ∧ Row wr w1.heap.size (some ⟨w1.heap.size, 0, none⟩) n n (listOf n (outF l X n s)) ∧ Below w1.heap.size w1 wr ∧ ∀ i, i < s → l i ≠ n) (fun i _ => t - (intOf i).toNat)
      case atStart => exact ⟨0, by omega, rfl, by rw [outF, listOf_zero]; exact Row.zeros n (Nat.le_refl _) (by omega), (Below.refl _ _).alloc (Nat.le_refl _) _, by simp⟩
      case round =>
        obtain ⟨s, hs, rfl, hrow, hb3, hll⟩ := hrel
        obtain ⟨w3, hw3⟩ : ∃ x, x = wr := ⟨_, rfl⟩
        rw [← hw3] at hrow hb3
        rw [← hw3]
        clear hw3
        have HRW := hide hrow
        have HB3 := hide hb3
        have HLL := hide hll
        clear hrow hb3 hll
        by_cases hst : s < t
        · have hsI : (s : Int) < (t : Int) := by omega
          obtain ⟨bA, oA, rfl, hbA, hcA⟩ := HX.out (by omega)
          obtain ⟨Rs, Cs, e1, e2⟩ := hcA s hst
          obtain ⟨bs, os, rfl, hbs, hcs⟩ := e2 (show 0 < n + 1 by omega)
          have HE1 := hide e1
          have HCS := hide hcs
          have hl1 := (HR.out.one s hst).1
          have HPL := hide (fun k => HR.out.place (k := k) hst)
          clear hcA e1 e2 hcs
          go_wp2_with fail
          go_loopw [16] (fun i wr => ∃ (kk : Nat) (x : Int), kk ≤ n + 1 ∧ x = (kk : Int) - 1 ∧ i = .int .i64 x ∧ Row wr w1.heap.size (some ⟨w1.heap.size, 0, none⟩) n n (listOf n (if kk ≤ l s then outF l X n (s + 1) else outF l X n s)) ∧ Below w1.heap.size w1 wr ∧ (kk ≤ l s → l s ≠ n)) (fun i _ => (intOf i + 1).toNat)
          case atStart => exact ⟨n + 1, _, by omega, by push_cast; omega, rfl, by rw [if_neg (by omega)]; exact HRW.out, HB3.out, fun h => by omega⟩
          case round =>
            obtain ⟨kk, x, hkk, hx, rfl, hrow, hb4, hln⟩ := hrel
            obtain ⟨w4, hw4⟩ : ∃ x, x = wr := ⟨_, rfl⟩
            rw [← hw4] at hrow hb4
            rw [← hw4]
            clear hw4
            have HRW4 := hide hrow
            have HB4 := hide hb4
            have HLN := hide hln
            have hz4 := hb4.size
            clear hrow hb4 hln
            by_cases h0 : kk = 0
            · subst h0
              have hx1 : ¬ (0 : Int) ≤ x := by omega
              have HY := hide (show Row w4 w1.heap.size (some ⟨w1.heap.size, 0, none⟩) n n (listOf n (outF l X n (s + 1))) from by have := HRW4.out; rwa [if_pos (Nat.zero_le _)] at this)
              have HL2 := hide (show ∀ i, i < s + 1 → l i ≠ n from fun i hi => by
                by_cases e : i = s
                · subst e; exact HLN.out (Nat.zero_le _)
                · exact HLL.out i (by omega))
              go_wp2_with fail
              go_roundw
              case rel => first | exact ⟨s + 1, by omega, by go_num, HY.out, HB4.out, HL2.out⟩ | ((repeat apply Exists.intro); exact ⟨⟨s + 1, by omega, by go_num, HY.out, HB4.out, HL2.out⟩, rfl⟩)
              case measure => simp [intOf]; omega
            · obtain ⟨k', rfl⟩ : ∃ k', kk = k' + 1 := ⟨kk - 1, by omega⟩
              obtain rfl : x = (k' : Int) := by omega
              clear h0 hx
              have a1 := (HB4.out.cell (p := ⟨bA, oA + s, none⟩) hbA).trans HE1.out
              have a2 := (HB4.out.cell (p := ⟨bs, os + k', none⟩) hbs).trans (HCS.out k' (by omega))
              have a3 := (HB4.out.cell (p := ⟨bs, os + n, none⟩) hbs).trans (HCS.out n (by omega))
              have HAH := hide (fun W (hi : Ints W W.heap.size (some ⟨bs, os, none⟩) (n + 1) (X s)) => ahead_any (some ⟨bs, os, none⟩) (n + 1) Cs k' (X s) W (by omega) (by omega) hi)
              have HII := hide (show Ints w4 w4.heap.size (some ⟨bs, os, none⟩) (n + 1) (X s) from fun _ => ⟨bs, os, rfl, by omega, fun i hi => (HB4.out.cell (p := ⟨bs, os + i, none⟩) hbs).trans (HCS.out i hi)⟩)
              have hkI : (k' : Int) < (n : Int) + 1 := by omega
              have hkI0 : (0 : Int) ≤ (k' : Int) := by omega
              by_cases hkl : k' = l s
              · obtain ⟨p1, p2⟩ := (HPL.out k').2 hkl
                have hne : (X s k' != 0) = true := by simp [p1]
                have HAH2 := hide (HAH.out w4 HII.out)
                rw [p2] at HAH2
                clear p1 p2
                by_cases hkn : k' = n
                · have HNO := hide (fun f => HR.out.none_ (f := f) HP.out hst (hkl.symm.trans hkn))
                  have hknb : ((k' : Int) == (n : Int)) = true := by simp [hkn]
                  clear hkn hkl
                  go_wp2_with fail
                  refine (HAH2.out).mono ?_
                  rintro e _ ⟨rfl, rfl⟩
                  go_wp2_with fail
                  go_ret2
                  exact ⟨up HB4.out HB1.out hz1, .inr ⟨HNO.out, rfl⟩⟩
                · have hkn2 : k' < n := by omega
                  have hknb : ((k' : Int) == (n : Int)) = false := by simp; omega
                  obtain ⟨bo, eo, q1, q2, q3, q4, q5⟩ := HRW4.out.at_ (i := k') hkn2
                  obtain rfl : w1.heap.size = bo := by simpa using eo
                  have HST := hide (show Row (w4.setCell ⟨w1.heap.size, k', none⟩ (.int .i64 (X s n))) w1.heap.size (some ⟨w1.heap.size, 0, none⟩) n n (listOf n (if k' ≤ l s then outF l X n (s + 1) else outF l X n s)) from by
                    have := q5 (X s n)
                    rw [listOf_set] at this
                    rw [if_pos (by omega)]
                    rw [if_neg (by omega)] at this
                    rw [show outF l X n (s + 1) = fun j => if j = k' then X s n else outF l X n s j by rw [outF, hkl]]
                    exact this)
                  have HLN2 := hide (show k' ≤ l s → l s ≠ n from fun _ => by omega)
                  clear q5 eo hkl
                  generalize hXX : X s n = xn at *
                  clear hXX
                  go_wp2_with fail
                  refine (HAH2.out).mono ?_
                  rintro e _ ⟨rfl, rfl⟩
                  go_wp2_with fail
                  go_roundw
                  case rel => first | exact ⟨k', _, by omega, rfl, by go_num, HST.out, HB4.out.setCell (p := ⟨w1.heap.size, k', none⟩) (Nat.le_refl _) _, HLN2.out⟩ | ((repeat apply Exists.intro); exact ⟨⟨k', _, by omega, rfl, by go_num, HST.out, HB4.out.setCell (p := ⟨w1.heap.size, k', none⟩) (Nat.le_refl _) _, HLN2.out⟩, rfl⟩)
                  case measure => simp [intOf]; try omega
              · have HST := hide (show Row w4 w1.heap.size (some ⟨w1.heap.size, 0, none⟩) n n (listOf n (if k' ≤ l s then outF l X n (s + 1) else outF l X n s)) from by
                  have := HRW4.out
                  by_cases h1 : k' + 1 ≤ l s
                  · rw [if_pos h1] at this; rw [if_pos (by omega)]; exact this
                  · rw [if_neg h1] at this; rw [if_neg (by omega)]; exact this)
                have HLN2 := hide (show k' ≤ l s → l s ≠ n from fun h => HLN.out (by omega))
                by_cases hz0 : X s k' = 0
                · have hne : (X s k' != 0) = false := by simp [hz0]
                  clear hkl hz0
                  go_wp2_with fail
                  go_roundw
                  case rel => first | exact ⟨k', _, by omega, rfl, by go_num, HST.out, HB4.out, HLN2.out⟩ | ((repeat apply Exists.intro); exact ⟨⟨k', _, by omega, rfl, by go_num, HST.out, HB4.out, HLN2.out⟩, rfl⟩)
                  case measure => simp [intOf]; try omega
                · have hne : (X s k' != 0) = true := by simp [hz0]
                  have hah : ahd (X s) k' = false := by
                    cases hh : ahd (X s) k'
                    · rfl
                    · exact absurd ((HPL.out k').1 ⟨hz0, hh⟩) hkl
                  have HAH2 := hide (HAH.out w4 HII.out)
                  rw [hah] at HAH2
                  clear hkl hz0 hah
                  go_wp2_with fail
                  refine (HAH2.out).mono ?_
                  rintro e _ ⟨rfl, rfl⟩
                  go_wp2_with fail
                  go_roundw
                  case rel => first | exact ⟨k', _, by omega, rfl, by go_num, HST.out, HB4.out, HLN2.out⟩ | ((repeat apply Exists.intro); exact ⟨⟨k', _, by omega, rfl, by go_num, HST.out, HB4.out, HLN2.out⟩, rfl⟩)
                  case measure => simp [intOf]; try omega
        · obtain rfl : s = t := by omega
          have HGD := hide (HR.out.good HP.out HLL.out (f := outF l X n s) (fun i hi => outF_lead HR.out.apart i hi) (fun j _ hj => outF_none hj))
          go_wp2_with fail
          go_ret2
          exact ⟨up HB3.out HB1.out hz1, .inl ⟨_, _, _, HGD.out, rfl, HRW.out.mono hz1⟩⟩
end Go.Proofs.Ytcalfblghblhcaa
