/-
  Arrays with two columns more, the program's side. Conditions: the rows can be read, and are of 0 and 1.
-/
import Derived.Test.YtkalecdjcdgodaaPlusS
namespace Go.Proofs.Ytkalecdjcdgodaa
open Go.RowKit

/-- the state of the second loops: r rows and k numbers of the next one are done -/
def Cst (p : Nat) (W : Nat → Nat → Int) (r k : Nat) (i j : Nat) : Int := if j < p then W i j else (dg2 p W i r + dg1 p W i r k) % 2
theorem cst_next {p q : Nat} {W : Nat → Nat → Int} {r k i : Nat} (hi : (r + k) % p = i) : ∀ a b, a < q → b < p + 1 → upd (Cst p W r k) i p ((dg2 p W i r + dg1 p W i r k + W r k) % 2) a b = Cst p W r (k + 1) a b := fun a b _ hb => by
  by_cases e : a = i ∧ b = p
  · obtain ⟨rfl, rfl⟩ := e
    rw [upd_at, Cst, if_neg (by omega), dg1, if_pos hi]
    congr 1; omega
  · rw [upd_ne e]
    unfold Cst
    by_cases h : b < p
    · rw [if_pos h, if_pos h]
    · rw [if_neg h, if_neg h, dg1, if_neg (fun h2 => e ⟨by omega, by omega⟩)]
      congr 1; omega
theorem cst_skip {p q : Nat} {W : Nat → Nat → Int} {r k i : Nat} (hi : (r + k) % p = i) (hq : q ≤ i) : ∀ a b, a < q → b < p + 1 → Cst p W r k a b = Cst p W r (k + 1) a b := fun a b ha hb => by
  unfold Cst
  split
  · rfl
  · rw [dg1, if_neg (by omega)]; congr 1; omega
theorem cst_row {p : Nat} {W : Nat → Nat → Int} {r : Nat} : ∀ a b, Cst p W r p a b = Cst p W (r + 1) 0 a b := fun a b => by
  unfold Cst
  split
  · rfl
  · rw [dg2, dg1]; congr 1; omega
/-- a wide row while its sum grows -/
def wv (q : Nat) (f : Nat → Int) (j : Nat) : List Int := listOf q f ++ [tot f j % 2, 0]
theorem wv_len (q : Nat) (f : Nat → Int) (j : Nat) : (wv q f j).length = q + 2 := by simp [wv, listOf_len]
theorem wv_at (q : Nat) (f : Nat → Int) (j : Nat) : (wv q f j).getD q 0 = tot f j % 2 := by simp [wv, List.getD, listOf_len]
theorem wv_set (q : Nat) (f : Nat → Int) (j : Nat) (v : Int) (hv : v = tot f (j + 1) % 2) : (wv q f j).set q v = wv q f (j + 1) := by
  subst hv
  simp [wv, listOf_len, List.set_append]
theorem wv_row {q k : Nat} {M : Nat → Nat → Int} : ∀ j, j < q + 1 + 1 → (wv q (M k) q).getD j 0 = Cst (q + 1) (W1 q M) 0 0 k j := fun j hj => by
  unfold Cst wv
  by_cases h : j < q
  · rw [if_pos (by omega), List.getD, List.getElem?_append_left (by rw [listOf_len]; exact h), listOf_get _ h, W1, if_pos h]; rfl
  · by_cases h2 : j = q
    · subst h2
      rw [if_pos (by omega), W1, if_neg h]
      simp [List.getD, listOf_len]
    · have h3 : j = q + 1 := by omega
      subst h3
      rw [if_neg (by omega)]
      simp [List.getD, listOf_len, dg2, dg1]
theorem cst_end {q : Nat} {M : Nat → Nat → Int} : ∀ a b, b < q + 1 + 1 → Cst (q + 1) (W1 q M) q 0 a b = plusF (q + 1) M a b := fun a b _ => by
  unfold Cst plusF W2
  simp only [Nat.add_sub_cancel]
  split
  · rfl
  · rw [dg1]; congr 1; omega
theorem wide_splice (q : Nat) (f : Nat → Int) (j : Nat) (hj : j = 0) : splice ((List.replicate (q + 2) (0 : Int)).map (Value.int .i64)) 0 ((listOf q f).map (Value.int .i64)) = (wv q f j).map (Value.int .i64) := by
  subst hj
  have e : List.drop q (List.replicate (q + 2) (Value.int .i64 0)) = [.int .i64 0, .int .i64 0] := by rw [List.drop_replicate, show q + 2 - q = 2 by omega]; rfl
  simp only [splice, wv, List.map_replicate, List.take_zero, List.nil_append, List.length_map, listOf_len, Nat.zero_add, e, List.map_append, List.map_cons, List.map_nil, tot]
  rfl

set_option maxHeartbeats 4000000 in
set_option maxRecDepth 100000 in
theorem plusTwo3_any (A : Option Addr) (c : Nat) (M : Nat → Nat → Int) (w : World) (hM : Bin 2 2 M) (h : Mat w w.heap.size A 2 (fun _ => 2) M) :
    Calls Try.prog 71 #[.int .i64 3, .slice A 2 c] w (TbPost 2 (3 + 1) (plusF 3 M) w) := by
  obtain ⟨b, off, rfl, hbl, hc⟩ := h (by omega)
  have HB := hide hM
  have HC0 := hide hc
  clear h hM hc
  have hmk1 : ∀ w, (Instr.makeSlice 42 (.int .i64 0) (.int .i64 2)).run Try.prog w = .ok (.slice (some ⟨w.heap.size, 0, none⟩) 0 2) (w.alloc (.cells #[.slice none 0 0, .slice none 0 0] 22)) := fun _ => by kernel_rfl
  have hmk2 : ∀ w, (Instr.makeSlice 22 (.int .i64 4) (.int .i64 4)).run Try.prog w = .ok (.slice (some ⟨w.heap.size, 0, none⟩) 4 4) (w.alloc (.cells #[.int .i64 0, .int .i64 0, .int .i64 0, .int .i64 0] 3)) := fun _ => by kernel_rfl
  go_enter Try.func71, Try.ntmps71
  go_wp2_with fail
  clear hmk1
  go_loopw [5, 21] (fun v i wr => ∃ (k : Nat) (A' : Option Addr) (c' : Nat) (R : List Sl), k ≤ 2 ∧ i = .int .i64 k ∧ v = .slice A' k c' ∧ TabD wr w.heap.size wr.heap.size A' k c' R ∧ TbC R k (3 + 1) (Cst 3 (W1 2 M) 0 0) ∧ Below w.heap.size w wr) (fun _ i _ => 2 - (intOf i).toNat)
  case atStart => exact ⟨0, _, _, [], by omega, rfl, rfl, TabD.empty0 2 rfl (Nat.le_refl _), TbC.nil _ _, by go_grown⟩
  case round =>
    obtain ⟨k, A', c', R, hk, rfl, rfl, ht, hcp, hb⟩ := hrel
    obtain ⟨wo, rfl⟩ : ∃ x, x = wr := ⟨_, rfl⟩
    have HT := hide ht
    have HC := hide hcp
    have hz := hb.size
    clear ht hcp
    by_cases hlt : k < 2
    · obtain ⟨R1, C1, e1, e2⟩ := HC0.out k hlt
      obtain ⟨br, ro, rfl, hbr, hcr⟩ := e2 (by omega)
      have hck := (hb.cell (p := ⟨b, off + k, none⟩) hbl).trans e1
      have HCR := hide (fun j hj => (hb.cell (p := ⟨br, ro + j, none⟩) hbr).trans (hcr j hj))
      have hbr2 : br < wo.heap.size := by omega
      have HBK := hide (fun j hj => HB.out k j hlt hj)
      have hg0 : (wo.alloc (.cells #[.int .i64 0, .int .i64 0, .int .i64 0, .int .i64 0] 3)).heap[wo.heap.size]? = some (.cells ((List.replicate (2 + 2) (0 : Int)).map (Value.int .i64)).toArray 3 (0, 0)) := heap_alloc_new wo _
      have hcs : ∀ (j : Nat) (v : Value), ((listOf 2 (M k)).map (Value.int .i64))[j]? = some v → (wo.alloc (.cells #[.int .i64 0, .int .i64 0, .int .i64 0, .int .i64 0] 3)).cell? ((⟨br, ro, none⟩ : Addr).add j) = some v := fun j v hj => by
        have hj4 : j < 2 := by
          rcases Nat.lt_or_ge j 2 with h | h
          · exact h
          · rw [List.getElem?_eq_none (by simp [listOf_len]; exact h)] at hj; cases hj
        rw [List.getElem?_map, listOf_get _ hj4] at hj
        rw [add_mk]
        exact ((bcell ((Below.refl wo.heap.size wo).alloc (Nat.le_refl _) _)).1 br (ro + j) hbr2).trans ((HCR.out j hj4).trans hj)
      have HG0 := hide hg0
      have HCS := hide hcs
      clear hcs hg0 e1 e2 hcr
      go_wp2_with (refine wpList_copy_splice (o := ⟨some 30, _, _, _, _, _⟩) rfl (.tmp 28) (.tmp 29) 22 22 rfl 3 Try.underlying22 (by kernel_rfl) (some ⟨wo.heap.size, 0, none⟩) (some ⟨br, ro, none⟩) 4 4 2 C1 rfl rfl wo.heap.size 0 ((List.replicate (2 + 2) (0 : Int)).map (Value.int .i64)) 3 HG0.out ((listOf 2 (M k)).map (Value.int .i64)) (by simp [listOf_len]) (fun _ => ⟨rfl, _, rfl, HCS.out⟩) (by simp [listOf_len]) (fun v hv => by obtain ⟨z, _, rfl⟩ := List.mem_map.1 hv; rfl) wo.heap.size wo ((Below.refl _ _).alloc (Nat.le_refl _) _) (Nat.le_refl _) ?_; intro w1 hg1 hb1; rw [wide_splice 2 (M k) 0 rfl] at hg1)
      have HR1 := hide (show Row w1 wo.heap.size (some ⟨wo.heap.size, 0, none⟩) 4 4 (wv 2 (M k) 0) from by
        have := Row.of_blk (base := wo.heap.size) (xs := wv 2 (M k) 0) hg1.out (Nat.le_refl _) (by rw [wv_len]; omega)
        rw [wv_len] at this
        exact this)
      have HB1 := hide hb1
      clear hg1 hb1 hmk2 hck
      go_loopw [33] (fun i wr => ∃ j : Nat, j ≤ 2 ∧ i = .int .i64 j ∧ Row wr wo.heap.size (some ⟨wo.heap.size, 0, none⟩) 4 4 (wv 2 (M k) j) ∧ Below wo.heap.size wo wr) (fun i _ => 2 - (intOf i).toNat)
      case atStart => exact ⟨0, by omega, rfl, HR1.out, HB1.out⟩
      case round =>
        obtain ⟨j, hj, rfl, hrow, hbi⟩ := hrel
        have HRW := hide hrow
        have hzi := hbi.size
        clear hrow
        by_cases hlj : j < 2
        · have hcj := (hbi.cell (p := ⟨br, ro + j, none⟩) hbr2).trans (HCR.out j hlj)
          obtain ⟨b0, e0, q1, q2, q3, q4, q5⟩ := HRW.out.at_ (i := 2) (by omega)
          obtain rfl : wo.heap.size = b0 := by simpa using e0
          rw [wv_at] at q3
          have x1 := HBK.out j hlj
          have HSET := hide (show ∀ v, v = bits .xor .i64 (tot (M k) j % 2) (M k j) → Row (wr.setCell ⟨wo.heap.size, 2, none⟩ (.int .i64 v)) wo.heap.size (some ⟨wo.heap.size, 0, none⟩) 4 4 (wv 2 (M k) (j + 1)) from fun v hv => by
            have := q5 v
            rwa [wv_set 2 (M k) j v (by rw [hv, bit_xor (rest2_bd _) x1, rest2]; rfl)] at this)
          clear q5 e0 x1
          generalize tot (M k) j % 2 = y at *
          generalize M k j = x at *
          go_wp2_with fail
          go_roundw
          case rel => exact ⟨j + 1, by omega, by go_num, HSET.out _ rfl, hbi.setCell (p := ⟨wo.heap.size, 2, none⟩) (Nat.le_refl _) _⟩
          case measure => simp [intOf]; omega
        · obtain rfl : j = 2 := by omega
          have HP := hide (HC.out.push (A := some ⟨wo.heap.size, 0, none⟩) (c := 4) (xs := wv 2 (M k) 2) (wv_len _ _ _) wv_row)
          go_wp2_with (at_builtin; refine push_row rfl _ _ rfl R rfl (HT.out.keep hbi).tab (some ⟨wo.heap.size, 0, none⟩) 4 4 (wv 2 (M k) 2) (HRW.out.mono hz) _ rfl (by omega) (by omega) ?_; intro A3 c3 w3 ht3 hb3 hg3 hat3; have hz3 := hb3.size; have HX := hide (show _ ∧ _ from ⟨(HT.out.keep hbi).push (top' := w3.heap.size) HRW.out ht3 (by omega) (fun q hq => by have := (HRW.out.blk q (by rw [ownBlock_slice]; exact hq)).2; omega), (hb.trans (hbi.mono hz)).trans (hb3.mono (by omega))⟩); clear ht3 hb3 hg3 hat3)
          go_roundw
          case rel => first | exact ⟨k + 1, _, _, _, by omega, by go_num, rfl, HX.out.1, HP.out, HX.out.2⟩ | ((repeat apply Exists.intro); exact ⟨⟨k + 1, _, _, _, by omega, by go_num, rfl, HX.out.1, HP.out, HX.out.2⟩, rfl⟩)
          case measure => simp [intOf]; omega
    · obtain rfl : k = 2 := by omega
      have HWB := hide (W1_bin HB.out 3)
      obtain ⟨bA, rfl, hbA, hbA2⟩ : ∃ b, A' = some ⟨b, 0, none⟩ ∧ w.heap.size ≤ b ∧ b < wo.heap.size := by
        rcases HT.out.tab.form with ⟨_, h0, _⟩ | ⟨g, e, h1, h2, _⟩
        · omega
        · exact ⟨g, e, h1, h2⟩
      clear hmk2
      generalize hW : W1 2 M = W at *
      have HW := hide hW
      clear hW
      go_wp2_with fail
      go_loopw [53] (fun i wr => ∃ (r : Nat) (R : List Sl), r ≤ 2 ∧ i = .int .i64 r ∧ TabD wr w.heap.size wo.heap.size (some ⟨bA, 0, none⟩) 2 c' R ∧ TbC R 2 (3 + 1) (Cst 3 W r 0) ∧ Below w.heap.size w wr) (fun i _ => 2 - (intOf i).toNat)
      case atStart => exact ⟨0, R, by omega, rfl, HT.out, HC.out, hb⟩
      case round =>
        obtain ⟨r, Rr, hr, rfl, htr, hcr, hbr⟩ := hrel
        obtain ⟨wq, rfl⟩ : ∃ x, x = wr := ⟨_, rfl⟩
        by_cases hlr : r < 2
        · obtain ⟨b0, c0, hat⟩ := hcr.at_ htr (i := r) (j := 0) hlr (by omega)
          have a1 := hat.row
          have a2 := hat.cap
          have HTR := hide htr
          have HCR := hide hcr
          have HBR := hide hbr
          have HA1 := hide a1
          clear hat htr hcr hbr
          go_wp2_with fail
          clear a1
          go_loopw [62] (fun i wr => ∃ (k : Nat) (R : List Sl), k ≤ 3 ∧ i = .int .i64 k ∧ TabD wr w.heap.size wo.heap.size (some ⟨bA, 0, none⟩) 2 c' R ∧ TbC R 2 (3 + 1) (Cst 3 W r k) ∧ Below w.heap.size w wr ∧ wr.cell? ⟨bA, r, none⟩ = some (.slice (some ⟨b0, 0, none⟩) (3 + 1) c0)) (fun i _ => 3 - (intOf i).toNat)
          case atStart => exact ⟨0, Rr, by omega, rfl, HTR.out, HCR.out, HBR.out, HA1.out⟩
          case round =>
            obtain ⟨k, Rk, hk5, rfl, htk, hck, hbk, hrc⟩ := hrel
            obtain ⟨wi, rfl⟩ : ∃ x, x = wr := ⟨_, rfl⟩
            by_cases hlk : k < 3
            · obtain ⟨b1, c1, hat⟩ := hck.at_ htk (i := r) (j := k) hlr (by omega)
              have a1 := hat.row
              have a3 := hat.cell
              rw [hrc] at a1
              obtain ⟨rfl, _⟩ : b0 = b1 ∧ c0 = c1 := by simpa using a1
              rw [Cst, if_pos hlk] at a3
              have HRC := hide hrc
              have HTK := hide htk
              have HCK := hide hck
              have HBK := hide hbk
              have xb := HWB.out r k hlr hlk
              obtain ⟨i, hi⟩ : ∃ i, (r + k) % 3 = i := ⟨_, rfl⟩
              have hip : i < 3 := by omega
              have hie : ((r : Int) + (k : Int)) % 3 = (i : Int) := by omega
              have HI := hide hi
              clear hat htk hck hbk a1 hi
              by_cases hiq : i < 2
              · obtain ⟨b2, c2, hat2⟩ := HCK.out.at_ HTK.out (i := i) (j := 3) hiq (by omega)
                have d1 := hat2.row
                have d2 := hat2.cell
                have d3 := hat2.fz
                have d4 := hat2.lo
                have d5 := hat2.ne
                rw [Cst, if_neg (by omega)] at d2
                have HSET := hide (show ∀ v, v = bits .xor .i64 ((dg2 3 W i r + dg1 3 W i r k) % 2) (W r k) → ∃ R', TabD (wi.setCell ⟨b2, 3, none⟩ (.int .i64 v)) w.heap.size wo.heap.size (some ⟨bA, 0, none⟩) 2 c' R' ∧ TbC R' 2 (3 + 1) (Cst 3 W r (k + 1)) from fun v hv => by
                  obtain ⟨R', t1, t2⟩ := hat2.set v
                  rw [bit_xor (rest2_bd _) xb, rest2] at hv
                  subst hv
                  exact ⟨R', t1, t2.congr (cst_next HI.out)⟩)
                have hcell : ∀ v, (wi.setCell ⟨b2, 3, none⟩ v).cell? ⟨bA, r, none⟩ = some (.slice (some ⟨b0, 0, none⟩) (3 + 1) c0) := fun v => by
                  rw [World.cell?_setCell_other _ _ _ _ (by intro hh; injection hh with h1; exact d5 h1)]
                  exact HRC.out
                have HCELL := hide hcell
                clear hat2 hcell xb hrc
                generalize (dg2 3 W i r + dg1 3 W i r k) % 2 = y at *
                generalize W r k = x at *
                go_wp2_with fail
                obtain ⟨R', t1, t2⟩ := HSET.out _ rfl
                have HF := hide (show _ ∧ _ from ⟨t1, t2⟩)
                clear t1 t2
                go_roundw
                case rel => exact ⟨k + 1, R', by omega, by go_num, HF.out.1, HF.out.2, HBK.out.setCell (p := ⟨b2, 3, none⟩) d4 _, HCELL.out _⟩
                case measure => simp [intOf]; omega
              · have HSK := hide (HCK.out.congr (cst_skip HI.out (by omega)))
                clear xb hrc
                generalize W r k = x at *
                go_wp2_with fail
                go_roundw
                case rel => exact ⟨k + 1, Rk, by omega, by go_num, HTK.out, HSK.out, HBK.out, HRC.out⟩
                case measure => simp [intOf]; omega
            · obtain rfl : k = 3 := by omega
              have HTK := hide htk
              have HCK := hide (hck.congr (fun a b _ _ => cst_row a b))
              have HBK := hide hbk
              clear htk hck hbk hrc
              go_wp2_with fail
              go_roundw
              case rel => exact ⟨r + 1, Rk, by omega, by go_num, HTK.out, HCK.out, HBK.out⟩
              case measure => simp [intOf]; omega
        · obtain rfl : r = 2 := by omega
          have hw1 := hbr.size
          have HF := hide (show TbC Rr 2 (3 + 1) (plusF 3 M) from hcr.congr (fun a b _ hb => by rw [← HW.out]; exact cst_end (q := 2) a b hb))
          have HTR := hide htr
          have hwz : wo.heap.size ≤ wq.heap.size ∨ wq.heap.size < wo.heap.size := by omega
          go_wp2_with fail
          go_ret
          refine ⟨_, _, _, rfl, ⟨HTR.out.tab, HTR.out.apart, fun s hs k hk => ?_⟩, HF.out, hbr⟩
          exact (HTR.out.tab.2.2 s hs).blk k (by rw [ownBlock_slice]; exact hk) |>.2

set_option maxHeartbeats 4000000 in
set_option maxRecDepth 100000 in
theorem plusTwo5_any (A : Option Addr) (c : Nat) (M : Nat → Nat → Int) (w : World) (hM : Bin 4 4 M) (h : Mat w w.heap.size A 4 (fun _ => 4) M) :
    Calls Try.prog 71 #[.int .i64 5, .slice A 4 c] w (TbPost 4 (5 + 1) (plusF 5 M) w) := by
  obtain ⟨b, off, rfl, hbl, hc⟩ := h (by omega)
  have HB := hide hM
  have HC0 := hide hc
  clear h hM hc
  have hmk1 : ∀ w, (Instr.makeSlice 42 (.int .i64 0) (.int .i64 4)).run Try.prog w = .ok (.slice (some ⟨w.heap.size, 0, none⟩) 0 4) (w.alloc (.cells #[.slice none 0 0, .slice none 0 0, .slice none 0 0, .slice none 0 0] 22)) := fun _ => by kernel_rfl
  have hmk2 : ∀ w, (Instr.makeSlice 22 (.int .i64 6) (.int .i64 6)).run Try.prog w = .ok (.slice (some ⟨w.heap.size, 0, none⟩) 6 6) (w.alloc (.cells #[.int .i64 0, .int .i64 0, .int .i64 0, .int .i64 0, .int .i64 0, .int .i64 0] 3)) := fun _ => by kernel_rfl
  go_enter Try.func71, Try.ntmps71
  go_wp2_with fail
  clear hmk1
  go_loopw [5, 21] (fun v i wr => ∃ (k : Nat) (A' : Option Addr) (c' : Nat) (R : List Sl), k ≤ 4 ∧ i = .int .i64 k ∧ v = .slice A' k c' ∧ TabD wr w.heap.size wr.heap.size A' k c' R ∧ TbC R k (5 + 1) (Cst 5 (W1 4 M) 0 0) ∧ Below w.heap.size w wr) (fun _ i _ => 4 - (intOf i).toNat)
  case atStart => exact ⟨0, _, _, [], by omega, rfl, rfl, TabD.empty0 4 rfl (Nat.le_refl _), TbC.nil _ _, by go_grown⟩
  case round =>
    obtain ⟨k, A', c', R, hk, rfl, rfl, ht, hcp, hb⟩ := hrel
    obtain ⟨wo, rfl⟩ : ∃ x, x = wr := ⟨_, rfl⟩
    have HT := hide ht
    have HC := hide hcp
    have hz := hb.size
    clear ht hcp
    by_cases hlt : k < 4
    · obtain ⟨R1, C1, e1, e2⟩ := HC0.out k hlt
      obtain ⟨br, ro, rfl, hbr, hcr⟩ := e2 (by omega)
      have hck := (hb.cell (p := ⟨b, off + k, none⟩) hbl).trans e1
      have HCR := hide (fun j hj => (hb.cell (p := ⟨br, ro + j, none⟩) hbr).trans (hcr j hj))
      have hbr2 : br < wo.heap.size := by omega
      have HBK := hide (fun j hj => HB.out k j hlt hj)
      have hg0 : (wo.alloc (.cells #[.int .i64 0, .int .i64 0, .int .i64 0, .int .i64 0, .int .i64 0, .int .i64 0] 3)).heap[wo.heap.size]? = some (.cells ((List.replicate (4 + 2) (0 : Int)).map (Value.int .i64)).toArray 3 (0, 0)) := heap_alloc_new wo _
      have hcs : ∀ (j : Nat) (v : Value), ((listOf 4 (M k)).map (Value.int .i64))[j]? = some v → (wo.alloc (.cells #[.int .i64 0, .int .i64 0, .int .i64 0, .int .i64 0, .int .i64 0, .int .i64 0] 3)).cell? ((⟨br, ro, none⟩ : Addr).add j) = some v := fun j v hj => by
        have hj4 : j < 4 := by
          rcases Nat.lt_or_ge j 4 with h | h
          · exact h
          · rw [List.getElem?_eq_none (by simp [listOf_len]; exact h)] at hj; cases hj
        rw [List.getElem?_map, listOf_get _ hj4] at hj
        rw [add_mk]
        exact ((bcell ((Below.refl wo.heap.size wo).alloc (Nat.le_refl _) _)).1 br (ro + j) hbr2).trans ((HCR.out j hj4).trans hj)
      have HG0 := hide hg0
      have HCS := hide hcs
      clear hcs hg0 e1 e2 hcr
      go_wp2_with (refine wpList_copy_splice (o := ⟨some 30, _, _, _, _, _⟩) rfl (.tmp 28) (.tmp 29) 22 22 rfl 3 Try.underlying22 (by kernel_rfl) (some ⟨wo.heap.size, 0, none⟩) (some ⟨br, ro, none⟩) 6 6 4 C1 rfl rfl wo.heap.size 0 ((List.replicate (4 + 2) (0 : Int)).map (Value.int .i64)) 3 HG0.out ((listOf 4 (M k)).map (Value.int .i64)) (by simp [listOf_len]) (fun _ => ⟨rfl, _, rfl, HCS.out⟩) (by simp [listOf_len]) (fun v hv => by obtain ⟨z, _, rfl⟩ := List.mem_map.1 hv; rfl) wo.heap.size wo ((Below.refl _ _).alloc (Nat.le_refl _) _) (Nat.le_refl _) ?_; intro w1 hg1 hb1; rw [wide_splice 4 (M k) 0 rfl] at hg1)
      have HR1 := hide (show Row w1 wo.heap.size (some ⟨wo.heap.size, 0, none⟩) 6 6 (wv 4 (M k) 0) from by
        have := Row.of_blk (base := wo.heap.size) (xs := wv 4 (M k) 0) hg1.out (Nat.le_refl _) (by rw [wv_len]; omega)
        rw [wv_len] at this
        exact this)
      have HB1 := hide hb1
      clear hg1 hb1 hmk2 hck
      go_loopw [33] (fun i wr => ∃ j : Nat, j ≤ 4 ∧ i = .int .i64 j ∧ Row wr wo.heap.size (some ⟨wo.heap.size, 0, none⟩) 6 6 (wv 4 (M k) j) ∧ Below wo.heap.size wo wr) (fun i _ => 4 - (intOf i).toNat)
      case atStart => exact ⟨0, by omega, rfl, HR1.out, HB1.out⟩
      case round =>
        obtain ⟨j, hj, rfl, hrow, hbi⟩ := hrel
        have HRW := hide hrow
        have hzi := hbi.size
        clear hrow
        by_cases hlj : j < 4
        · have hcj := (hbi.cell (p := ⟨br, ro + j, none⟩) hbr2).trans (HCR.out j hlj)
          obtain ⟨b0, e0, q1, q2, q3, q4, q5⟩ := HRW.out.at_ (i := 4) (by omega)
          obtain rfl : wo.heap.size = b0 := by simpa using e0
          rw [wv_at] at q3
          have x1 := HBK.out j hlj
          have HSET := hide (show ∀ v, v = bits .xor .i64 (tot (M k) j % 2) (M k j) → Row (wr.setCell ⟨wo.heap.size, 4, none⟩ (.int .i64 v)) wo.heap.size (some ⟨wo.heap.size, 0, none⟩) 6 6 (wv 4 (M k) (j + 1)) from fun v hv => by
            have := q5 v
            rwa [wv_set 4 (M k) j v (by rw [hv, bit_xor (rest2_bd _) x1, rest2]; rfl)] at this)
          clear q5 e0 x1
          generalize tot (M k) j % 2 = y at *
          generalize M k j = x at *
          go_wp2_with fail
          go_roundw
          case rel => exact ⟨j + 1, by omega, by go_num, HSET.out _ rfl, hbi.setCell (p := ⟨wo.heap.size, 4, none⟩) (Nat.le_refl _) _⟩
          case measure => simp [intOf]; omega
        · obtain rfl : j = 4 := by omega
          have HP := hide (HC.out.push (A := some ⟨wo.heap.size, 0, none⟩) (c := 6) (xs := wv 4 (M k) 4) (wv_len _ _ _) wv_row)
          go_wp2_with (at_builtin; refine push_row rfl _ _ rfl R rfl (HT.out.keep hbi).tab (some ⟨wo.heap.size, 0, none⟩) 6 6 (wv 4 (M k) 4) (HRW.out.mono hz) _ rfl (by omega) (by omega) ?_; intro A3 c3 w3 ht3 hb3 hg3 hat3; have hz3 := hb3.size; have HX := hide (show _ ∧ _ from ⟨(HT.out.keep hbi).push (top' := w3.heap.size) HRW.out ht3 (by omega) (fun q hq => by have := (HRW.out.blk q (by rw [ownBlock_slice]; exact hq)).2; omega), (hb.trans (hbi.mono hz)).trans (hb3.mono (by omega))⟩); clear ht3 hb3 hg3 hat3)
          go_roundw
          case rel => first | exact ⟨k + 1, _, _, _, by omega, by go_num, rfl, HX.out.1, HP.out, HX.out.2⟩ | ((repeat apply Exists.intro); exact ⟨⟨k + 1, _, _, _, by omega, by go_num, rfl, HX.out.1, HP.out, HX.out.2⟩, rfl⟩)
          case measure => simp [intOf]; omega
    · obtain rfl : k = 4 := by omega
      have HWB := hide (W1_bin HB.out 5)
      obtain ⟨bA, rfl, hbA, hbA2⟩ : ∃ b, A' = some ⟨b, 0, none⟩ ∧ w.heap.size ≤ b ∧ b < wo.heap.size := by
        rcases HT.out.tab.form with ⟨_, h0, _⟩ | ⟨g, e, h1, h2, _⟩
        · omega
        · exact ⟨g, e, h1, h2⟩
      clear hmk2
      generalize hW : W1 4 M = W at *
      have HW := hide hW
      clear hW
      go_wp2_with fail
      go_loopw [53] (fun i wr => ∃ (r : Nat) (R : List Sl), r ≤ 4 ∧ i = .int .i64 r ∧ TabD wr w.heap.size wo.heap.size (some ⟨bA, 0, none⟩) 4 c' R ∧ TbC R 4 (5 + 1) (Cst 5 W r 0) ∧ Below w.heap.size w wr) (fun i _ => 4 - (intOf i).toNat)
      case atStart => exact ⟨0, R, by omega, rfl, HT.out, HC.out, hb⟩
      case round =>
        obtain ⟨r, Rr, hr, rfl, htr, hcr, hbr⟩ := hrel
        obtain ⟨wq, rfl⟩ : ∃ x, x = wr := ⟨_, rfl⟩
        by_cases hlr : r < 4
        · obtain ⟨b0, c0, hat⟩ := hcr.at_ htr (i := r) (j := 0) hlr (by omega)
          have a1 := hat.row
          have a2 := hat.cap
          have HTR := hide htr
          have HCR := hide hcr
          have HBR := hide hbr
          have HA1 := hide a1
          clear hat htr hcr hbr
          go_wp2_with fail
          clear a1
          go_loopw [62] (fun i wr => ∃ (k : Nat) (R : List Sl), k ≤ 5 ∧ i = .int .i64 k ∧ TabD wr w.heap.size wo.heap.size (some ⟨bA, 0, none⟩) 4 c' R ∧ TbC R 4 (5 + 1) (Cst 5 W r k) ∧ Below w.heap.size w wr ∧ wr.cell? ⟨bA, r, none⟩ = some (.slice (some ⟨b0, 0, none⟩) (5 + 1) c0)) (fun i _ => 5 - (intOf i).toNat)
          case atStart => exact ⟨0, Rr, by omega, rfl, HTR.out, HCR.out, HBR.out, HA1.out⟩
          case round =>
            obtain ⟨k, Rk, hk5, rfl, htk, hck, hbk, hrc⟩ := hrel
            obtain ⟨wi, rfl⟩ : ∃ x, x = wr := ⟨_, rfl⟩
            by_cases hlk : k < 5
            · obtain ⟨b1, c1, hat⟩ := hck.at_ htk (i := r) (j := k) hlr (by omega)
              have a1 := hat.row
              have a3 := hat.cell
              rw [hrc] at a1
              obtain ⟨rfl, _⟩ : b0 = b1 ∧ c0 = c1 := by simpa using a1
              rw [Cst, if_pos hlk] at a3
              have HRC := hide hrc
              have HTK := hide htk
              have HCK := hide hck
              have HBK := hide hbk
              have xb := HWB.out r k hlr hlk
              obtain ⟨i, hi⟩ : ∃ i, (r + k) % 5 = i := ⟨_, rfl⟩
              have hip : i < 5 := by omega
              have hie : ((r : Int) + (k : Int)) % 5 = (i : Int) := by omega
              have HI := hide hi
              clear hat htk hck hbk a1 hi
              by_cases hiq : i < 4
              · obtain ⟨b2, c2, hat2⟩ := HCK.out.at_ HTK.out (i := i) (j := 5) hiq (by omega)
                have d1 := hat2.row
                have d2 := hat2.cell
                have d3 := hat2.fz
                have d4 := hat2.lo
                have d5 := hat2.ne
                rw [Cst, if_neg (by omega)] at d2
                have HSET := hide (show ∀ v, v = bits .xor .i64 ((dg2 5 W i r + dg1 5 W i r k) % 2) (W r k) → ∃ R', TabD (wi.setCell ⟨b2, 5, none⟩ (.int .i64 v)) w.heap.size wo.heap.size (some ⟨bA, 0, none⟩) 4 c' R' ∧ TbC R' 4 (5 + 1) (Cst 5 W r (k + 1)) from fun v hv => by
                  obtain ⟨R', t1, t2⟩ := hat2.set v
                  rw [bit_xor (rest2_bd _) xb, rest2] at hv
                  subst hv
                  exact ⟨R', t1, t2.congr (cst_next HI.out)⟩)
                have hcell : ∀ v, (wi.setCell ⟨b2, 5, none⟩ v).cell? ⟨bA, r, none⟩ = some (.slice (some ⟨b0, 0, none⟩) (5 + 1) c0) := fun v => by
                  rw [World.cell?_setCell_other _ _ _ _ (by intro hh; injection hh with h1; exact d5 h1)]
                  exact HRC.out
                have HCELL := hide hcell
                clear hat2 hcell xb hrc
                generalize (dg2 5 W i r + dg1 5 W i r k) % 2 = y at *
                generalize W r k = x at *
                go_wp2_with fail
                obtain ⟨R', t1, t2⟩ := HSET.out _ rfl
                have HF := hide (show _ ∧ _ from ⟨t1, t2⟩)
                clear t1 t2
                go_roundw
                case rel => exact ⟨k + 1, R', by omega, by go_num, HF.out.1, HF.out.2, HBK.out.setCell (p := ⟨b2, 5, none⟩) d4 _, HCELL.out _⟩
                case measure => simp [intOf]; omega
              · have HSK := hide (HCK.out.congr (cst_skip HI.out (by omega)))
                clear xb hrc
                generalize W r k = x at *
                go_wp2_with fail
                go_roundw
                case rel => exact ⟨k + 1, Rk, by omega, by go_num, HTK.out, HSK.out, HBK.out, HRC.out⟩
                case measure => simp [intOf]; omega
            · obtain rfl : k = 5 := by omega
              have HTK := hide htk
              have HCK := hide (hck.congr (fun a b _ _ => cst_row a b))
              have HBK := hide hbk
              clear htk hck hbk hrc
              go_wp2_with fail
              go_roundw
              case rel => exact ⟨r + 1, Rk, by omega, by go_num, HTK.out, HCK.out, HBK.out⟩
              case measure => simp [intOf]; omega
        · obtain rfl : r = 4 := by omega
          have hw1 := hbr.size
          have HF := hide (show TbC Rr 4 (5 + 1) (plusF 5 M) from hcr.congr (fun a b _ hb => by rw [← HW.out]; exact cst_end (q := 4) a b hb))
          have HTR := hide htr
          have hwz : wo.heap.size ≤ wq.heap.size ∨ wq.heap.size < wo.heap.size := by omega
          go_wp2_with fail
          go_ret
          refine ⟨_, _, _, rfl, ⟨HTR.out.tab, HTR.out.apart, fun s hs k hk => ?_⟩, HF.out, hbr⟩
          exact (HTR.out.tab.2.2 s hs).blk k (by rw [ownBlock_slice]; exact hk) |>.2

end Go.Proofs.Ytkalecdjcdgodaa
