/-
  FnFlowOf returns true for every code: the walk. Conditions: none.
-/
import Derived.Test.YtecmihmopiepfaaFlowLaw
namespace Go.Proofs.Ytecmihmopiepfaa
open Go.RowKit

theorem flow_spec {n : Nat} {L : Nat → Nat} {M : Nat → Nat → Int} {v : Int} (h : 0 ≤ flowOfV n L M v) :
    ∃ t : Nat, v = t ∧ (1 ≤ t ∧ t < n) ∧ (2 ≤ n ∧ n ≤ 6) ∧ (∀ a, a < n → L a = n) ∧ (∀ a b, a < n → b < n → 0 ≤ M a b ∧ M a b ≤ 20) ∧ flowOfV n L M v ≤ 720 ∧ (M 0 t + 1 ≤ 20 → flowOfV n (fun _ => n) (upd M 0 t (M 0 t + 1)) t = flowOfV n L M v + 1) := by
  obtain ⟨t, rfl, ht, hv, e⟩ := flow_ok h
  obtain ⟨hn, hL, hM, _⟩ := vNet_cut hv
  have hb : flowOfV n L M t ≤ 720 := by
    rw [flow_cut, cutOfV, if_pos (by rw [hv, Bool.true_and, inR_true]; omega)]
    exact (cutF_bd hn.2 (fun a b ha hb => hM a b ha hb) _).2
  exact ⟨t, rfl, ht, hn, hL, hM, hb, fun h => by rw [flow_more hv ht h, e]⟩

set_option maxHeartbeats 2000000 in
theorem fnFlowOf_walk (a : Option Addr) (len cap : Nat) (zs : List Int) (w : World) (h : IsRow .u8 w a len cap zs) :
    Calls Try.prog 10 #[.slice a len cap] w fun e w' => e = .returned (.bool true) ∧ Below w.heap.size w w' := by
  have hlen : len ≤ 9223372036854775807 := by obtain ⟨h1, h2, _⟩ := bytes_in h; unfold maxLen at h2; omega
  have Hh := hide h
  clear h
  by_cases hl : 1048576 < len
  · go_enter Try.func10, Try.ntmps10
    go_wp2_with fail
    go_ret
    exact ⟨rfl, by go_grown⟩
  go_enter Try.func10, Try.ntmps10
  go_wp2_with fail
  refine (DrawFlowOf_any a len cap zs w _ Hh.out (by go_grown)).mono ?_
  rintro e w1 ⟨A, n, c, L, M, v, rfl, hd⟩
  obtain ⟨hm, hn, hL, B1, _⟩ := hd
  have HM := hide (fun (W : World) (hb : Below w1.heap.size w1 W) => hm.keep hb hb.size)
  have HL := hide (fun i (hi : i < n) => Nat.le_trans (hL i hi) (show 8 ≤ 1048576 by omega))
  have Sp := hide (@flow_spec n L M v)
  have I := hide (fun W hb => FlowOfI_any A n c L M v W (by omega) HL.out (HM.out W hb))
  have S := hide (fun W hb => FlowOfS_any A n c L M v W (by omega) HL.out (HM.out W hb))
  have CI := hide (fun W hb => CutOfI_any A n c L M v W (by omega) HL.out (HM.out W hb))
  rw [← flow_cut n L M v] at CI
  clear hm hL
  generalize flowOfV n L M v = y at *
  have e1 : (y != y) = false := by simp
  have e2 : (y == y) = true := by simp
  go_wp2_with fail
  refine (I.out _ (Below.refl _ _)).mono ?_
  rintro e w2 ⟨rfl, hb2⟩
  go_wp2_with fail
  refine (S.out _ hb2).mono ?_
  rintro e w3 ⟨rfl, hb3⟩
  have hc3 : Below w1.heap.size w1 w3 := up hb3 hb2 hb2.size
  have hz3 := hc3.size
  by_cases hy : y < 0
  · go_wp2_with fail
    refine (S.out _ hc3).mono ?_
    rintro e w4 ⟨rfl, hb4⟩
    go_wp2_with fail
    go_ret
    exact ⟨rfl, up (up hb4 hc3 hc3.size) B1 B1.size⟩
  obtain ⟨t, rfl, ht, hn6, hLn, hMb, hy2, hmore⟩ := Sp.out (by omega)
  have HLn := hide hLn
  have HMb := hide hMb
  have HMO := hide hmore
  clear hLn hMb hmore Sp
  go_wp2_with fail
  go_loopw [6, 7] (fun v i wr => ∃ (k : Nat) (A' : Option Addr) (c' : Nat) (R : List Sl), k ≤ n ∧ i = .int .i64 k ∧ v = .slice A' k c' ∧ TabD wr w1.heap.size wr.heap.size A' k c' R ∧ Copied R k L M ∧ Below w1.heap.size w1 wr) (fun _ i _ => n - (intOf i).toNat)
  case atStart => exact ⟨0, _, _, [], by omega, rfl, rfl, TabD.empty0 0 rfl hz3, Copied.nil _ _, hc3.alloc (by omega) _⟩
  case round =>
    obtain ⟨k, A', c', R, hk, rfl, rfl, htb, hcp, hb⟩ := hrel
    have HT := hide htb
    have HC := hide hcp
    have hz := hb.size
    clear htb hcp
    by_cases hlt : k < n
    · obtain ⟨b, off, rfl, hbl, hc⟩ := HM.out _ hb (by omega)
      obtain ⟨R1, C1, hck, f2⟩ := hc k hlt
      have hbl2 : b < wr.heap.size := hbl
      have hlk := HLn.out k hlt
      rw [hlk] at hck f2
      have HI := hide (show Ints (wr.alloc (.cells #[] 3)) wr.heap.size R1 n (M k) from f2.keep ((Below.refl _ _).alloc (Nat.le_refl _) _) (Nat.le_refl _))
      have HP := hide (fun (A : Option Addr) (c : Nat) => HC.out.push (A := A) (c := c))
      rw [hlk] at HP
      clear hc f2 hlk
      go_wp2_with (first | (at_builtin; refine push_ints rfl _ _ rfl [] rfl (Row.lit (cs := #[]) (xs := []) (n := 0) (base := wr.heap.size) rfl rfl (Nat.le_refl _)) (M k) HI.out (by omega) rfl (by omega) (by simp) ?_; intro A2 c2 w2 hr2 hb2 hg2; rw [Nat.zero_add] at hr2; rw [List.nil_append] at hr2; rw [Nat.zero_add]; have hz2 : wr.heap.size + 1 ≤ w2.heap.size := (by have := hg2.size; simpa using this); have HF := hide (show Row w2 wr.heap.size A2 n c2 (listOf n (M k)) ∧ Below wr.heap.size wr w2 from ⟨hr2, ((Below.refl _ _).alloc (Nat.le_refl _) _).trans hb2⟩); clear hr2 hb2 hg2) | (at_builtin; refine push_row rfl _ _ rfl R rfl (HT.out.keep HF.out.2).tab A2 n c2 (listOf n (M k)) (HF.out.1.mono hz) _ rfl (by omega) (by omega) ?_; intro A3 c3 w4 ht3 hb4 hg3 hat3; have hz4 := hb4.size; have HX := hide (show _ ∧ _ from ⟨(HT.out.keep HF.out.2).push (top' := w4.heap.size) HF.out.1 ht3 (by omega) (fun q hq => by have := (HF.out.1.blk q (by rw [ownBlock_slice]; exact hq)).2; omega), (hb.trans (HF.out.2.mono hz)).trans (hb4.mono (by omega))⟩); clear ht3 hb4 hg3 hat3))
      go_roundw
      case rel => first | exact ⟨k + 1, _, _, _, by omega, by go_num, rfl, HX.out.1, by have := HP.out A2 c2; exact this, HX.out.2⟩ | ((repeat apply Exists.intro); exact ⟨⟨k + 1, _, _, _, by omega, by go_num, rfl, HX.out.1, by have := HP.out A2 c2; exact this, HX.out.2⟩, rfl⟩)
      case measure => simp [intOf]; omega
    · obtain rfl : k = n := by omega
      obtain ⟨bA, rfl, hbA, hbA2⟩ : ∃ b, A' = some ⟨b, 0, none⟩ ∧ w1.heap.size ≤ b ∧ b < wr.heap.size := by
        rcases HT.out.tab.form with ⟨_, h0, _⟩ | ⟨g, e, h1, h2, _⟩
        · omega
        · exact ⟨g, e, h1, h2⟩
      have hfm := FlM.of_copied HC.out HLn.out
      obtain ⟨b0, d0, hat⟩ := hfm.at_ HT.out (i := 0) (j := t) (by omega) (by omega)
      have a1 := hat.row
      have a2 := hat.cell
      have a3 := hat.fz
      have hb0 : w1.heap.size ≤ b0 := hat.lo
      have HSET := hide (hat.set (M 0 t + 1))
      have hxb := HMb.out 0 t (by omega) (by omega)
      have HMO' := HMO.out
      have HMO2 := hide HMO'
      clear hat hfm HMO' HMO
      generalize hx : M 0 t = x at *
      clear hx
      go_wp2_with fail
      go_region
      obtain ⟨R2, ht2, hm2⟩ := HSET.out
      refine nameX (fun wx => (TabD wx w1.heap.size wr.heap.size (some ⟨bA, 0, none⟩) k c' R2 ∧ FlM R2 k (upd M 0 t (x + 1))) ∧ Below w1.heap.size w1 wx) ?_ ?_
      · exact ⟨⟨(by first | exact ht2 | exact ht2.drew), hm2⟩, (by first | exact hb.setCell (p := ⟨b0, t, none⟩) hb0 _ | exact Below.drew (hb.setCell (p := ⟨b0, t, none⟩) hb0 _))⟩
      rintro wx ⟨⟨ht3, hm3⟩, hbx⟩
      have HMM := hide (fun (W : World) (hW : Below wx.heap.size wx W) => (hm3.mat ht3).keep hW hW.size)
      obtain ⟨b2, d2, hat2⟩ := hm3.at_ ht3 (i := 0) (j := t) (by omega) (by omega)
      have q1 := hat2.row
      have q2 := hat2.cell
      rw [upd_at] at q2
      have hb2x : b2 < wx.heap.size := by
        rcases Nat.lt_or_ge b2 wx.heap.size with h | h
        · exact h
        · unfold World.cell? at q2
          rw [Array.getElem?_eq_none (by simpa using h)] at q2
          simp at q2
      have hbAx : bA < wx.heap.size := by
        rcases ht3.tab.form with ⟨h, _, _⟩ | ⟨g, e, _, h2, _⟩
        · cases h
        · injection e with e; injection e with e; omega
      have Q1 := hide q1
      have Q2 := hide q2
      clear hat2 ht2 hm2 ht3 hm3 a1 a2 a3 q1 q2
      go_wp2_with fail
      refine (CI.out _ hbx).mono ?_
      rintro e w5 ⟨rfl, hb5⟩
      have q1 := (hb5.cell (p := ⟨bA, 0, none⟩) hbAx).trans Q1.out
      have q2 := (hb5.cell (p := ⟨b2, t, none⟩) hb2x).trans Q2.out
      have HB5 := hide (up hb5 hbx hbx.size)
      have hb5' := hb5
      by_cases hx20 : 20 < x + 1
      · go_wp2_with fail
        go_ret
        exact ⟨ret_bool (by simp <;> omega), up HB5.out B1 B1.size⟩
      · have hval := HMO2.out (by omega)
        have FM := hide (FlowOfI_any (some ⟨bA, 0, none⟩) k c' (fun _ => k) (upd M 0 t (x + 1)) t w5 (by omega) (fun _ _ => by omega) (HMM.out _ hb5'))
        rw [hval] at FM
        clear hval hb5'
        go_wp2_with fail
        refine (FM.out).mono ?_
        rintro e w6 ⟨rfl, hb6⟩
        go_wp2_with fail
        go_ret
        exact ⟨ret_bool (by simp <;> omega), up (up hb6 HB5.out HB5.out.size) B1 B1.size⟩
end Go.Proofs.Ytecmihmopiepfaa
