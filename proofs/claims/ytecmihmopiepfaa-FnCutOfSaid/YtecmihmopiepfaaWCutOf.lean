/-
  FnCutOf returns true for every code: the walk. Conditions: none.
-/
import Derived.Test.YtecmihmopiepfaaFlowLaw
namespace Go.Proofs.Ytecmihmopiepfaa
open Go.RowKit

theorem cut_spec {n : Nat} {L : Nat → Nat} {M : Nat → Nat → Int} {v : Int} (h : 0 ≤ cutOfV n L M v) :
    ∃ t : Nat, v = t ∧ (1 ≤ t ∧ t < n) ∧ (2 ≤ n ∧ n ≤ 6) ∧ (∀ a, a < n → L a = n) ∧ (∀ a b, a < n → b < n → 0 ≤ M a b ∧ M a b ≤ 20) ∧ cutOfV n L M v ≤ tot (M 0) n ∧ cutOfV n L M v ≤ tot (fun a => M a t) n := by
  rw [← flow_cut] at h
  obtain ⟨t, rfl, ht, hv, e⟩ := flow_ok h
  obtain ⟨hn, hL, hM, _⟩ := vNet_cut hv
  have hc : cutOfV n L M t = cutV n t M := by
    rw [cutOfV, if_pos (by rw [hv, Bool.true_and, inR_true]; omega)]; rfl
  obtain ⟨h1, h2⟩ := cut_sides hv ht
  exact ⟨t, rfl, ht, hn, hL, hM, by omega, by omega⟩

set_option maxHeartbeats 1000000 in
theorem fnCutOf_walk (a : Option Addr) (len cap : Nat) (zs : List Int) (w : World) (h : IsRow .u8 w a len cap zs) :
    Calls Try.prog 6 #[.slice a len cap] w fun e w' => e = .returned (.bool true) ∧ Below w.heap.size w w' := by
  have hlen : len ≤ 9223372036854775807 := by obtain ⟨h1, h2, _⟩ := bytes_in h; unfold maxLen at h2; omega
  have Hh := hide h
  clear h
  by_cases hl : 1048576 < len
  · go_enter Try.func6, Try.ntmps6
    go_wp2_with fail
    go_ret
    exact ⟨rfl, by go_grown⟩
  go_enter Try.func6, Try.ntmps6
  go_wp2_with fail
  refine (DrawCutOf_any a len cap zs w _ Hh.out (by go_grown)).mono ?_
  rintro e w1 ⟨A, n, c, L, M, v, rfl, hd⟩
  obtain ⟨hm, hn, hL, B1, _⟩ := hd
  have HM := hide (fun (W : World) (hb : Below w1.heap.size w1 W) => hm.keep hb hb.size)
  have HL := hide (fun i (hi : i < n) => Nat.le_trans (hL i hi) (show 8 ≤ 1048576 by omega))
  have Sp := hide (@cut_spec n L M v)
  have I := hide (fun W hb => CutOfI_any A n c L M v W (by omega) HL.out (HM.out W hb))
  have S := hide (fun W hb => CutOfS_any A n c L M v W (by omega) HL.out (HM.out W hb))
  have FI := hide (fun W hb => FlowOfI_any A n c L M v W (by omega) HL.out (HM.out W hb))
  rw [flow_cut n L M v] at FI
  clear hm hL
  generalize cutOfV n L M v = y at *
  have e1 : (y != y) = false := by simp
  have e2 : (y == y) = true := by simp
  go_wp2_with fail
  refine (I.out _ (Below.refl _ _)).mono ?_
  rintro e w2 ⟨rfl, hb2⟩
  go_wp2_with fail
  refine (S.out _ hb2).mono ?_
  rintro e w3 ⟨rfl, hb3⟩
  have hc3 : Below w1.heap.size w1 w3 := up hb3 hb2 hb2.size
  by_cases hy : y < 0
  · go_wp2_with fail
    refine (S.out _ hc3).mono ?_
    rintro e w4 ⟨rfl, hb4⟩
    go_wp2_with fail
    go_ret
    exact ⟨rfl, up (up hb4 hc3 hc3.size) B1 B1.size⟩
  obtain ⟨t, rfl, ht, hn6, hLn, hMb, hs1, hs2⟩ := Sp.out (by omega)
  have HLn := hide hLn
  have HMb := hide hMb
  have HTB := hide (fun j hj => tot_bd (f := fun a => M a t) (B := 20) (fun i hi => hMb i t hi ht.2) j hj)
  clear hLn hMb Sp
  go_wp2_with fail
  go_loopw [6, 7] (fun m i wr => ∃ k : Nat, k ≤ n ∧ i = .int .i64 k ∧ m = .int .i64 (tot (fun a => M a t) k) ∧ wr = w3) (fun _ i _ => n - (intOf i).toNat)
  case atStart => exact ⟨0, by omega, rfl, rfl, rfl⟩
  case round =>
    obtain ⟨k, hk, rfl, rfl, hwr⟩ := hrel
    subst hwr
    have b1 := HTB.out k hk
    by_cases hlt : k < n
    · obtain ⟨b, off, rfl, hbl, hc⟩ := HM.out _ hc3 (by omega)
      obtain ⟨R1, C1, f1, f2⟩ := hc k hlt
      have hlk := HLn.out k hlt
      rw [hlk] at f1 f2
      obtain ⟨rb, ro, rfl, hrb, hrc⟩ := f2 (by omega)
      have hct := hrc t ht.2
      have b2 := HMb.out k t hlt ht.2
      have HS := hide (show tot (fun a => M a t) (k + 1) = tot (fun a => M a t) k + M k t from rfl)
      clear hc f2 hrc hlk
      generalize tot (fun a => M a t) k = z at *
      generalize M k t = x at *
      go_wp2_with fail
      go_roundw
      case rel => exact ⟨k + 1, by omega, by go_num, by rw [HS.out], by first | trivial | rfl⟩
      case measure => simp [intOf]; omega
    · obtain rfl : k = n := by omega
      obtain ⟨b, off, rfl, hbl, hc⟩ := HM.out _ hc3 (by omega)
      obtain ⟨R1, C1, f1, f2⟩ := hc 0 (by omega)
      have hlk := HLn.out 0 (by omega)
      rw [hlk] at f1 f2
      simp only [Nat.add_zero] at f1
      have HT := hide (fun W hb => total_any R1 k C1 (M 0) W (by omega) (fun i hi => by have := HMb.out 0 i (by omega) hi; omega) (f2.keep hb hb.size))
      have HF1 := hide f1
      clear hc f2 hlk f1
      generalize tot (fun a => M a t) k = z at *
      generalize tot (M 0) k = z0 at *
      go_wp2_with fail
      refine (FI.out _ hc3).mono ?_
      rintro e w4 ⟨rfl, hb4⟩
      have f1' := (hb4.cell (p := ⟨b, off, none⟩) hbl).trans HF1.out
      go_wp2_with fail
      refine (HT.out _ hb4).mono ?_
      rintro e _ ⟨rfl, rfl⟩
      go_wp2_with fail
      go_ret
      exact ⟨ret_bool (by simp <;> omega), up (up hb4 hc3 hc3.size) B1 B1.size⟩
end Go.Proofs.Ytecmihmopiepfaa
