/-
  FnRowsPlusTwo returns true for every code: the walk. Conditions: none.
-/
import Derived.Test.YtkalecdjcdgodaaArrDraw
import Derived.Test.YtkalecdjcdgodaaMendAgain
import Derived.Test.YtkalecdjcdgodaaLawHelp2
import Derived.Test.YtkalecdjcdgodaaWExactMend
namespace Go.Proofs.Ytkalecdjcdgodaa
open Go.RowKit

theorem Mat.const {w : World} {B n m : Nat} {A : Option Addr} {L : Nat → Nat} {M : Nat → Nat → Int} (h : Mat w B A n L M) (hl : ∀ i, i < n → L i = m) : Mat w B A n (fun _ => m) M := fun h0 => by
  obtain ⟨b, off, e, hb, hc⟩ := h h0
  exact ⟨b, off, e, hb, fun i hi => by obtain ⟨R, C, h1, h2⟩ := hc i hi; rw [hl i hi] at h1 h2; exact ⟨R, C, h1, h2⟩⟩
theorem quietA {P : Program} {f : FuncId} {args : Array Value} {w : World} {a n : Nat} {v : Value}
    (h : Calls P f args (w.drewN (a + n)) fun e w' => e = .returned v ∧ w.drewN (a + n) = w') :
    Calls P f args (w.drewN (a + n)) fun e w'' => e = .returned v ∧ ∃ m, w'' = w.drewN (a + m) :=
  h.mono fun _ _ ⟨he, hm⟩ => ⟨he, n, hm.symm⟩

set_option maxRecDepth 100000 in
set_option maxHeartbeats 4000000 in
theorem fnRowsPlusTwo_walk (a : Option Addr) (len cap : Nat) (zs : List Int) (w : World) (h : IsRow .u8 w a len cap zs) :
    Calls Try.prog 9 #[.slice a len cap] w fun e w' => e = .returned (.bool true) ∧ Below w.heap.size w w' := by
  have hlen : len ≤ 9223372036854775807 := by obtain ⟨h1, h2, _⟩ := bytes_in h; unfold maxLen at h2; omega
  have Hh := hide h
  clear h
  by_cases hl : 1048576 < len
  · go_enter Try.func9, Try.ntmps9
    go_wp2_with fail
    go_ret
    exact ⟨rfl, by go_grown⟩
  go_enter Try.func9, Try.ntmps9
  go_wp2_with fail
  refine (DrawRowsPlusTwo_any a len cap zs w _ Hh.out (by go_grown)).mono ?_
  rintro e w1 ⟨p, A, n, c, R, rfl, hr1, hl8, hn, B1⟩
  have hL0 : ∀ i, i < n → (R.getD i ⟨none, 0, []⟩).xs.length ≤ 8 := fun i hi => by
    have hi' : i < R.length := by rw [hr1.1]; exact hi
    simp only [List.getD, List.getElem?_eq_getElem hi', Option.getD_some]
    exact hl8 _ (List.getElem_mem hi')
  have hm1 := hr1.mat
  have hL : ∀ i, i < n → (fun i => (R.getD i ⟨none, 0, []⟩).xs.length) i ≤ 8 := hL0
  have HB1 := hide B1
  clear hr1 hl8 B1 hL0
  generalize (fun i => (R.getD i ⟨none, 0, []⟩).xs.length) = L at *
  generalize (fun i j => (R.getD i ⟨none, 0, []⟩).xs.getD j 0) = M at *
  have HM := hide (fun (W : World) (hb : Below w1.heap.size w1 W) => hm1.keep hb hb.size)
  have HL := hide hL
  have I := hide (fun (W : World) (hb : Below w1.heap.size w1 W) => RowsPlusTwoI_any p A n c L M W (by omega) (fun i hi => Nat.le_trans (HL.out i hi) (by omega)) (HM.out W hb))
  have S := hide (fun (W : World) (hb : Below w1.heap.size w1 W) => RowsPlusTwoS_any p A n c L M W (by omega) (fun i hi => Nat.le_trans (HL.out i hi) (by omega)) (HM.out W hb))
  have hbd := (rp_bd p n L M).1
  have HBD := hide (rp_bd p n L M).2
  have HN := hide (show arrB p n L M = true ∧ rpN p n L M = n ∨ rpN p n L M = 0 by
    cases h : arrB p n L M
    · exact .inr (by simp [rpN, h])
    · exact .inl ⟨rfl, by simp [rpN, h]⟩)
  clear hm1 hL R
  go_wp2_with fail
  refine (I.out _ (Below.refl _ _)).mono ?_
  rintro e w2 ⟨R1, k1, T1, rfl, ht1, hc1, hb2⟩
  have HT1 := hide ht1
  have HC1 := hide hc1
  have HB2 := hide hb2
  clear ht1 hc1 hb2
  generalize hNN : rpN p n L M = N at *
  generalize hMM : rpM p M = F at *
  have HNN := hide hNN
  have HMM := hide hMM
  clear hNN hMM
  have hPb : p.toNat + 1 ≤ 1000 ∨ N = 0 := by
    by_cases h0 : 0 < N
    · exact .inl (HBD.out 0 h0)
    · exact .inr (by omega)
  have hLb : ∀ i, i < N → (fun _ : Nat => p.toNat + 1) i ≤ 9223372036854775807 := fun i hi => by dsimp only; omega
  have HLB := hide hLb
  clear hLb
  go_wp2_with fail
  refine (S.out _ HB2.out).mono ?_
  rintro e w3 ⟨R2, k2, T2, rfl, ht2, hc2, hb3⟩
  rw [HNN.out] at ht2 hc2
  rw [HMM.out] at hc2
  rw [HNN.out]
  have HB3 := hide (up hb3 HB2.out HB2.out.size)
  have HT3 := hide (HT1.out.keep hb3)
  have E1 := hide (equalLists_b R1 R2 N k1 k2 _ _ F F w3 (by omega) HLB.out (HC1.out.mat HT3.out) (hc2.mat ht2) (fun i _ => ⟨rfl, fun j _ => rfl⟩))
  clear ht2 hc2 hb3 HT1
  go_wp2_with fail
  refine (E1.out).mono ?_
  rintro e w4 ⟨rfl, hb4⟩
  have HB4 := hide (up hb4 HB3.out HB3.out.size)
  have HT4 := hide (HT3.out.keep hb4)
  clear E1 hb4 HT3
  by_cases h0 : N = 0
  · subst h0
    go_wp2_with fail
    refine (S.out _ HB4.out).mono ?_
    rintro e w5 ⟨R3, k3, T3, rfl, ht5, hc5, hb5⟩
    rw [HNN.out] at ht5 hc5
    rw [HNN.out]
    have E2 := hide (equalLists_b R1 R3 0 k1 k3 _ _ F _ w5 (by omega) (fun i hi => by omega) (HC1.out.mat (HT4.out.keep hb5)) (hc5.mat ht5) (fun i hi => by omega))
    have HB5 := hide (up hb5 HB4.out HB4.out.size)
    clear ht5 hc5 hb5
    go_wp2_with fail
    refine (E2.out).mono ?_
    rintro e w6 ⟨rfl, hb6⟩
    go_wp2_with fail
    go_ret
    exact ⟨rfl, up (up hb6 HB5.out HB5.out.size) HB1.out HB1.out.size⟩
  obtain ⟨hok, hNm⟩ : arrB p n L M = true ∧ N = n := by
    rcases HN.out with h | h
    · exact h
    · exact absurd h h0
  subst hNm
  obtain ⟨hpn, hle, hbin⟩ := arr_ok hok
  have HM4 := hide ((HM.out w4 HB4.out).const hle)
  have HMM2 := hide (show F = plusF p.toNat M from HMM.out.symm)
  clear HMM HNN HN hok I S HM HL HBD HLB h0 hbd
  rcases hpn with ⟨rfl, rfl⟩ | ⟨rfl, rfl⟩
  · have hF : F = plusF 3 M := HMM2.out
    subst hF
    have HMD := hide (show mdB 3 2 (fun _ => 4) (plusF 3 M) 0 = true ∧ mdN 3 2 (fun _ => 4) (plusF 3 M) 0 = 2 ∧ (∀ i, mdL 3 i = 2) ∧ ∀ i j, i < 2 → j < 2 → mdM 3 2 (fun _ => 4) (plusF 3 M) 0 i j = M i j from md_none (P := 3) (q := 2) (M := M) (by omega) hbin)
    have HEV := hide (fun i => even_row (P := 3) (q := 2) (M := M) (i := i) rfl)
    have HFB := hide (show Bin 2 4 (plusF 3 M) from W2_bin (W1_bin hbin _) _)
    have HC4 := hide (show TbC T1 2 4 (plusF 3 M) from HC1.out)
    obtain ⟨bo, oo, eo, hbo, hco⟩ := HC4.out.matC HT4.out (by omega)
    subst eo
    obtain ⟨ba, oa, ea, hba, hca⟩ := HM4.out (by omega)
    subst ea
    have HCO := hide hco
    have HCA := hide hca
    have HBIN := hide hbin
    clear hco hca hle hPb HMM2 HC1 hbin
    go_wp2_with fail
    go_loopw [6] (fun i wr => ∃ k : Nat, k ≤ 2 ∧ i = .int .i64 k ∧ ∃ q, wr = w4.drewN q) (fun i _ => 2 - (intOf i).toNat)
    case atStart => exact ⟨0, by omega, rfl, 0, rfl⟩
    case round =>
      obtain ⟨k, hk, rfl, q, rfl⟩ := hrel
      by_cases hkq : k < 2
      · obtain ⟨Ro, Co, e1, e2, e3⟩ := HCO.out k hkq
        obtain ⟨Ra, Ca, f1, f2⟩ := HCA.out k hkq
        obtain ⟨b1, o1, rfl, hb1, hc1⟩ := e3 (by omega)
        obtain ⟨b2, o2, rfl, hb2, hc2⟩ := f2 (by omega)
        have HQ1 := hide (fun (W : World) (hW : ∃ q', W = w4.drewN q') => (equalInts_any (some ⟨b1, o1, none⟩) (some ⟨b2, o2, none⟩) 2 2 Co Ca (plusF 3 M k) (M k) W (by omega) (by omega) (by obtain ⟨q', rfl⟩ := hW; exact fun _ => ⟨b1, o1, rfl, hb1, fun j hj => hc1 j (by omega)⟩) (by obtain ⟨q', rfl⟩ := hW; exact fun _ => ⟨b2, o2, rfl, hb2, fun j hj => hc2 j (by omega)⟩)))
        have heq : eqB 2 2 (plusF 3 M k) (M k) = true := eqB_true.2 ⟨rfl, fun j hj => plusF_low hj⟩
        rw [heq] at HQ1
        have HQ2 := hide (fun (W : World) (hW : ∃ q', W = w4.drewN q') => (total_any (some ⟨b1, o1, none⟩) 3 Co (plusF 3 M k) W (by omega) (by obtain ⟨q', rfl⟩ := hW; exact fun _ => ⟨b1, o1, rfl, hb1, fun j hj => hc1 j (by omega)⟩) (fun j hj => by
          have := tot_bd (f := plusF 3 M k) (n := 3) (B := 1) (fun i hi => by have := HFB.out k i hkq (by omega); omega) j hj
          rw [totN_tot]; omega)))
        have hev := HEV.out k
        have htb := tot_bd (f := plusF 3 M k) (n := 3) (B := 1) (fun i hi => by have := HFB.out k i hkq (by omega); omega) 3 (by omega)
        rw [← totN_tot] at htb
        generalize totN (plusF 3 M k) 3 = z at *
        have hne : (z % 2 != 0) = false := by simp [hev]
        have htm : z.tmod 2 = z % 2 := Int.tmod_eq_emod_of_nonneg htb.1
        have hkI : (k : Int) < 2 := by omega
        have hkI0 : (0 : Int) ≤ (k : Int) := by omega
        clear e3 f2 hc1 hc2 heq
        go_wp2_with fail
        go_quiet ((first | (go_at_call 21; with_reducible exact quiet_add (HQ1.out _ ⟨_, rfl⟩)) | (go_at_call 28; with_reducible exact quietA (HQ2.out _ ⟨_, rfl⟩))))
        go_wp2_with fail
        go_roundw
        case rel => exact ⟨k + 1, by omega, by go_num, by first | exact ⟨_, rfl⟩ | exact ⟨_, World.drewN_drewN _ _ _⟩⟩
        case measure => simp [intOf]; omega
      · obtain rfl : k = 2 := by omega
        have HMT := hide (MendTwoI_any 3 (some ⟨bo, oo, none⟩) 2 k1 (fun _ => 4) (plusF 3 M) 0 (w4.drewN q) (by omega) (fun i _ => by omega) (show MatC w4 w4.heap.size _ _ _ _ from HC4.out.matC HT4.out))
        go_wp2_with fail
        refine (HMT.out).mono ?_
        rintro e w5 ⟨A5, c5, rfl, hm5, hb5⟩
        obtain ⟨m1, m2, m3, m4⟩ := HMD.out
        rw [m1, m2] 
        rw [m2] at hm5
        have HB5 := hide (show Below w1.heap.size w1 w5 from up hb5 (below_drewN HB4.out q) (by have := HB4.out.size; exact this))
        have E5 := hide (equalLists_b A5 (some ⟨ba, oa, none⟩) 2 c5 c (mdL 3) (fun _ => 2) (mdM 3 2 (fun _ => 4) (plusF 3 M) 0) M w5 (by omega) (fun i _ => by have := m3 i; have e : mdL 3 i = 2 := this; rw [e]; omega) hm5.mat ((show Mat w4 w4.heap.size (some ⟨ba, oa, none⟩) 2 (fun _ => 2) M from HM4.out).keep (show Below w4.heap.size w4 w5 from up hb5 (below_drewN (Below.refl _ _) q) (Nat.le_refl _)) (by have := hb5.size; exact this)) (fun i hi => ⟨m3 i, fun j hj => m4 i j hi (by have e : mdL 3 i = 2 := m3 i; omega)⟩))
        clear hm5 hb5 m1 m2 m3 m4
        go_wp2_with fail
        refine (E5.out).mono ?_
        rintro e w6 ⟨rfl, hb6⟩
        go_wp2_with fail
        go_ret
        exact ⟨rfl, up (up hb6 HB5.out HB5.out.size) HB1.out HB1.out.size⟩
  · have hF : F = plusF 5 M := HMM2.out
    subst hF
    have HMD := hide (show mdB 5 4 (fun _ => 6) (plusF 5 M) 0 = true ∧ mdN 5 4 (fun _ => 6) (plusF 5 M) 0 = 4 ∧ (∀ i, mdL 5 i = 4) ∧ ∀ i j, i < 4 → j < 4 → mdM 5 4 (fun _ => 6) (plusF 5 M) 0 i j = M i j from md_none (P := 5) (q := 4) (M := M) (by omega) hbin)
    have HEV := hide (fun i => even_row (P := 5) (q := 4) (M := M) (i := i) rfl)
    have HFB := hide (show Bin 4 6 (plusF 5 M) from W2_bin (W1_bin hbin _) _)
    have HC4 := hide (show TbC T1 4 6 (plusF 5 M) from HC1.out)
    obtain ⟨bo, oo, eo, hbo, hco⟩ := HC4.out.matC HT4.out (by omega)
    subst eo
    obtain ⟨ba, oa, ea, hba, hca⟩ := HM4.out (by omega)
    subst ea
    have HCO := hide hco
    have HCA := hide hca
    have HBIN := hide hbin
    clear hco hca hle hPb HMM2 HC1 hbin
    go_wp2_with fail
    go_loopw [6] (fun i wr => ∃ k : Nat, k ≤ 4 ∧ i = .int .i64 k ∧ ∃ q, wr = w4.drewN q) (fun i _ => 4 - (intOf i).toNat)
    case atStart => exact ⟨0, by omega, rfl, 0, rfl⟩
    case round =>
      obtain ⟨k, hk, rfl, q, rfl⟩ := hrel
      by_cases hkq : k < 4
      · obtain ⟨Ro, Co, e1, e2, e3⟩ := HCO.out k hkq
        obtain ⟨Ra, Ca, f1, f2⟩ := HCA.out k hkq
        obtain ⟨b1, o1, rfl, hb1, hc1⟩ := e3 (by omega)
        obtain ⟨b2, o2, rfl, hb2, hc2⟩ := f2 (by omega)
        have HQ1 := hide (fun (W : World) (hW : ∃ q', W = w4.drewN q') => (equalInts_any (some ⟨b1, o1, none⟩) (some ⟨b2, o2, none⟩) 4 4 Co Ca (plusF 5 M k) (M k) W (by omega) (by omega) (by obtain ⟨q', rfl⟩ := hW; exact fun _ => ⟨b1, o1, rfl, hb1, fun j hj => hc1 j (by omega)⟩) (by obtain ⟨q', rfl⟩ := hW; exact fun _ => ⟨b2, o2, rfl, hb2, fun j hj => hc2 j (by omega)⟩)))
        have heq : eqB 4 4 (plusF 5 M k) (M k) = true := eqB_true.2 ⟨rfl, fun j hj => plusF_low hj⟩
        rw [heq] at HQ1
        have HQ2 := hide (fun (W : World) (hW : ∃ q', W = w4.drewN q') => (total_any (some ⟨b1, o1, none⟩) 5 Co (plusF 5 M k) W (by omega) (by obtain ⟨q', rfl⟩ := hW; exact fun _ => ⟨b1, o1, rfl, hb1, fun j hj => hc1 j (by omega)⟩) (fun j hj => by
          have := tot_bd (f := plusF 5 M k) (n := 5) (B := 1) (fun i hi => by have := HFB.out k i hkq (by omega); omega) j hj
          rw [totN_tot]; omega)))
        have hev := HEV.out k
        have htb := tot_bd (f := plusF 5 M k) (n := 5) (B := 1) (fun i hi => by have := HFB.out k i hkq (by omega); omega) 5 (by omega)
        rw [← totN_tot] at htb
        generalize totN (plusF 5 M k) 5 = z at *
        have hne : (z % 2 != 0) = false := by simp [hev]
        have htm : z.tmod 2 = z % 2 := Int.tmod_eq_emod_of_nonneg htb.1
        have hkI : (k : Int) < 4 := by omega
        have hkI0 : (0 : Int) ≤ (k : Int) := by omega
        clear e3 f2 hc1 hc2 heq
        go_wp2_with fail
        go_quiet ((first | (go_at_call 21; with_reducible exact quiet_add (HQ1.out _ ⟨_, rfl⟩)) | (go_at_call 28; with_reducible exact quietA (HQ2.out _ ⟨_, rfl⟩))))
        go_wp2_with fail
        go_roundw
        case rel => exact ⟨k + 1, by omega, by go_num, by first | exact ⟨_, rfl⟩ | exact ⟨_, World.drewN_drewN _ _ _⟩⟩
        case measure => simp [intOf]; omega
      · obtain rfl : k = 4 := by omega
        have HMT := hide (MendTwoI_any 5 (some ⟨bo, oo, none⟩) 4 k1 (fun _ => 6) (plusF 5 M) 0 (w4.drewN q) (by omega) (fun i _ => by omega) (show MatC w4 w4.heap.size _ _ _ _ from HC4.out.matC HT4.out))
        go_wp2_with fail
        refine (HMT.out).mono ?_
        rintro e w5 ⟨A5, c5, rfl, hm5, hb5⟩
        obtain ⟨m1, m2, m3, m4⟩ := HMD.out
        rw [m1, m2] 
        rw [m2] at hm5
        have HB5 := hide (show Below w1.heap.size w1 w5 from up hb5 (below_drewN HB4.out q) (by have := HB4.out.size; exact this))
        have E5 := hide (equalLists_b A5 (some ⟨ba, oa, none⟩) 4 c5 c (mdL 5) (fun _ => 4) (mdM 5 4 (fun _ => 6) (plusF 5 M) 0) M w5 (by omega) (fun i _ => by have := m3 i; have e : mdL 5 i = 4 := this; rw [e]; omega) hm5.mat ((show Mat w4 w4.heap.size (some ⟨ba, oa, none⟩) 4 (fun _ => 4) M from HM4.out).keep (show Below w4.heap.size w4 w5 from up hb5 (below_drewN (Below.refl _ _) q) (Nat.le_refl _)) (by have := hb5.size; exact this)) (fun i hi => ⟨m3 i, fun j hj => m4 i j hi (by have e : mdL 5 i = 4 := m3 i; omega)⟩))
        clear hm5 hb5 m1 m2 m3 m4
        go_wp2_with fail
        refine (E5.out).mono ?_
        rintro e w6 ⟨rfl, hb6⟩
        go_wp2_with fail
        go_ret
        exact ⟨rfl, up (up hb6 HB5.out HB5.out.size) HB1.out HB1.out.size⟩
end Go.Proofs.Ytkalecdjcdgodaa
