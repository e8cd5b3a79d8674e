/-
  FnRippleOf returns true for every code: the walk. Conditions: none.
-/
import Derived.Test.YtkalecdjcdgodaaRipDraw
import Derived.Test.YtkalecdjcdgodaaWExactRipple
import Derived.Test.YtkalecdjcdgodaaWExactSums
import Derived.Test.YtkalecdjcdgodaaLawHelp
namespace Go.Proofs.Ytkalecdjcdgodaa
open Go.RowKit

theorem bt_tb2 (s i : Nat) : bt s i = s.testBit i := by
  simp only [bt, Nat.testBit_eq_decide_div_mod_eq]
/-- the ripples end -/
theorem stl_ex {n m : Nat} {g h : Nat → Int} (hin : RpIn n g m h) : ∀ c t, Dg n (rp n g m h t) → cu (rp n g m h t) n ≤ c → ∃ t', Stl n g m (rp n g m h t') ∧ Dg n (rp n g m h t')
  | c, t, hd, hc => by
    obtain ⟨a1, a2, a3⟩ := nx_ok (one1 n (rp n g m h t) g) m
    by_cases e : nx (one1 n (rp n g m h t) g) m < m
    · obtain ⟨_, b2, b3⟩ := rp_next hin hd e a2 (a3 e)
      match c, hc with
      | 0, hc => exact absurd b3 (by omega)
      | c + 1, hc => exact stl_ex hin c (t + 1) b2 (by omega)
    · exact ⟨t, by unfold Stl; omega, hd⟩
/-- sums of numbers that are all known -/
theorem sx_kn {n : Nat} {l : Nat → Int} (s : Nat) (h : ∀ i, i < n → 0 ≤ l i ∧ l i < 256) : ∀ i, i ≤ n → sx s l i = (kn l s i : Nat) ∧ kn l s i < 2 ^ 8
  | 0, _ => ⟨rfl, by show 0 < 2 ^ 8; decide⟩
  | i + 1, hi => by
    obtain ⟨h1, h2⟩ := sx_kn s h i (by omega)
    have h3 := h i (by omega)
    have e : kn1 l s i = bt s i := by simp [kn1, h3.1]
    rw [sx, kn, e]
    cases bt s i
    · exact ⟨h1, h2⟩
    · obtain ⟨y, hy⟩ := Int.eq_ofNat_of_zero_le h3.1
      rw [if_pos rfl, if_pos rfl, h1, hy, Int.toNat_natCast, xor_nat _ _ (by omega) (by omega)]
      exact ⟨rfl, Nat.xor_lt_two_pow h2 (by omega)⟩
theorem rp_true {n : Int} {m m2 : Nat} {g h : Nat → Int} (hh : rpB n m g m2 h = true) :
    ∃ k : Nat, n = k ∧ k ≤ 7 ∧ m ≤ 12 ∧ m2 = m ∧ rpN n m g m2 h = k ∧ (∀ j, j < m → ∃ s : Nat, g j = s ∧ s < 128 ∧ unk (rpF n m g h) s k ≠ 1) ∧ Dg k (rpF n m g h) ∧ ((∀ i, i < k → 0 ≤ rpF n m g h i) → sumsN k (rpF n m g h) m g = m ∧ ∀ j, j < m → sumsF k (rpF n m g h) g j = h j) := by
  have hN : rpN n m g m2 h = n.toNat := by simp [rpN, hh]
  rw [rpB, Bool.and_eq_true] at hh
  obtain ⟨hok, hf⟩ := hh
  have hok2 := hok
  simp only [rpOk, Bool.and_eq_true, decide_eq_true_eq] at hok2
  obtain ⟨q1, ⟨q2, q3⟩, q4, _⟩ := hok2
  have q5 := inR_true.1 q1
  obtain ⟨k, rfl⟩ := Int.eq_ofNat_of_zero_le q5.1
  subst q4
  have hin := rp_in hok
  obtain ⟨t, hs, hd⟩ := stl_ex hin _ 0 rp_zero (Nat.le_refl _)
  have e : rpF (k : Nat) m2 g h = rp k g m2 h t := by rw [rpF, Int.toNat_natCast]; exact rpE_eq hs
  rw [Int.toNat_natCast] at hf hN q3
  rw [rpE_eq hs] at hf
  rw [e]
  simp only [rpFine, decide_eq_true_eq] at hf
  refine ⟨k, rfl, by omega, q2, rfl, hN, fun j hj => ?_, hd, fun ha => ?_⟩
  · obtain ⟨s, s1, s2, s3, s4⟩ := hin.set j hj
    refine ⟨s, s1, s2, fun hu => ?_⟩
    have := stl_at hs j hj
    simp only [one1, s3, hu] at this
    simp at this
  · have hd2 : ∀ i, i < k → 0 ≤ rp k g m2 h t i ∧ rp k g m2 h t i < 256 := fun i hi => ⟨ha i hi, (hd i hi).2⟩
    have hsu : sumsOk k (rp k g m2 h t) m2 g = true := sumsOk_true.2 ⟨by omega, noneB_true.2 fun i hi => by
      simp only [badD, Bool.not_eq_false', inR_true]
      have := hd2 i hi
      omega, q2, q3⟩
    refine ⟨by rw [sumsN, if_pos hsu], fun j hj => ?_⟩
    obtain ⟨s, s1, s2, s3, s4⟩ := hin.set j hj
    obtain ⟨d, d1, d2, d3⟩ := hin.dig j hj
    obtain ⟨e1, _⟩ := sx_kn s hd2 k (Nat.le_refl k)
    have hu : unk (rp k g m2 h t) s k = 0 := by
      cases e : unk (rp k g m2 h t) s k with
      | zero => rfl
      | succ z =>
        obtain ⟨i, hi, hb⟩ := unk_ex (l := rp k g m2 h t) (s := s) (n := k) (by omega)
        simp only [un1, Bool.and_eq_true, decide_eq_true_eq] at hb
        have := (hd2 i hi).1
        omega
    rw [sumsF, s3, e1]
    have := hf j hj (by rw [s3]; exact hu)
    rw [s3] at this
    rw [this, d3, d1]
def alB (l : Nat → Int) : Nat → Bool | 0 => true | i + 1 => alB l i && decide (0 ≤ l i)
theorem alB_true {l : Nat → Int} : ∀ {n}, alB l n = true → ∀ i, i < n → 0 ≤ l i
  | n + 1, h, i, hi => by
    rw [alB, Bool.and_eq_true, decide_eq_true_eq] at h
    by_cases e : i = n
    · subst e; exact h.2
    · exact alB_true h.1 i (by omega)

set_option maxRecDepth 100000 in
set_option maxHeartbeats 4000000 in
theorem fnRippleOf_walk (a : Option Addr) (len cap : Nat) (zs : List Int) (w : World) (h : IsRow .u8 w a len cap zs) :
    Calls Try.prog 11 #[.slice a len cap] w fun e w' => e = .returned (.bool true) ∧ Below w.heap.size w w' := by
  have hlen : len ≤ 9223372036854775807 := by obtain ⟨h1, h2, _⟩ := bytes_in h; unfold maxLen at h2; omega
  have Hh := hide h
  clear h
  by_cases hl : 1048576 < len
  · go_enter Try.func11, Try.ntmps11
    go_wp2_with fail
    go_ret
    exact ⟨rfl, by go_grown⟩
  go_enter Try.func11, Try.ntmps11
  go_wp2_with fail
  refine (DrawRippleOf_any a len cap zs w _ Hh.out (by go_grown)).mono ?_
  rintro e w1 ⟨n, A, m, c, ys, B, m2, d, zs2, rfl, hr1, hm, hr2, hm2, B1⟩
  have HB1 := hide B1
  have HM1 := hide (fun (W : World) (hb : Below w1.heap.size w1 W) => (hr1.keep hb).ints)
  have HM2 := hide (fun (W : World) (hb : Below w1.heap.size w1 W) => (hr2.keep hb).ints)
  clear hr1 hr2 B1
  generalize (fun i => ys.getD i 0) = g at HM1
  generalize (fun i => zs2.getD i 0) = h at HM2
  have I := hide (fun W hb => RipXI n A m c g B m2 d h W (by omega) (HM1.out W hb) (by omega) (HM2.out W hb))
  have S := hide (fun W hb => RipXS n A m c g B m2 d h W (by omega) (HM1.out W hb) (by omega) (HM2.out W hb))
  have hbd := rp_bdd n m g m2 h
  have HSM := hide (fun h1 => rp_true (n := n) (m := m) (g := g) (m2 := m2) (h := h) h1)
  have HN0 := hide (show rpB n m g m2 h = false → rpN n m g m2 h = 0 from fun h => by simp [rpN, h])
  go_wp2_with fail
  refine (I.out _ (Below.refl _ _)).mono ?_
  rintro e w2 ⟨A1, c1, rfl, hm2', hb2⟩
  have HT2 := hide hm2'
  have HB2 := hide hb2
  clear hm2' hb2
  generalize hNN : rpN n m g m2 h = N at *
  generalize hBB : rpB n m g m2 h = ok at *
  generalize hFF : rpF n m g h = F at *
  have HNN := hide hNN
  have HBB := hide hBB
  have HFF := hide hFF
  clear hNN hBB hFF
  go_wp2_with fail
  refine (S.out _ HB2.out).mono ?_
  rintro e w3 ⟨A2, c2, rfl, hm3, hb3⟩
  have HB3 := hide (up hb3 HB2.out HB2.out.size)
  have HT3 := hide (HT2.out.keepB hb3)
  have E1 := hide (fun (W : World) (hb : Below w3.heap.size w3 W) => equalInts_b A1 A2 N c1 c2 F W (by omega) (HT3.out.keepB hb).ints (hm3.keepB hb).ints)
  clear hm3 hb3 HT2
  have hz3 : w1.heap.size ≤ w3.heap.size := HB3.out.size
  cases ok
  · obtain rfl := HN0.out (by first | rfl | trivial)
    go_wp2_with fail
    refine (E1.out _ (Below.refl _ _)).mono ?_
    rintro e w4 ⟨rfl, hb4⟩
    have HB4 := hide hb4
    clear hb4
    go_wp2_with fail
    refine (E1.out _ HB4.out).mono ?_
    rintro e w5 ⟨rfl, hb5⟩
    go_wp2_with fail
    go_ret
    exact ⟨rfl, up (up (up hb5 HB4.out HB4.out.size) HB3.out hz3) HB1.out HB1.out.size⟩
  go_wp2_with fail
  refine (E1.out _ (Below.refl _ _)).mono ?_
  rintro e w4 ⟨rfl, hb4⟩
  have HB4 := hide (up hb4 HB3.out hz3)
  have HT4 := hide (HT3.out.keepB hb4)
  clear E1 hb4 HT3
  obtain ⟨k, hk, hk7, hm12, hmm, hNk, hset, hdg, hall⟩ := HSM.out (by first | rfl | trivial)
  subst hk
  subst hmm
  obtain rfl : N = k := hNk
  have HSET := hide hset
  have HALL := hide hall
  have HDG := hide hdg
  have H1 := hide (HM1.out w4 HB4.out)
  clear HNN HBB HFF HN0 HSM I S hset hdg hall hbd
  have HI := hide HT4.out.ints
  go_wp2_with fail
  go_loop [10, 11] (fun al i => ∃ j : Nat, j ≤ N ∧ i = .int .i64 j ∧ al = .bool (alB F j)) (fun _ i => N - (intOf i).toNat)
  case atStart => exact ⟨0, by omega, rfl, rfl⟩
  case round =>
    obtain ⟨j, hj, rfl, rfl⟩ := hrel
    by_cases hjn : j < N
    · obtain ⟨bo, oo, rfl, hbo, hco⟩ := HI.out (by omega)
      have hc := hco j hjn
      have HS := hide (show alB F (j + 1) = (alB F j && decide (0 ≤ F j)) from rfl)
      have hjI : (j : Int) < (N : Int) := by omega
      have hjI0 : (0 : Int) ≤ (j : Int) := by omega
      clear hco
      generalize F j = z at *
      cases hal : alB F j
      · go_wp2_with fail
        go_round
        case rel => exact ⟨j + 1, by omega, by go_num, by rw [HS.out, hal]; rfl⟩
        case measure => simp [intOf]; omega
      · go_wp2_with fail
        go_round
        case rel => exact ⟨j + 1, by omega, by go_num, by rw [HS.out, hal, Bool.true_and]⟩
        case measure => simp [intOf]; omega
    · obtain rfl : j = N := by omega
      go_wp2_with fail
      go_loop [12] (fun i => ∃ r : Nat, r ≤ m2 ∧ i = .int .i64 r) (fun i => m2 - (intOf i).toNat)
      case atStart => exact ⟨0, by omega, rfl⟩
      case round =>
        obtain ⟨r, hr, rfl⟩ := hrel
        by_cases hrm : r < m2
        · obtain ⟨s, hs1, hs2, hs3⟩ := HSET.out r hrm
          obtain ⟨ba, oa, rfl, hba, hca⟩ := H1.out (by omega)
          have hcs := hca r hrm
          rw [hs1] at hcs
          have hrI : (r : Int) < (m2 : Int) := by omega
          have hrI0 : (0 : Int) ≤ (r : Int) := by omega
          have HS3 := hide hs3
          clear hca hs1 hs3
          go_wp2_with fail
          go_loop [13, 14] (fun v i => ∃ q : Nat, q ≤ j ∧ i = .int .i64 q ∧ v = .int .i64 ((unk F s q : Nat) : Int)) (fun _ i => j - (intOf i).toNat)
          case atStart => exact ⟨0, by omega, rfl, rfl⟩
          case round =>
            obtain ⟨q, hq, rfl, rfl⟩ := hrel
            have hul := unk_le F s q
            by_cases hqn : q < j
            · obtain ⟨bo, oo, rfl, hbo, hco⟩ := HI.out (by omega)
              have hcq := hco q hqn
              have HU := hide (show unk F s (q + 1) = unk F s q + if un1 F s q then 1 else 0 from rfl)
              have HU1 := hide (show un1 F s q = (bt s q && decide (F q < 0)) from rfl)
              have hqI : (q : Int) < (j : Int) := by omega
              have hqI0 : (0 : Int) ≤ (q : Int) := by omega
              clear hco
              generalize F q = z at *
              generalize unk F s q = u at *
              cases hbt : bt s q
              · have HBT := hide (fun W => bitL_f s q W (by omega) (by omega) hbt)
                have HU2 := hide (show unk F s (q + 1) = u by rw [HU.out, HU1.out, hbt]; simp)
                clear hbt
                go_wp2_with fail
                refine (HBT.out _).mono ?_
                rintro e _ ⟨rfl, rfl⟩
                go_wp2_with fail
                go_round
                case rel => exact ⟨q + 1, by omega, by go_num, by rw [HU2.out]⟩
                case measure => simp [intOf]; omega
              · have HBT := hide (fun W => bitL_t s q W (by omega) (by omega) hbt)
                by_cases hz : z < 0
                · have HU2 := hide (show unk F s (q + 1) = u + 1 by rw [HU.out, HU1.out, hbt]; simp [hz])
                  clear hbt
                  go_wp2_with fail
                  refine (HBT.out _).mono ?_
                  rintro e _ ⟨rfl, rfl⟩
                  go_wp2_with fail
                  go_round
                  case rel => exact ⟨q + 1, by omega, by go_num, by rw [HU2.out]; go_num⟩
                  case measure => simp [intOf]; omega
                · have HU2 := hide (show unk F s (q + 1) = u by rw [HU.out, HU1.out, hbt]; simp [hz])
                  clear hbt
                  go_wp2_with fail
                  refine (HBT.out _).mono ?_
                  rintro e _ ⟨rfl, rfl⟩
                  go_wp2_with fail
                  go_round
                  case rel => exact ⟨q + 1, by omega, by go_num, by rw [HU2.out]⟩
                  case measure => simp [intOf]; omega
            · obtain rfl : q = j := by omega
              have hne : (((unk F s q : Nat) : Int) == 1) = false := by have := HS3.out; simp; omega
              generalize unk F s q = u at *
              go_wp2_with fail
              go_round
              case rel => exact ⟨r + 1, by omega, by go_num⟩
              case measure => simp [intOf]; omega
        · obtain rfl : r = m2 := by omega
          have HT := HT4.out
          cases hab : alB F j
          · go_wp2_with fail
            go_ret
            exact ⟨rfl, up HB4.out HB1.out HB1.out.size⟩
          · obtain ⟨hsn, hsf⟩ := HALL.out (alB_true hab)
            have HSI := hide ((SumsI A1 j c1 F A r c g w4 (by omega) HI.out (by omega) H1.out).mono (fun e w' hh => (show ∃ A c, e = .returned (.slice A r c) ∧ IT w' w4.heap.size w'.heap.size A r h ∧ Below w4.heap.size w4 w' from by
              obtain ⟨A5, c5, h1, h2, h3⟩ := hh
              rw [hsn] at h1 h2
              exact ⟨A5, c5, h1, h2.congr hsf, h3⟩)))
            clear hsn hsf
            go_wp2_with fail
            refine (HSI.out).mono ?_
            rintro e w5 ⟨A5, c5, rfl, ht5, hb5⟩
            have E5 := hide (equalInts_b A5 B r c5 d h w5 (by omega) ht5.ints (HM2.out w5 (up hb5 HB4.out HB4.out.size)))
            have HB5 := hide (up hb5 HB4.out HB4.out.size)
            clear ht5 hb5
            go_wp2_with fail
            refine (E5.out).mono ?_
            rintro e w6 ⟨rfl, hb6⟩
            go_wp2_with fail
            go_ret
            exact ⟨rfl, up (up hb6 HB5.out HB5.out.size) HB1.out HB1.out.size⟩
end Go.Proofs.Ytkalecdjcdgodaa
