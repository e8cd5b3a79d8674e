/-
  FnPeelGrid returns true for every code: the walk. Conditions: none.
-/
import Derived.Test.YtkalecdjcdgodaaPeelDraw
import Derived.Test.YtkalecdjcdgodaaWExactPeel
import Derived.Test.YtkalecdjcdgodaaLawHelp
namespace Go.Proofs.Ytkalecdjcdgodaa
open Go.RowKit

theorem pg_again {n k r s : Nat} {f : Nat → Int} {E : Nat → Nat} (hok : pgOk n f k r s = true) (he : PeelEnd n k r s (fun i => (f i).toNat) E) :
    pgOk n (fun i => ((E i : Nat) : Int)) k r s = true ∧ (∀ i, i < n → pgE n (fun i => ((E i : Nat) : Int)) k r s i = E i) ∧
    (∀ i, i < n → E i < 128 ∧ bits .and .i64 (E i : Int) (f i) = (E i : Int) ∧ (E i ≠ 0 → r < wt (E i))) ∧ (∀ j, j < k → 0 < cnt E j n → s < cnt E j n) := by
  obtain ⟨k', r', s', ek, er, es, hn, hk, hr, hs, hf, hb⟩ := pg_parts hok
  obtain rfl : k = k' := by omega
  obtain rfl : r = r' := by omega
  obtain rfl : s = s' := by omega
  obtain ⟨⟨h1, h2, h3⟩, h4, h5⟩ := he
  have hc : (2 : Int) ^ k = ((2 ^ k : Nat) : Int) := by push_cast; rfl
  have hlt : ∀ i, i < n → E i < 2 ^ k := fun i hi => Nat.lt_of_le_of_lt (sub_le' (h1 i hi)) (hf i hi).2
  have hself : PeelEnd n k r s E E := ⟨keep_start h2, h4, h5⟩
  refine ⟨?_, fun i hi => ?_, fun i hi => ⟨h2 i hi, ?_, h4 i hi⟩, h5⟩
  · simp only [pgOk, vGrid, Bool.and_eq_true] at hok ⊢
    obtain ⟨⟨g1, g2, g3⟩, g4, g5⟩ := hok
    refine ⟨⟨g1, g2, noneB_true.2 fun i hi => ?_⟩, g4, g5⟩
    have := hlt i hi
    simp only [badS, Bool.not_eq_false', inR_true, Int.toNat_natCast]
    rw [hc]
    omega
  · rw [pgE]
    simp only [Int.toNat_natCast]
    exact (peelV_end hself).1 i hi
  · have g1 := hf i hi
    have g2 := hlt i hi
    have g3 : 2 ^ k ≤ 2 ^ 7 := Nat.pow_le_pow_right (by omega) (by omega)
    have g4 := h1 i hi
    rw [g1.1, and_nat _ _ (by omega) (by omega)]
    simp only at g4
    rw [g4]

set_option maxRecDepth 100000 in
set_option maxHeartbeats 1000000 in
theorem fnPeelGrid_walk (a : Option Addr) (len cap : Nat) (zs : List Int) (w : World) (h : IsRow .u8 w a len cap zs) :
    Calls Try.prog 7 #[.slice a len cap] w fun e w' => e = .returned (.bool true) ∧ Below w.heap.size w w' := by
  have hlen : len ≤ 9223372036854775807 := by obtain ⟨h1, h2, _⟩ := bytes_in h; unfold maxLen at h2; omega
  have Hh := hide h
  clear h
  by_cases hl : 1048576 < len
  · go_enter Try.func7, Try.ntmps7
    go_wp2_with fail
    go_ret
    exact ⟨rfl, by go_grown⟩
  go_enter Try.func7, Try.ntmps7
  go_wp2_with fail
  refine (DrawPeelGrid_any a len cap zs w _ Hh.out (by go_grown)).mono ?_
  rintro e w1 ⟨A, n, c, xs, cols, br, bc, rfl, hr1, hn, B1⟩
  have HM := hide (fun (W : World) (hb : Below w1.heap.size w1 W) => (hr1.keep hb).ints)
  clear hr1
  generalize (fun i => xs.getD i 0) = f at HM
  have I := hide (fun W hb => PeelGridI_any A n c f cols br bc W (by omega) (HM.out W hb))
  have S := hide (fun W hb => PeelS A n c f cols br bc W (by omega) (HM.out W hb))
  have HN := hide (show pgOk n f cols br bc = true ∧ 1 ≤ n ∧ pgN n f cols br bc = n ∨ pgN n f cols br bc = 0 by
    cases h : pgOk n f cols br bc
    · exact .inr (by simp [pgN, h])
    · obtain ⟨_, _, _, _, _, _, hn, _⟩ := pg_parts h
      exact .inl ⟨rfl, hn.1, by simp [pgN, h]⟩)
  have hNb : pgN n f cols br bc ≤ n := by unfold pgN; split <;> omega
  go_wp2_with fail
  refine (I.out _ (Below.refl _ _)).mono ?_
  rintro e w2 ⟨R1, k1, rfl, t1, hb2, he⟩
  have HE := hide he
  have HF := hide (show pgF n f cols br bc = fun i => ((pgE n f cols br bc i : Nat) : Int) from rfl)
  generalize hN : pgN n f cols br bc = N at *
  generalize hF : pgF n f cols br bc = F at *
  have HF0 := hide hF
  clear hN hF he
  go_wp2_with fail
  refine (S.out _ hb2).mono ?_
  rintro e w3 ⟨R2, k2, rfl, t2, hb3⟩
  have hc3 : Below w1.heap.size w1 w3 := up hb3 hb2 hb2.size
  have T1 := hide (t1.keepB hb3)
  have E1 := hide (equalInts_b R1 R2 N k1 k2 F w3 (by omega) T1.out.ints t2.ints)
  clear t1 t2
  go_wp2_with fail
  refine (E1.out).mono ?_
  rintro e w4 ⟨rfl, hb4⟩
  have hc4 : Below w1.heap.size w1 w4 := up hb4 hc3 hc3.size
  have T4 := hide (T1.out.keepB hb4)
  clear E1 T1
  by_cases h0 : N = 0
  · subst h0
    go_wp2_with fail
    refine (S.out _ hc4).mono ?_
    rintro e w5 ⟨R3, k3, rfl, t3, hb5⟩
    have E2 := hide (equalInts_b R1 R3 0 k1 k3 F w5 (by omega) (T4.out.keepB hb5).ints t3.ints)
    clear t3
    go_wp2_with fail
    refine (E2.out).mono ?_
    rintro e w6 ⟨rfl, hb6⟩
    go_wp2_with fail
    go_ret
    exact ⟨rfl, up (up (up hb6 (hb5) hb5.size) hc4 hc4.size) B1 B1.size⟩
  obtain ⟨hok, hn1, hNm⟩ : pgOk n f cols br bc = true ∧ 1 ≤ n ∧ N = n := by
    rcases HN.out with h | h
    · exact h
    · exact absurd h h0
  subst hNm
  obtain ⟨k, r, s, rfl, rfl, rfl, _, hk, hr, hs, _, _⟩ := pg_parts hok
  have hend := HE.out hok
  simp only [Int.toNat_natCast] at hend
  have hFE := HF.out
  generalize pgE N f k r s = E at *
  subst hFE
  obtain ⟨p1, p2, p3, p4⟩ := pg_again hok hend
  have P1 := hide p1
  have P2 := hide p2
  have P3 := hide p3
  have P4 := hide p4
  have hN0 : ((N : Int) == 0) = false := by simp; omega
  clear hend p1 p2 p3 p4 hok HN HE HF S I HF0
  have G4 := hide (HM.out w4 hc4)
  have e5 : pgN N (fun i => ((E i : Nat) : Int)) k r s = N := by simp [pgN, P1.out]
  have I5 : Hid (∀ W, Below w4.heap.size w4 W → Calls Try.prog 26 #[.slice R1 N k1, .int .i64 k, .int .i64 r, .int .i64 s] W fun e w' => ∃ A c, e = .returned (.slice A N c) ∧ IT w' W.heap.size w'.heap.size A N (pgF N (fun i => ((E i : Nat) : Int)) k r s) ∧ Below W.heap.size W w') :=
    hide (fun W hb => (PeelGridI_any R1 N k1 (fun i => ((E i : Nat) : Int)) k r s W (by omega) (T4.out.keepB hb).ints).mono fun _ _ ⟨A, c, h1, h2, h3, _⟩ => ⟨A, c, by rw [h1, e5], by rw [e5] at h2; exact h2, h3⟩)
  clear e5
  go_wp2_with fail
  go_loopw [8] (fun i wr => ∃ j : Nat, j ≤ N ∧ i = .int .i64 j ∧ ∃ q, wr = w4.drewN q) (fun i _ => N - (intOf i).toNat)
  case atStart => exact ⟨0, Nat.zero_le _, rfl, 0, rfl⟩
  case round =>
    obtain ⟨j, hj, rfl, q, rfl⟩ := hrel
    by_cases hlt : j < N
    · obtain ⟨b1, o1, rfl, hl1, hcc1⟩ := T4.out.ints (by omega)
      obtain ⟨b2, o2, rfl, hl2, hcc2⟩ := G4.out (by omega)
      have c1 : w4.cell? ⟨b1, o1 + j, none⟩ = some (.int .i64 ((E j : Nat) : Int)) := hcc1 j hlt
      have c2 : w4.cell? ⟨b2, o2 + j, none⟩ = some (.int .i64 (f j)) := hcc2 j hlt
      obtain ⟨x1, x2, x3⟩ := P3.out j hlt
      have HW := hide (fun W => weightL_any (E j) W (by omega))
      have hw8 := (wt_small (E j) (by omega)).2
      clear hcc1 hcc2
      generalize E j = x at *
      generalize f j = y at *
      have hne : ((x : Int) != (x : Int)) = false := by simp
      generalize wt x = z at *
      by_cases hx0 : x = 0
      · subst hx0
        have x20 : bits .and .i64 0 y = 0 := x2
        have c10 : w4.cell? ⟨b1, o1 + j, none⟩ = some (.int .i64 0) := c1
        clear c1 x2 hne
        clear x3
        go_wp2_with fail
        go_quiet (fail)
        go_wp2_with fail
        go_roundw
        case rel => exact ⟨j + 1, by omega, by go_num, by first | exact ⟨_, rfl⟩ | exact ⟨_, World.drewN_drewN _ _ _⟩⟩
        case measure => simp [intOf]; omega
      · have hgt : (0 : Int) < (x : Int) := by omega
        have hrz := x3 hx0
        have hrz' : ¬ z ≤ r := by omega
        have hgx : 0 < x := by omega
        clear x3
        go_wp2_with fail
        go_quiet ((go_at_call 27; exact quietL (HW.out _)))
        go_wp2_with fail
        go_roundw
        case rel => exact ⟨j + 1, by omega, by go_num, by first | exact ⟨_, rfl⟩ | exact ⟨_, World.drewN_drewN _ _ _⟩⟩
        case measure => simp [intOf]; omega
    · obtain rfl : j = N := by omega
      obtain ⟨w6, hw6⟩ : ∃ x, x = w4.drewN q := ⟨_, rfl⟩
      have hc6 : Below w4.heap.size w4 w6 := by rw [hw6]; exact below_drewN (Below.refl _ _) _
      rw [← hw6]
      clear hw6
      have T6 := hide (T4.out.keepB hc6)
      have hc16 := up hc6 hc4 hc4.size
      go_wp2_with fail
      go_loop [9, 10, 11] (fun i m t => ∃ y : Nat, y ≤ k ∧ i = .int .i64 y) (fun i _ _ => k - (intOf i).toNat)
      case atStart => exact ⟨0, Nat.zero_le _, rfl⟩
      case round =>
        obtain ⟨y, hy, rfl⟩ := hrel
        by_cases hyk : y < k
        · have P4y := hide (P4.out y hyk)
          go_wp2_with fail
          go_loop [10, 11] (fun m t => ∃ u : Nat, u ≤ j ∧ t = .int .i64 u ∧ m = .int .i64 (cnt E y u : Nat)) (fun _ t => j - (intOf t).toNat)
          case atStart => exact ⟨0, Nat.zero_le _, rfl, rfl⟩
          case round =>
            obtain ⟨u, hu, rfl, rfl⟩ := hrel
            have hcb := cnt_bd (G := E) (k := y) u
            by_cases huj : u < j
            · obtain ⟨b1, o1, rfl, hl1, hcc1⟩ := T6.out.ints (by omega)
              have c1 : w6.cell? ⟨b1, o1 + u, none⟩ = some (.int .i64 ((E u : Nat) : Int)) := hcc1 u huj
              obtain ⟨x1, _, _⟩ := P3.out u huj
              have HS := hide (show cnt E y (u + 1) = cnt E y u + cb (E u) y from rfl)
              have HB := hide (fun W => bitL_any (E u) y W (by omega) (by omega))
              have hb1 : cb (E u) y ≤ 1 := by unfold cb; omega
              have HBb := hide (show ∀ W, Calls Try.prog 31 #[.int .i64 (E u : Nat), .int .i64 y] W fun e w' => e = .returned (.int .i64 ((cb (E u) y : Nat) : Int)) ∧ W = w' from HB.out)
              clear hcc1 HB
              generalize cb (E u) y = z at *
              generalize cnt E y u = v at *
              generalize E u = x at *
              go_wp2_with fail
              refine (HBb.out _).mono ?_
              rintro e _ ⟨rfl, rfl⟩
              go_wp2_with fail
              go_round
              case rel => exact ⟨u + 1, by omega, by go_num, by rw [HS.out]; push_cast; rfl⟩
              case measure => simp [intOf]; omega
            · obtain rfl : u = j := by omega
              have P4z := P4y.out
              generalize cnt E y u = v at *
              by_cases hv : v = 0
              · subst hv
                go_wp2_with fail
                go_round
                case rel => exact ⟨y + 1, by omega, by go_num⟩
                case measure => simp [intOf]; omega
              · have hv1 := P4z (by omega)
                clear P4z
                go_wp2_with fail
                go_round
                case rel => exact ⟨y + 1, by omega, by go_num⟩
                case measure => simp [intOf]; omega
        · obtain rfl : y = k := by omega
          go_wp2_with fail
          refine (I5.out _ hc6).mono ?_
          rintro e w7 ⟨R3, k3, rfl, t3, hb7⟩
          have E2 := hide (equalInts_b R3 R1 j k3 k1 (fun i => ((E i : Nat) : Int)) w7 (by omega) (t3.congr (fun i hi => by rw [pgF, P2.out i hi])).ints (T6.out.keepB hb7).ints)
          clear t3
          go_wp2_with fail
          refine (E2.out).mono ?_
          rintro e w8 ⟨rfl, hb8⟩
          go_wp2_with fail
          go_ret
          exact ⟨rfl, up (up (up hb8 hb7 hb7.size) hc16 hc16.size) B1 B1.size⟩
end Go.Proofs.Ytkalecdjcdgodaa
