/-
  FnStuckGrid returns true for every code: the walk. Conditions: none.
-/
import Derived.Test.YtkalecdjcdgodaaStuck
import Derived.Test.YtkalecdjcdgodaaLawHelp
namespace Go.Proofs.Ytkalecdjcdgodaa
open Go.RowKit

theorem pgE_eq {n k x s : Nat} {G E : Nat → Nat} (h : PeelEnd n k x s G E) : ∀ i, i < n → pgF n (fun i => ((G i : Nat) : Int)) k x s i = ((E i : Nat) : Int) := fun i hi => by
  rw [pgF, pgE]
  simp only [Int.toNat_natCast]
  rw [(peelV_end h).1 i hi]
theorem pgN_eq {n k x s : Nat} {G : Nat → Nat} (hn : 1 ≤ n ∧ n ≤ 6) (hk : 1 ≤ k ∧ k ≤ 7) (hx : x ≤ 7) (hs : s ≤ 7) (hG : ∀ i, i < n → G i < 2 ^ k) : pgN n (fun i => ((G i : Nat) : Int)) k x s = n := by
  have hc : (2 : Int) ^ k = ((2 ^ k : Nat) : Int) := by push_cast; rfl
  have : pgOk n (fun i => ((G i : Nat) : Int)) k x s = true := by
    simp only [pgOk, vGrid, Bool.and_eq_true, inR_true, Int.toNat_natCast]
    refine ⟨⟨by omega, by omega, noneB_true.2 fun i hi => ?_⟩, by omega, by omega⟩
    have := hG i hi
    simp only [badS, Bool.not_eq_false', inR_true]
    rw [hc]
    omega
  simp [pgN, this]
theorem gl_zero (n : Nat) (P : Nat) : List.replicate n (0 : Int) = gl n (blk P 0) := by
  rw [gl]
  exact List.ext_getElem (by simp) (fun i h1 h2 => by simp [blk])
theorem totN_zero (n : Nat) : totN (fun _ => ((0 : Nat) : Int)) n = 0 := by
  induction n with
  | zero => rfl
  | succ n ih => rw [totN, ih]; rfl
theorem wsum_bd {G : Nat → Nat} (h : ∀ i, G i < 128) : ∀ n, wsum G n ≤ 8 * n
  | 0 => by simp [wsum]
  | n + 1 => by
    have h1 := wsum_bd h n
    have h2 := wt_128 (G n) (h n)
    rw [wsum]; omega
theorem peel_of (A : Option Addr) (n c k x s : Nat) (G E : Nat → Nat) (w : World) (hn : 1 ≤ n ∧ n ≤ 6) (hk : 1 ≤ k ∧ k ≤ 7) (hx : x ≤ 7) (hs : s ≤ 7) (hG : ∀ i, i < n → G i < 2 ^ k) (he : PeelEnd n k x s G E) (h : Ints w w.heap.size A n (fun i => ((G i : Nat) : Int))) :
    Calls Try.prog 26 #[.slice A n c, .int .i64 k, .int .i64 x, .int .i64 s] w fun e w' => ∃ A c, e = .returned (.slice A n c) ∧ IT w' w.heap.size w'.heap.size A n (fun i => ((E i : Nat) : Int)) ∧ Below w.heap.size w w' :=
  (PeelGridI_any A n c (fun i => ((G i : Nat) : Int)) k x s w (by omega) h).mono fun _ _ ⟨A, c, h1, h2, h3, _⟩ => by
    rw [pgN_eq hn hk hx hs hG] at h1 h2
    exact ⟨A, c, h1, h2.congr (pgE_eq he), h3⟩

set_option maxRecDepth 100000 in
set_option maxHeartbeats 1000000 in
theorem fnStuckGrid_walk (a : Option Addr) (len cap : Nat) (zs : List Int) (w : World) (h : IsRow .u8 w a len cap zs) :
    Calls Try.prog 5 #[.slice a len cap] w fun e w' => e = .returned (.bool true) ∧ Below w.heap.size w w' := by
  have hlen : len ≤ 9223372036854775807 := by obtain ⟨h1, h2, _⟩ := bytes_in h; unfold maxLen at h2; omega
  have Hh := hide h
  clear h
  by_cases hl : 1048576 < len
  · go_enter Try.func5, Try.ntmps5
    go_wp2_with fail
    go_ret
    exact ⟨rfl, by go_grown⟩
  go_enter Try.func5, Try.ntmps5
  go_wp2_with fail
  refine (DrawStuckGrid_any a len cap zs w _ Hh.out (by go_grown)).mono ?_
  rintro e w1 ⟨r, c, br, bc, rfl, B1⟩
  have I := hide (fun W => impl_StuckGrid_any r c br bc W)
  have S := hide (fun W => spec_StuckGrid_any r c br bc W)
  have OK := hide (@stuck_ok r c br bc)
  generalize (stuck r c br bc).1 = y at *
  generalize (stuck r c br bc).2 = ok at *
  go_wp2_with fail
  refine (I.out _).mono ?_
  rintro e _ ⟨rfl, rfl⟩
  go_wp2_with fail
  refine (S.out _).mono ?_
  rintro e _ ⟨rfl, rfl⟩
  have e1 : (y != y) = false := by simp
  have e2 : (y == y) = true := by simp
  cases ok
  · go_wp2_with fail
    go_ret
    exact ⟨rfl, B1⟩
  obtain ⟨n, k, x, s, rfl, rfl, rfl, rfl, hn, hk, hx, hs, hy⟩ := OK.out rfl
  obtain ⟨P, hP⟩ : ∃ P, P = 2 ^ (x + 1) - 1 := ⟨_, rfl⟩
  obtain ⟨q, hq⟩ : ∃ q : Int, q = 2 ^ (x + 1) := ⟨_, rfl⟩
  have hPq : q = (P : Int) + 1 := by
    have : (2 : Int) ^ (x + 1) = ((2 ^ (x + 1) : Nat) : Int) := by push_cast; rfl
    have h2 : 0 < 2 ^ (x + 1) := Nat.two_pow_pos _
    rw [hq, this, hP]; omega
  have HPW : Hid (∀ W, Calls Try.prog 25 #[.int .i64 ((x : Int) + 1)] W fun e w' => e = .returned (.int .i64 q) ∧ W = w') := hide (fun W => by
    have := powerL_any (x + 1) W (by omega)
    rw [← hq] at this
    exact this)
  have STAY := hide (blk_stays hk.2 hx hs)
  have GONE := hide (blkL_gone hk.2 hx hs)
  obtain ⟨⟨f1, f2, f3, _⟩, _⟩ := blk_fin x (by omega)
  have WS := hide (wsum_blk _ (s + 1) _ f1 n)
  have hPk : P < 2 ^ k := by
    have : 2 ^ (x + 1) ≤ 2 ^ k := Nat.pow_le_pow_right (by omega) (by omega)
    omega
  rw [← hP] at STAY GONE WS f1 f2 f3
  rw [show min n (s + 1) = s + 1 by omega] at WS
  have HGk := hide (show (∀ i, i < n → blk P (s + 1) i < 2 ^ k) ∧ (∀ i, i < n → blkL P (s + 1) i < 2 ^ k) ∧ ∀ i, blk P (s + 1) i < 128 from
    ⟨fun i _ => by unfold blk; split <;> omega, fun i _ => by unfold blkL blk; split <;> (try split) <;> omega, fun i => by unfold blk; split <;> omega⟩)
  have hwq : IntKind.i64.wrap (q - 1) = (P : Int) := by rw [hPq]; exact (IntWalk.i64_in _ (by omega)).trans (by omega)
  rw [← WS.out] at hy
  subst hy
  have hwp : IntKind.i64.wrap ((P : Int) - 1) = ((P - 1 : Nat) : Int) := (IntWalk.i64_in _ (by omega)).trans (by omega)
  have HWB := hide (wsum_bd HGk.out.2.2)
  have hmk := run_make_row' (P := Try.prog) 22 3 (.int .i64 0) 8 Try.underlying22 info_int rfl .i64 .i64 n (by omega) (by omega)
  clear hP hPk e1 e2 I S OK hPq hq
  go_wp2_with fail
  go_loopw [12] (fun i wr => ∃ j : Nat, j ≤ s + 1 ∧ i = .int .i64 j ∧ Row wr w1.heap.size (some ⟨w1.heap.size, 0, none⟩) n n (gl n (blk P j)) ∧ Below w1.heap.size w1 wr) (fun i _ => (s + 1) - (intOf i).toNat)
  case atStart => exact ⟨0, by omega, rfl, by rw [← gl_zero]; exact Row.zeros n (Nat.le_refl _), (Below.refl _ _).alloc (Nat.le_refl _) _⟩
  case round =>
    obtain ⟨j, hj, rfl, hrow, hb⟩ := hrel
    by_cases hjs : j ≤ s
    · obtain ⟨b, e, h1, h2, h3, h4, h5⟩ := hrow.at_ (i := j) (by omega)
      injection e with e
      injection e with e
      subst e
      have Q := hide (h5 P)
      rw [gl_set, blk_succ] at Q
      have HB := hide (hb.setCell (p := ⟨w1.heap.size, j, none⟩) (Nat.le_refl _) (.int .i64 P))
      clear h5 hrow
      go_wp2_with fail
      refine (HPW.out _).mono ?_
      rintro e _ ⟨rfl, rfl⟩
      go_wp2_with fail
      go_roundw
      case rel => exact ⟨j + 1, by omega, by go_num, Q.out, HB.out⟩
      case measure => simp [intOf]; omega
    · obtain rfl : j = s + 1 := by omega
      have HR := hide hrow
      obtain ⟨w2, hw2⟩ : ∃ x, x = wr := ⟨_, rfl⟩
      rw [← hw2] at HR hb
      rw [← hw2]
      clear hw2 hrow hmk
      have hz2 : w1.heap.size ≤ w2.heap.size := hb.size
      have ROWS := hide (fun W (hW : Below w2.heap.size w2 W) => (HR.out.keep hW).ints.congr (g := fun i => ((blk P (s + 1) i : Nat) : Int)) (fun i hi => gl_at _ hi))
      have P1 := hide (peel_of _ n n k x s _ _ w2 hn hk (by omega) (by omega) HGk.out.1 STAY.out (ROWS.out w2 (Below.refl _ _)))
      have HB1 := hide hb
      go_wp2_with fail
      refine (P1.out).mono ?_
      rintro e w3 ⟨R3, k3, rfl, t3, hb3⟩
      have T3 := hide t3
      have hz3 : w2.heap.size ≤ w3.heap.size := hb3.size
      have HR3 := hide (HR.out.keep hb3)
      have HB3 := hide hb3
      clear t3 P1
      go_wp2_with (at_builtin; refine push_copy rfl _ _ rfl rfl (Row.lit (cs := #[]) (xs := []) (n := 0) (base := w3.heap.size) rfl rfl (Nat.le_refl _)) (gl n (blk P (s + 1))) (HR3.out.alloc _) (by omega) rfl (by omega) (by simp) ?_; intro A4 c4 w4 hr4 hb4 hg4; obtain ⟨b4, eb4, q1, q2, q3, q4, q5⟩ := hr4.at_ (i := 0) (by omega); subst eb4; rw [gl_at _ (show 0 < n by omega), show blk P (s + 1) 0 = P from if_pos (by omega)] at q3; have Q := hide (show Row (w4.setCell ⟨b4, 0, none⟩ (.int .i64 ((P - 1 : Nat) : Int))) w3.heap.size (some ⟨b4, 0, none⟩) n c4 (gl n (blkL P (s + 1))) from (gl_set (n := n) (i := 0) (blk P (s + 1)) (P - 1)) ▸ q5 ((P - 1 : Nat) : Int)); have HB4 := hide (((show Below w3.heap.size w3 w4 from ((Below.refl _ _).alloc (Nat.le_refl _) _).trans hb4)).setCell (p := ⟨b4, 0, none⟩) q1 (.int .i64 ((P - 1 : Nat) : Int))); clear q5 hr4 hb4 hg4)
      refine nameCalls (fun wx => Row wx w3.heap.size (some ⟨b4, 0, none⟩) n c4 (gl n (blkL P (s + 1))) ∧ Below w3.heap.size w3 wx) ⟨Q.out, HB4.out⟩ ?_
      rintro w5 ⟨hr5, hb5⟩
      clear Q HB4 q1 q2 q3 q4
      have P2 := hide (peel_of _ n c4 k x s _ (fun _ => 0) w5 hn hk (by omega) (by omega) HGk.out.2.1 GONE.out (hr5.ints.congr (g := fun i => ((blkL P (s + 1) i : Nat) : Int)) (fun i hi => gl_at _ hi)))
      have HB5 := hide hb5
      have hz5 : w3.heap.size ≤ w5.heap.size := hb5.size
      clear hr5 hb5
      refine (P2.out).mono ?_
      rintro e w6 ⟨R6, k6, rfl, t6, hb6⟩
      have hz6 : w5.heap.size ≤ w6.heap.size := hb6.size
      have hb36 : Below w3.heap.size w3 w6 := up hb6 HB5.out HB5.out.size
      have hb26 : Below w2.heap.size w2 w6 := up hb36 HB3.out HB3.out.size
      have TOT : Hid (∀ W, Below w6.heap.size w6 W → Calls Try.prog 28 #[.slice R6 n k6] W fun e w' => e = .returned (.int .i64 0) ∧ W = w') := hide (fun W hW => by
        have := total_any R6 n k6 (fun _ => ((0 : Nat) : Int)) W (by omega) (t6.keepB hW).ints (fun j _ => by rw [totN_zero]; omega)
        rw [totN_zero] at this
        exact this)
      have EQ := hide (equalInts_b R3 (some ⟨w1.heap.size, 0, none⟩) n k3 n (fun i => ((blk P (s + 1) i : Nat) : Int)) w6 (by omega) (T3.out.keepB hb36).ints (ROWS.out w6 hb26))
      have R6w := hide (ROWS.out w6 hb26)
      have HB6 := hide (up hb26 HB1.out HB1.out.size)
      clear t6 P2 HB5
      go_wp2_with fail
      go_loop [16, 17] (fun v t => ∃ j : Nat, j ≤ n ∧ t = .int .i64 j ∧ v = .int .i64 (wsum (blk P (s + 1)) j : Nat)) (fun _ t => n - (intOf t).toNat)
      case atStart => exact ⟨0, Nat.zero_le _, rfl, rfl⟩
      case round =>
        obtain ⟨j, hj, rfl, rfl⟩ := hrel
        by_cases hlt : j < n
        · obtain ⟨b, o, eb, hbl, hcc⟩ := R6w.out (by omega)
          have c1 : w6.cell? ⟨b, o + j, none⟩ = some (.int .i64 ((blk P (s + 1) j : Nat) : Int)) := hcc j hlt
          injection eb with eb
          injection eb with eb1 eb2
          subst eb1 eb2
          rw [Nat.zero_add] at c1
          have HW := hide (fun W => weightL_any (blk P (s + 1) j) W (by have := HGk.out.2.2 j; omega))
          have h8 := wt_128 _ (HGk.out.2.2 j)
          have hv8 := HWB.out j
          have WSS := hide (show wsum (blk P (s + 1)) (j + 1) = wsum (blk P (s + 1)) j + wt (blk P (s + 1) j) from rfl)
          clear hcc
          generalize wt (blk P (s + 1) j) = z at *
          generalize hvv : wsum (blk P (s + 1)) j = v at *
          have HVV := hide hvv
          clear hvv
          generalize blk P (s + 1) j = u at *
          go_wp2_with fail
          refine (HW.out _).mono ?_
          rintro e _ ⟨rfl, rfl⟩
          go_wp2_with fail
          go_round
          case rel => exact ⟨j + 1, by omega, by go_num, by rw [WSS.out]; push_cast; rfl⟩
          case measure => simp [intOf]; omega
        · obtain rfl : j = n := by omega
          go_wp2_with fail
          refine (EQ.out).mono ?_
          rintro e w7 ⟨rfl, hb7⟩
          go_wp2_with fail
          refine (TOT.out _ hb7).mono ?_
          rintro e _ ⟨rfl, rfl⟩
          go_wp2_with fail
          go_ret
          exact ⟨ret_bool (by simp), up (up hb7 HB6.out HB6.out.size) B1 B1.size⟩
end Go.Proofs.Ytkalecdjcdgodaa
