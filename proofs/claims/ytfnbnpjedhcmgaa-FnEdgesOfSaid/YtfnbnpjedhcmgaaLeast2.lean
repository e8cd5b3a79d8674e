/-
  The least amounts, the program's side. Conditions: none.
-/
import Derived.Test.YtfnbnpjedhcmgaaLeast
namespace Go.Proofs.Ytfnbnpjedhcmgaa
open Go.RowKit

set_option maxHeartbeats 800000 in
theorem leastSentI_any (nd ne ak k s amount : Int) (w : World) :
    Calls Try.prog 42 #[.agg #[.int .i64 nd, .int .i64 ne, .int .i64 ak, .int .i64 k, .int .i64 s], .int .i64 amount, .func (.func 44) #[] #[]] w fun e w' => e = .returned (.tuple #[.int .i64 (leastS nd ne ak k s amount).1, .bool (leastS nd ne ak k s amount).2]) ∧ Below w.heap.size w w' := by
  cases hv : vSt nd ne ak k s
  · refine calls_two (a := .int .i64 0) (b := .bool false) (by simp [leastS, hv]) (by simp [leastS, hv]) ?_
    go_enter Try.func42, Try.ntmps42
    go_wp2_with (first | (go_at_call 19; refine (ValidStoreI_any _ _ _ _ _ _).mono ?_; rintro e w' ⟨rfl, hb⟩) | (go_at_call 35; refine (within_any _ _ _ _).mono ?_; rintro e w' ⟨rfl, rfl⟩))
    go_ret2
    exact ⟨rfl, up hb (by go_grown) (by simp)⟩
  cases ha : inR amount 0 120
  · refine calls_two (a := .int .i64 0) (b := .bool false) (by simp [leastS, hv, ha]) (by simp [leastS, hv, ha]) ?_
    go_enter Try.func42, Try.ntmps42
    go_wp2_with (first | (go_at_call 19; refine (ValidStoreI_any _ _ _ _ _ _).mono ?_; rintro e w' ⟨rfl, hb⟩) | (go_at_call 35; refine (within_any _ _ _ _).mono ?_; rintro e w' ⟨rfl, rfl⟩))
    go_ret2
    exact ⟨rfl, up hb (by go_grown) (by simp)⟩
  obtain ⟨b1, b2, b3, b4, b5, b6, b7, b8, b9, b10⟩ := vSt_bd hv
  obtain ⟨a1, a2⟩ := inR_true.1 ha
  have hle : leastS nd ne ak k s amount = firstFrom (fun x => capN ak k x ne.toNat) amount 21 0 := by simp [leastS, hv, ha]
  generalize leastS nd ne ak k s amount = r at *
  have HL := hide hle
  clear hle
  go_enter Try.func42, Try.ntmps42
  go_wp2_with (first | (go_at_call 19; refine (ValidStoreI_any _ _ _ _ _ _).mono ?_; rintro e w' ⟨rfl, hb⟩; obtain ⟨hc, hf⟩ := bcell hb; have hz := hb.size; simp at hz; have hz0 : w.heap.size < w'.heap.size := (by omega)) | (go_at_call 35; refine (within_any _ _ _ _).mono ?_; rintro e w' ⟨rfl, rfl⟩))
  clear hc hf hz
  go_loopw [17] (fun i wr => ∃ n : Nat, n ≤ 21 ∧ i = .int .i64 n ∧ r = firstFrom (fun x => capN ak k x ne.toNat) amount (21 - n) n ∧ Below (w.alloc (.cells #[.int .i64 nd, .int .i64 ne, .int .i64 ak, .int .i64 k, .int .i64 s] 29)).heap.size (w.alloc (.cells #[.int .i64 nd, .int .i64 ne, .int .i64 ak, .int .i64 k, .int .i64 s] 29)) wr) (fun i _ => 21 - (intOf i).toNat)
  case atStart => exact ⟨0, by omega, rfl, HL.out, hb⟩
  case round =>
    obtain ⟨n, hn, rfl, hr, hbr⟩ := hrel
    have HR := hide hr
    clear hr
    obtain ⟨hc, hf⟩ := bcell hbr
    have hz1 : w.heap.size < wr.heap.size := by have := hbr.size; simp at this; omega
    have hz9 : (w.alloc (.cells #[.int .i64 nd, .int .i64 ne, .int .i64 ak, .int .i64 k, .int .i64 s] 29)).heap.size ≤ wr.heap.size := hbr.size
    by_cases hlt : n < 21
    · obtain ⟨m, hm⟩ : ∃ m, 21 - n = m + 1 := ⟨20 - n, by omega⟩
      have Hm := hide hm
      have hvn : vSt nd ne ak k (n : Int) = true := vSt_sent hv (by omega) (by omega)
      clear hm
      go_wp2_with fail
      refine (LS1_any _ _ _ _ _ _ _).mono ?_
      rintro e w2 ⟨rfl, hb2⟩
      have hB2 : Below (w.alloc (.cells #[.int .i64 nd, .int .i64 ne, .int .i64 ak, .int .i64 k, .int .i64 s] 29)).heap.size (w.alloc (.cells #[.int .i64 nd, .int .i64 ne, .int .i64 ak, .int .i64 k, .int .i64 s] 29)) w2 := up hb2 hbr hz9
      go_wp2_with fail
      refine (capacityI_any _ _ _ _ _ _ hvn).mono ?_
      rintro e w3 ⟨rfl, hb3⟩
      have hB3 : Below (w.alloc (.cells #[.int .i64 nd, .int .i64 ne, .int .i64 ak, .int .i64 k, .int .i64 s] 29)).heap.size (w.alloc (.cells #[.int .i64 nd, .int .i64 ne, .int .i64 ak, .int .i64 k, .int .i64 s] 29)) w3 := up hb3 hB2 hB2.size
      clear hc hf
      by_cases hh : amount ≤ capN ak k (n : Int) ne.toNat
      · have h1 : r = ((n : Int), true) := by rw [HR.out, Hm.out]; exact first_hit hh
        have H1 := hide h1
        clear h1
        go_wp2_with fail
        go_ret2
        exact ⟨by rw [H1.out]; rfl, (show Below w.heap.size w (w.alloc _) from by go_grown).trans (hB3.mono (by simp))⟩
      · have h1 : r = firstFrom (fun x => capN ak k x ne.toNat) amount (21 - (n + 1)) ((n : Int) + 1) := by rw [HR.out, Hm.out, first_step (by omega)]; congr 1; have := Hm.out; omega
        have H1 := hide h1
        clear h1
        go_wp2_with fail
        go_roundw
        case rel => exact ⟨n + 1, by omega, by go_num, H1.out, hB3⟩
        case measure => simp [intOf]; omega
    · obtain rfl : n = 21 := by omega
      have h1 : r = (0, false) := HR.out
      have H1 := hide h1
      clear h1 hc hf
      go_wp2_with fail
      go_ret2
      exact ⟨by rw [H1.out]; rfl, (show Below w.heap.size w (w.alloc _) from by go_grown).trans (hbr.mono (by simp))⟩

theorem LeastSentI_any (nd ne ak k s amount : Int) (w : World) :
    Calls Try.prog 29 #[.agg #[.int .i64 nd, .int .i64 ne, .int .i64 ak, .int .i64 k, .int .i64 s], .int .i64 amount] w fun e w' => e = .returned (.tuple #[.int .i64 (leastS nd ne ak k s amount).1, .bool (leastS nd ne ak k s amount).2]) ∧ Below w.heap.size w w' := by
  go_enter Try.func29, Try.ntmps29
  go_wp2_with fail
  refine (leastSentI_any _ _ _ _ _ _ _).mono ?_
  rintro e w1 ⟨rfl, hb1⟩
  go_wp2_with fail
  go_ret2
  exact ⟨rfl, up hb1 (by go_grown) (by simp)⟩

set_option maxHeartbeats 800000 in
theorem leastKeptI_any (nd ne ak k s amount : Int) (w : World) :
    Calls Try.prog 42 #[.agg #[.int .i64 nd, .int .i64 ne, .int .i64 ak, .int .i64 k, .int .i64 s], .int .i64 amount, .func (.func 43) #[] #[]] w fun e w' => e = .returned (.tuple #[.int .i64 (leastK nd ne ak k s amount).1, .bool (leastK nd ne ak k s amount).2]) ∧ Below w.heap.size w w' := by
  cases hv : vSt nd ne ak k s
  · refine calls_two (a := .int .i64 0) (b := .bool false) (by simp [leastK, hv]) (by simp [leastK, hv]) ?_
    go_enter Try.func42, Try.ntmps42
    go_wp2_with (first | (go_at_call 19; refine (ValidStoreI_any _ _ _ _ _ _).mono ?_; rintro e w' ⟨rfl, hb⟩) | (go_at_call 35; refine (within_any _ _ _ _).mono ?_; rintro e w' ⟨rfl, rfl⟩))
    go_ret2
    exact ⟨rfl, up hb (by go_grown) (by simp)⟩
  cases ha : inR amount 0 120
  · refine calls_two (a := .int .i64 0) (b := .bool false) (by simp [leastK, hv, ha]) (by simp [leastK, hv, ha]) ?_
    go_enter Try.func42, Try.ntmps42
    go_wp2_with (first | (go_at_call 19; refine (ValidStoreI_any _ _ _ _ _ _).mono ?_; rintro e w' ⟨rfl, hb⟩) | (go_at_call 35; refine (within_any _ _ _ _).mono ?_; rintro e w' ⟨rfl, rfl⟩))
    go_ret2
    exact ⟨rfl, up hb (by go_grown) (by simp)⟩
  obtain ⟨b1, b2, b3, b4, b5, b6, b7, b8, b9, b10⟩ := vSt_bd hv
  obtain ⟨a1, a2⟩ := inR_true.1 ha
  have hle : leastK nd ne ak k s amount = firstFrom (fun x => capN ak x s ne.toNat) amount 21 0 := by simp [leastK, hv, ha]
  generalize leastK nd ne ak k s amount = r at *
  have HL := hide hle
  clear hle
  go_enter Try.func42, Try.ntmps42
  go_wp2_with (first | (go_at_call 19; refine (ValidStoreI_any _ _ _ _ _ _).mono ?_; rintro e w' ⟨rfl, hb⟩; obtain ⟨hc, hf⟩ := bcell hb; have hz := hb.size; simp at hz; have hz0 : w.heap.size < w'.heap.size := (by omega)) | (go_at_call 35; refine (within_any _ _ _ _).mono ?_; rintro e w' ⟨rfl, rfl⟩))
  clear hc hf hz
  go_loopw [17] (fun i wr => ∃ n : Nat, n ≤ 21 ∧ i = .int .i64 n ∧ r = firstFrom (fun x => capN ak x s ne.toNat) amount (21 - n) n ∧ Below (w.alloc (.cells #[.int .i64 nd, .int .i64 ne, .int .i64 ak, .int .i64 k, .int .i64 s] 29)).heap.size (w.alloc (.cells #[.int .i64 nd, .int .i64 ne, .int .i64 ak, .int .i64 k, .int .i64 s] 29)) wr) (fun i _ => 21 - (intOf i).toNat)
  case atStart => exact ⟨0, by omega, rfl, HL.out, hb⟩
  case round =>
    obtain ⟨n, hn, rfl, hr, hbr⟩ := hrel
    have HR := hide hr
    clear hr
    obtain ⟨hc, hf⟩ := bcell hbr
    have hz1 : w.heap.size < wr.heap.size := by have := hbr.size; simp at this; omega
    have hz9 : (w.alloc (.cells #[.int .i64 nd, .int .i64 ne, .int .i64 ak, .int .i64 k, .int .i64 s] 29)).heap.size ≤ wr.heap.size := hbr.size
    by_cases hlt : n < 21
    · obtain ⟨m, hm⟩ : ∃ m, 21 - n = m + 1 := ⟨20 - n, by omega⟩
      have Hm := hide hm
      have hvn : vSt nd ne ak (n : Int) s = true := vSt_kept hv (by omega) (by omega)
      clear hm
      go_wp2_with fail
      refine (LK1_any _ _ _ _ _ _ _).mono ?_
      rintro e w2 ⟨rfl, hb2⟩
      have hB2 : Below (w.alloc (.cells #[.int .i64 nd, .int .i64 ne, .int .i64 ak, .int .i64 k, .int .i64 s] 29)).heap.size (w.alloc (.cells #[.int .i64 nd, .int .i64 ne, .int .i64 ak, .int .i64 k, .int .i64 s] 29)) w2 := up hb2 hbr hz9
      go_wp2_with fail
      refine (capacityI_any _ _ _ _ _ _ hvn).mono ?_
      rintro e w3 ⟨rfl, hb3⟩
      have hB3 : Below (w.alloc (.cells #[.int .i64 nd, .int .i64 ne, .int .i64 ak, .int .i64 k, .int .i64 s] 29)).heap.size (w.alloc (.cells #[.int .i64 nd, .int .i64 ne, .int .i64 ak, .int .i64 k, .int .i64 s] 29)) w3 := up hb3 hB2 hB2.size
      clear hc hf
      by_cases hh : amount ≤ capN ak (n : Int) s ne.toNat
      · have h1 : r = ((n : Int), true) := by rw [HR.out, Hm.out]; exact first_hit hh
        have H1 := hide h1
        clear h1
        go_wp2_with fail
        go_ret2
        exact ⟨by rw [H1.out]; rfl, (show Below w.heap.size w (w.alloc _) from by go_grown).trans (hB3.mono (by simp))⟩
      · have h1 : r = firstFrom (fun x => capN ak x s ne.toNat) amount (21 - (n + 1)) ((n : Int) + 1) := by rw [HR.out, Hm.out, first_step (by omega)]; congr 1; have := Hm.out; omega
        have H1 := hide h1
        clear h1
        go_wp2_with fail
        go_roundw
        case rel => exact ⟨n + 1, by omega, by go_num, H1.out, hB3⟩
        case measure => simp [intOf]; omega
    · obtain rfl : n = 21 := by omega
      have h1 : r = (0, false) := HR.out
      have H1 := hide h1
      clear h1 hc hf
      go_wp2_with fail
      go_ret2
      exact ⟨by rw [H1.out]; rfl, (show Below w.heap.size w (w.alloc _) from by go_grown).trans (hbr.mono (by simp))⟩

theorem LeastKeptI_any (nd ne ak k s amount : Int) (w : World) :
    Calls Try.prog 27 #[.agg #[.int .i64 nd, .int .i64 ne, .int .i64 ak, .int .i64 k, .int .i64 s], .int .i64 amount] w fun e w' => e = .returned (.tuple #[.int .i64 (leastK nd ne ak k s amount).1, .bool (leastK nd ne ak k s amount).2]) ∧ Below w.heap.size w w' := by
  go_enter Try.func27, Try.ntmps27
  go_wp2_with fail
  refine (leastKeptI_any _ _ _ _ _ _ _).mono ?_
  rintro e w1 ⟨rfl, hb1⟩
  go_wp2_with fail
  go_ret2
  exact ⟨rfl, up hb1 (by go_grown) (by simp)⟩

end Go.Proofs.Ytfnbnpjedhcmgaa
