/-
  The least amounts. Conditions: none.
-/
import Derived.Test.YtfnbnpjedhcmgaaStore4
namespace Go.Proofs.Ytfnbnpjedhcmgaa
open Go.RowKit

/-- the first x from x0 on, of at most n tries, for which the capacity f x is at least the amount -/
def firstFrom (f : Int → Int) (amount : Int) : Nat → Int → Int × Bool
  | 0, _ => (0, false)
  | n + 1, x => if amount ≤ f x then (x, true) else firstFrom f amount n (x + 1)

def leastS (nd ne ak k s amount : Int) : Int × Bool := if vSt nd ne ak k s && inR amount 0 120 then firstFrom (fun x => capN ak k x ne.toNat) amount 21 0 else (0, false)
def leastK (nd ne ak k s amount : Int) : Int × Bool := if vSt nd ne ak k s && inR amount 0 120 then firstFrom (fun x => capN ak x s ne.toNat) amount 21 0 else (0, false)

theorem vSt_sent {nd ne ak k s x : Int} (hv : vSt nd ne ak k s = true) (h0 : 0 ≤ x) (h1 : x ≤ 20) : vSt nd ne ak k x = true := by
  simp only [vSt, Bool.and_eq_true, inR_true] at hv ⊢
  omega
theorem vSt_kept {nd ne ak k s x : Int} (hv : vSt nd ne ak k s = true) (h0 : 0 ≤ x) (h1 : x ≤ 20) : vSt nd ne ak x s = true := by
  simp only [vSt, Bool.and_eq_true, inR_true] at hv ⊢
  omega

theorem first_step {f : Int → Int} {amount : Int} {n : Nat} {x : Int} (h : f x < amount) : firstFrom f amount (n + 1) x = firstFrom f amount n (x + 1) := by rw [firstFrom, if_neg (by omega)]
theorem first_hit {f : Int → Int} {amount : Int} {n : Nat} {x : Int} (h : amount ≤ f x) : firstFrom f amount (n + 1) x = (x, true) := by rw [firstFrom, if_pos h]

set_option maxHeartbeats 800000 in
theorem LeastSentS_any (nd ne ak k s amount : Int) (w : World) :
    Calls Try.prog 28 #[.agg #[.int .i64 nd, .int .i64 ne, .int .i64 ak, .int .i64 k, .int .i64 s], .int .i64 amount] w fun e w' => e = .returned (.tuple #[.int .i64 (leastS nd ne ak k s amount).1, .bool (leastS nd ne ak k s amount).2]) ∧ Below w.heap.size w w' := by
  cases hv : vSt nd ne ak k s
  · refine calls_two (a := .int .i64 0) (b := .bool false) (by simp [leastS, hv]) (by simp [leastS, hv]) ?_
    go_enter Try.func28, Try.ntmps28
    go_wp2_with (first | (go_at_call 36; refine (validStoreS_any _ _ _ _ _ _).mono ?_; rintro e w' ⟨rfl, hb⟩) | (go_at_call 34; refine (inRange_any _ _ _ _).mono ?_; rintro e w' ⟨rfl, rfl⟩))
    go_ret2
    exact ⟨rfl, up hb (by go_grown) (by simp)⟩
  cases ha : inR amount 0 120
  · refine calls_two (a := .int .i64 0) (b := .bool false) (by simp [leastS, hv, ha]) (by simp [leastS, hv, ha]) ?_
    go_enter Try.func28, Try.ntmps28
    go_wp2_with (first | (go_at_call 36; refine (validStoreS_any _ _ _ _ _ _).mono ?_; rintro e w' ⟨rfl, hb⟩) | (go_at_call 34; refine (inRange_any _ _ _ _).mono ?_; rintro e w' ⟨rfl, rfl⟩))
    go_ret2
    exact ⟨rfl, up hb (by go_grown) (by simp)⟩
  obtain ⟨b1, b2, b3, b4, b5, b6, b7, b8, b9, b10⟩ := vSt_bd hv
  obtain ⟨a1, a2⟩ := inR_true.1 ha
  have hle : leastS nd ne ak k s amount = firstFrom (fun x => capN ak k x ne.toNat) amount 21 0 := by simp [leastS, hv, ha]
  generalize leastS nd ne ak k s amount = r at *
  have HL := hide hle
  clear hle
  go_enter Try.func28, Try.ntmps28
  go_wp2_with (first | (go_at_call 36; refine (validStoreS_any _ _ _ _ _ _).mono ?_; rintro e w' ⟨rfl, hb⟩; obtain ⟨hc, hf⟩ := bcell hb; have hz := hb.size; simp at hz; have hz0 : w.heap.size < w'.heap.size := (by omega)) | (go_at_call 34; refine (inRange_any _ _ _ _).mono ?_; rintro e w' ⟨rfl, rfl⟩))
  clear hc hf hz
  go_loopw [6] (fun i wr => ∃ n : Nat, n ≤ 21 ∧ i = .int .i64 n ∧ r = firstFrom (fun x => capN ak k x ne.toNat) amount (21 - n) n ∧ Below (w.alloc (.cells #[.int .i64 nd, .int .i64 ne, .int .i64 ak, .int .i64 k, .int .i64 s] 29)).heap.size (w.alloc (.cells #[.int .i64 nd, .int .i64 ne, .int .i64 ak, .int .i64 k, .int .i64 s] 29)) wr) (fun i _ => 21 - (intOf i).toNat)
  case atStart => exact ⟨0, by omega, rfl, HL.out, hb⟩
  case round =>
    obtain ⟨n, hn, rfl, hr, hbr⟩ := hrel
    have HR := hide hr
    clear hr
    obtain ⟨hc, hf⟩ := bcell hbr
    have hz1 : w.heap.size < wr.heap.size := by have := hbr.size; simp at this; omega
    by_cases hlt : n < 21
    · obtain ⟨m, hm⟩ : ∃ m, 21 - n = m + 1 := ⟨20 - n, by omega⟩
      have Hm := hide hm
      have hvn : vSt nd ne ak k (n : Int) = true := vSt_sent hv (by omega) (by omega)
      clear hm
      go_wp2_with fail
      refine (capacityS_any _ _ _ _ _ _ hvn).mono ?_
      rintro e w2 ⟨rfl, hb2⟩
      have hB2 : Below (w.alloc (.cells #[.int .i64 nd, .int .i64 ne, .int .i64 ak, .int .i64 k, .int .i64 s] 29)).heap.size (w.alloc (.cells #[.int .i64 nd, .int .i64 ne, .int .i64 ak, .int .i64 k, .int .i64 s] 29)) w2 := by
        refine hbr.trans ((show Below (w.alloc (.cells #[.int .i64 nd, .int .i64 ne, .int .i64 ak, .int .i64 k, .int .i64 s] 29)).heap.size wr _ from ?_).trans (hb2.mono (by have := hbr.size; simp [World.setCell]; simp at this; omega)))
        have := hbr.size
        go_grown
      clear hc hf
      by_cases hh : amount ≤ capN ak k (n : Int) ne.toNat
      · have h1 : r = ((n : Int), true) := by rw [HR.out, Hm.out]; exact first_hit hh
        have H1 := hide h1
        clear h1
        go_wp2_with fail
        go_ret2
        exact ⟨by rw [H1.out]; rfl, (show Below w.heap.size w (w.alloc _) from by go_grown).trans (hB2.mono (by simp))⟩
      · have h1 : r = firstFrom (fun x => capN ak k x ne.toNat) amount (21 - (n + 1)) ((n : Int) + 1) := by rw [HR.out, Hm.out, first_step (by omega)]; congr 1; have := Hm.out; omega
        have H1 := hide h1
        clear h1
        go_wp2_with fail
        go_roundw
        case rel => exact ⟨n + 1, by omega, by go_num, H1.out, hB2⟩
        case measure => simp [intOf]; omega
    · obtain rfl : n = 21 := by omega
      have h1 : r = (0, false) := HR.out
      have H1 := hide h1
      clear h1 hc hf
      go_wp2_with fail
      go_ret2
      exact ⟨by rw [H1.out]; rfl, (show Below w.heap.size w (w.alloc _) from by go_grown).trans (hbr.mono (by simp))⟩

set_option maxHeartbeats 800000 in
theorem LeastKeptS_any (nd ne ak k s amount : Int) (w : World) :
    Calls Try.prog 26 #[.agg #[.int .i64 nd, .int .i64 ne, .int .i64 ak, .int .i64 k, .int .i64 s], .int .i64 amount] w fun e w' => e = .returned (.tuple #[.int .i64 (leastK nd ne ak k s amount).1, .bool (leastK nd ne ak k s amount).2]) ∧ Below w.heap.size w w' := by
  cases hv : vSt nd ne ak k s
  · refine calls_two (a := .int .i64 0) (b := .bool false) (by simp [leastK, hv]) (by simp [leastK, hv]) ?_
    go_enter Try.func26, Try.ntmps26
    go_wp2_with (first | (go_at_call 36; refine (validStoreS_any _ _ _ _ _ _).mono ?_; rintro e w' ⟨rfl, hb⟩) | (go_at_call 34; refine (inRange_any _ _ _ _).mono ?_; rintro e w' ⟨rfl, rfl⟩))
    go_ret2
    exact ⟨rfl, up hb (by go_grown) (by simp)⟩
  cases ha : inR amount 0 120
  · refine calls_two (a := .int .i64 0) (b := .bool false) (by simp [leastK, hv, ha]) (by simp [leastK, hv, ha]) ?_
    go_enter Try.func26, Try.ntmps26
    go_wp2_with (first | (go_at_call 36; refine (validStoreS_any _ _ _ _ _ _).mono ?_; rintro e w' ⟨rfl, hb⟩) | (go_at_call 34; refine (inRange_any _ _ _ _).mono ?_; rintro e w' ⟨rfl, rfl⟩))
    go_ret2
    exact ⟨rfl, up hb (by go_grown) (by simp)⟩
  obtain ⟨b1, b2, b3, b4, b5, b6, b7, b8, b9, b10⟩ := vSt_bd hv
  obtain ⟨a1, a2⟩ := inR_true.1 ha
  have hle : leastK nd ne ak k s amount = firstFrom (fun x => capN ak x s ne.toNat) amount 21 0 := by simp [leastK, hv, ha]
  generalize leastK nd ne ak k s amount = r at *
  have HL := hide hle
  clear hle
  go_enter Try.func26, Try.ntmps26
  go_wp2_with (first | (go_at_call 36; refine (validStoreS_any _ _ _ _ _ _).mono ?_; rintro e w' ⟨rfl, hb⟩; obtain ⟨hc, hf⟩ := bcell hb; have hz := hb.size; simp at hz; have hz0 : w.heap.size < w'.heap.size := (by omega)) | (go_at_call 34; refine (inRange_any _ _ _ _).mono ?_; rintro e w' ⟨rfl, rfl⟩))
  clear hc hf hz
  go_loopw [6] (fun i wr => ∃ n : Nat, n ≤ 21 ∧ i = .int .i64 n ∧ r = firstFrom (fun x => capN ak x s ne.toNat) amount (21 - n) n ∧ Below (w.alloc (.cells #[.int .i64 nd, .int .i64 ne, .int .i64 ak, .int .i64 k, .int .i64 s] 29)).heap.size (w.alloc (.cells #[.int .i64 nd, .int .i64 ne, .int .i64 ak, .int .i64 k, .int .i64 s] 29)) wr) (fun i _ => 21 - (intOf i).toNat)
  case atStart => exact ⟨0, by omega, rfl, HL.out, hb⟩
  case round =>
    obtain ⟨n, hn, rfl, hr, hbr⟩ := hrel
    have HR := hide hr
    clear hr
    obtain ⟨hc, hf⟩ := bcell hbr
    have hz1 : w.heap.size < wr.heap.size := by have := hbr.size; simp at this; omega
    by_cases hlt : n < 21
    · obtain ⟨m, hm⟩ : ∃ m, 21 - n = m + 1 := ⟨20 - n, by omega⟩
      have Hm := hide hm
      have hvn : vSt nd ne ak (n : Int) s = true := vSt_kept hv (by omega) (by omega)
      clear hm
      go_wp2_with fail
      refine (capacityS_any _ _ _ _ _ _ hvn).mono ?_
      rintro e w2 ⟨rfl, hb2⟩
      have hB2 : Below (w.alloc (.cells #[.int .i64 nd, .int .i64 ne, .int .i64 ak, .int .i64 k, .int .i64 s] 29)).heap.size (w.alloc (.cells #[.int .i64 nd, .int .i64 ne, .int .i64 ak, .int .i64 k, .int .i64 s] 29)) w2 := by
        refine hbr.trans ((show Below (w.alloc (.cells #[.int .i64 nd, .int .i64 ne, .int .i64 ak, .int .i64 k, .int .i64 s] 29)).heap.size wr _ from ?_).trans (hb2.mono (by have := hbr.size; simp [World.setCell]; simp at this; omega)))
        have := hbr.size
        go_grown
      clear hc hf
      by_cases hh : amount ≤ capN ak (n : Int) s ne.toNat
      · have h1 : r = ((n : Int), true) := by rw [HR.out, Hm.out]; exact first_hit hh
        have H1 := hide h1
        clear h1
        go_wp2_with fail
        go_ret2
        exact ⟨by rw [H1.out]; rfl, (show Below w.heap.size w (w.alloc _) from by go_grown).trans (hB2.mono (by simp))⟩
      · have h1 : r = firstFrom (fun x => capN ak x s ne.toNat) amount (21 - (n + 1)) ((n : Int) + 1) := by rw [HR.out, Hm.out, first_step (by omega)]; congr 1; have := Hm.out; omega
        have H1 := hide h1
        clear h1
        go_wp2_with fail
        go_roundw
        case rel => exact ⟨n + 1, by omega, by go_num, H1.out, hB2⟩
        case measure => simp [intOf]; omega
    · obtain rfl : n = 21 := by omega
      have h1 : r = (0, false) := HR.out
      have H1 := hide h1
      clear h1 hc hf
      go_wp2_with fail
      go_ret2
      exact ⟨by rw [H1.out]; rfl, (show Below w.heap.size w (w.alloc _) from by go_grown).trans (hbr.mono (by simp))⟩

end Go.Proofs.Ytfnbnpjedhcmgaa
