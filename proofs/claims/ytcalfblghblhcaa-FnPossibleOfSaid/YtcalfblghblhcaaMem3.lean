/-
  Results of the call's own, marked and held by the laws. Conditions: those that each contract names.
-/
import Derived.Test.YtcalfblghblhcaaMem
namespace Go.Proofs.Ytcalfblghblhcaa
open Go.RowKit

/-- a slice of n ints that lies in a block of the call's own, from base on; or nil -/
def OwnI (w : World) (base : Nat) (A : Option Addr) (n : Nat) (f : Nat → Int) : Prop :=
  (A = none ∧ n = 0) ∨ ∃ b N g, A = some ⟨b, 0, none⟩ ∧ base ≤ b ∧ w.rowIs b 3 N g ∧ n ≤ N ∧ ∀ i, i < n → g i = .int .i64 (f i)

theorem OwnI.ints {w : World} {base : Nat} {A : Option Addr} {n : Nat} {f : Nat → Int} (h : OwnI w base A n f) : Ints w w.heap.size A n f := fun h0 => by
  rcases h with ⟨_, rfl⟩ | ⟨b, N, g, rfl, hb, hr, hn, hg⟩
  · omega
  · exact ⟨b, 0, rfl, hr.lt, fun i hi => by rw [Nat.zero_add, hr.cell (by omega), hg i hi]⟩
theorem OwnI.keep {w w' : World} {base : Nat} {A : Option Addr} {n : Nat} {f : Nat → Int} (h : OwnI w base A n f) (hb : Below w.heap.size w w') : OwnI w' base A n f := by
  rcases h with h | ⟨b, N, g, e, hbb, hr, hn, hg⟩
  · exact .inl h
  · exact .inr ⟨b, N, g, e, hbb, hr.of_block (hb.block _ hr.lt), hn, hg⟩
theorem OwnI.nil (w : World) (base : Nat) (f : Nat → Int) : OwnI w base none 0 f := .inl ⟨rfl, rfl⟩

theorem markIntS_any (A : Option Addr) (n c base : Nat) (f : Nat → Int) (k : Int) (w : World) (hn : n ≤ 1099511627776) (hk : 0 ≤ k ∧ k ≤ 1099511627776) (_hbs : base ≤ w.heap.size) (h : OwnI w base A n f) :
    Calls Try.prog 25 #[.slice A n c, .int .i64 k] w fun e w' => e = .returned (.int .i64 (k + n)) ∧ OwnI w' base A n (fun i => k + i) ∧ Below base w w' ∧ w'.heap.size = w.heap.size := by
  by_cases h0 : n = 0
  · subst h0
    have hA : OwnI w base A 0 (fun i => k + i) := by
      rcases h with h | ⟨b, N, g, e, hbb, hr, hn, hg⟩
      · exact .inl h
      · exact .inr ⟨b, N, g, e, hbb, hr, hn, fun i hi => absurd hi (by omega)⟩
    have HA := hide hA
    clear h hA
    go_enter Try.func25, Try.ntmps25
    go_wp2
    refine wp_loop_rounds 1 ?_
    rw [rounds_succ]
    go_wp2
    go_ret
    exact ⟨by simp, HA.out, Below.refl _ _, rfl⟩
  rcases h with ⟨_, h⟩ | ⟨b, N, g, rfl, hbb, hr, hnN, hg⟩
  · omega
  have Hr := hide hr
  clear hg hr
  go_enter Try.func25, Try.ntmps25
  go_wp2
  go_loopw [1, 5] (fun v i wr => ∃ j : Nat, j ≤ n ∧ i = .int .i64 j ∧ v = .int .i64 (k + j) ∧ wr.rowIs b 3 N (fun i => if i < j then .int .i64 (k + i) else g i) ∧ Below base w wr ∧ wr.heap.size = w.heap.size) (fun _ i _ => n - (intOf i).toNat)
  case atStart => exact ⟨0, by omega, rfl, by simp, Hr.out.congr (fun i _ => by simp), Below.refl _ _, rfl⟩
  case round =>
    obtain ⟨j, hj, rfl, rfl, hrow, hb, hz⟩ := hrel
    have Hz := hide hz
    clear hz
    by_cases hlt : j < n
    · have hcd := hrow.cell (show j < N by omega)
      have hfz := hrow.frozen j
      go_wp2
      go_roundw
      case rel => exact ⟨j + 1, by omega, by go_num, by go_num, (hrow.set j _).congr (fun i _ => by
        by_cases e : i = j
        · subst e; simp
        · rw [if_neg e]
          by_cases h1 : i < j
          · rw [if_pos h1, if_pos (by omega)]
          · rw [if_neg h1, if_neg (by omega)]), hb.setCell (p := ⟨b, j, none⟩) hbb _, by simpa [World.setCell] using Hz.out⟩
      case measure => simp [intOf]; omega
    · obtain rfl : j = n := by omega
      go_wp2
      go_ret
      exact ⟨rfl, .inr ⟨b, N, _, rfl, hbb, hrow, hnN, fun i hi => by rw [if_pos hi]⟩, hb, Hz.out⟩

theorem heldIntS_any (A : Option Addr) (n c : Nat) (k : Int) (w : World) (hn : n ≤ 1099511627776) (hk : 0 ≤ k ∧ k ≤ 1099511627776) (h : Ints w w.heap.size A n (fun i => k + i)) :
    Calls Try.prog 26 #[.slice A n c, .int .i64 k] w fun e w' => e = .returned (.int .i64 (k + n)) ∧ Below w.heap.size w w' := by
  have H := hide h
  clear h
  go_enter Try.func26, Try.ntmps26
  go_wp2
  go_loopw [1, 5] (fun v i wr => ∃ j : Nat, j ≤ n ∧ i = .int .i64 j ∧ v = .int .i64 (k + j) ∧ Below w.heap.size w wr) (fun _ i _ => n - (intOf i).toNat)
  case atStart => exact ⟨0, by omega, rfl, by simp, Below.refl _ _⟩
  case round =>
    obtain ⟨j, hj, rfl, rfl, hb⟩ := hrel
    by_cases hlt : j < n
    · obtain ⟨b, off, rfl, hbl, hc⟩ := H.out (by omega)
      have hck := (hb.cell (p := ⟨b, off + j, none⟩) hbl).trans (hc j hlt)
      clear hc
      go_wp2
      go_roundw
      case rel => exact ⟨j + 1, by omega, by go_num, by go_num, hb⟩
      case measure => simp [intOf]; omega
    · obtain rfl : j = n := by omega
      go_wp2
      go_ret
      exact ⟨rfl, hb⟩
end Go.Proofs.Ytcalfblghblhcaa
