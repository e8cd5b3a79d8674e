/-
  The law's own helpers over slices of slices: sizes, comparisons, marks. Conditions: those that each contract names.
-/
import Derived.Test.YtcalfblghblhcaaMem
namespace Go.Proofs.Ytcalfblghblhcaa
open Go.RowKit

theorem szIntSS_any (A : Option Addr) (n c : Nat) (L : Nat → Nat) (M : Nat → Nat → Int) (left : Int) (w : World) (hn : n ≤ 9223372036854775807) (hL : ∀ i, i < n → L i ≤ 9223372036854775807) (hl : 0 ≤ left) (hl2 : left ≤ 1048576) (h : Mat w w.heap.size A n L M) :
    Calls Try.prog 35 #[.slice A n c, .int .i64 left] w fun e w' => ∃ r : Int, e = .returned (.int .i64 r) ∧ r ≤ 1048576 ∧ (0 ≤ r → n ≤ 1048576 ∧ ∀ i, i < n → L i ≤ 1048576) ∧ Below w.heap.size w w' := by
  have Hh := hide h
  have HL := hide hL
  clear h hL
  by_cases h0 : left < n
  · go_enter Try.func35, Try.ntmps35
    go_wp2_with fail
    go_ret
    exact ⟨-1, rfl, by omega, by omega, by go_grown⟩
  · go_enter Try.func35, Try.ntmps35
    go_wp2_with fail
    go_loopw [1, 5] (fun l i wr => ∃ (k : Nat) (l' : Int), k ≤ n ∧ i = .int .i64 k ∧ l = .int .i64 l' ∧ 0 ≤ l' ∧ l' ≤ 1048576 ∧ (∀ j, j < k → L j ≤ 1048576) ∧ Below w.heap.size w wr) (fun _ i _ => n - (intOf i).toNat)
    case atStart => exact ⟨0, _, Nat.zero_le _, rfl, rfl, by omega, by omega, by simp, by go_grown⟩
    case round =>
      obtain ⟨k, l, hk, rfl, rfl, hl0, hl1, hall, hb⟩ := hrel
      have Hall := hide hall
      clear hall
      by_cases hlt : k < n
      · obtain ⟨b, off, rfl, hbl, hc⟩ := Hh.out (by omega)
        obtain ⟨R, C, hc1, hc2⟩ := hc k hlt
        have hck := (hb.cell (p := ⟨b, off + k, none⟩) hbl).trans hc1
        have hLk := HL.out k hlt
        clear hc hc1 hc2
        go_wp2_with fail
        refine (szIntS_any R (L k) C l _ hLk hl0 hl1).mono ?_
        rintro e w1 ⟨rfl, rfl⟩
        by_cases hlk : l < L k
        · rw [if_pos hlk]
          go_wp2_with fail
          go_ret
          exact ⟨-1, rfl, by omega, by omega, hb⟩
        · rw [if_neg hlk]
          have hp : (0 : Int) ≤ L k := by omega
          go_wp2_with fail
          go_roundw
          case rel => exact ⟨k + 1, _, by omega, by go_num, rfl, by omega, by omega, fun j hj => by
            by_cases e : j = k
            · subst e; omega
            · exact Hall.out j (by omega), hb⟩
          case measure => simp [intOf]; omega
      · obtain rfl : k = n := by omega
        go_wp2_with fail
        go_ret
        exact ⟨l, rfl, hl1, fun _ => ⟨by omega, Hall.out⟩, hb⟩

/-- two slices of rows are alike -/
def eqMB (n m : Nat) (L K : Nat → Nat) (M N : Nat → Nat → Int) : Bool := decide (n = m ∧ ∀ i, i < n → eqB (L i) (K i) (M i) (N i) = true)
theorem eqMB_true {n m : Nat} {L K : Nat → Nat} {M N : Nat → Nat → Int} : eqMB n m L K M N = true ↔ n = m ∧ ∀ i, i < n → eqB (L i) (K i) (M i) (N i) = true := by simp [eqMB]
theorem eqMB_self (n : Nat) (L : Nat → Nat) (M : Nat → Nat → Int) : eqMB n n L L M M = true := by simp [eqMB, eqB_self]
theorem eqMB_false {n m : Nat} {L K : Nat → Nat} {M N : Nat → Nat → Int} (h : ¬ (n = m ∧ ∀ i, i < n → eqB (L i) (K i) (M i) (N i) = true)) : eqMB n m L K M N = false := by
  simp only [eqMB, decide_eq_false_iff_not]; exact h

theorem quiet_add {P : Program} {f : FuncId} {args : Array Value} {w : World} {a n : Nat} {v : Value}
    (h : Calls P f args (w.drewN (a + n)) fun e w' => e = .returned v ∧ ∃ m, w' = (w.drewN (a + n)).drewN m) :
    Calls P f args (w.drewN (a + n)) fun e w'' => e = .returned v ∧ ∃ m, w'' = w.drewN (a + m) :=
  h.mono fun _ _ ⟨he, m, hm⟩ => ⟨he, n + m, by rw [hm, World.drewN_drewN, Nat.add_assoc]⟩

theorem eqIntSS_any (A B : Option Addr) (n m c d : Nat) (L K : Nat → Nat) (M N : Nat → Nat → Int) (w : World) (hn : n ≤ 9223372036854775807) (hm : m ≤ 9223372036854775807) (hL : ∀ i, i < n → L i ≤ 9223372036854775807) (hK : ∀ i, i < m → K i ≤ 9223372036854775807)
    (h1 : Mat w w.heap.size A n L M) (h2 : Mat w w.heap.size B m K N) :
    Calls Try.prog 39 #[.slice A n c, .slice B m d] w fun e w' => e = .returned (.bool (eqMB n m L K M N)) ∧ ∃ q, w' = w.drewN q := by
  have H1 := hide h1
  have H2 := hide h2
  have HL := hide hL
  have HK := hide hK
  clear h1 h2 hL hK
  by_cases hnm : n = m
  · subst hnm
    go_enter Try.func39, Try.ntmps39
    go_wp2
    go_loopw [5] (fun i wr => ∃ k : Nat, k ≤ n ∧ i = .int .i64 k ∧ (∀ j, j < k → eqB (L j) (K j) (M j) (N j) = true) ∧ ∃ q, wr = w.drewN q) (fun i _ => n - (intOf i).toNat)
    case atStart => exact ⟨0, Nat.zero_le _, rfl, by simp, 0, rfl⟩
    case round =>
      obtain ⟨k, hk, rfl, hall, q, rfl⟩ := hrel
      have Hall := hide hall
      clear hall
      by_cases hlt : k < n
      · obtain ⟨b, off, rfl, hbl, hc⟩ := H1.out (by omega)
        obtain ⟨b2, off2, rfl, hbl2, hc2⟩ := H2.out (by omega)
        obtain ⟨R, C, e1, e2⟩ := hc k hlt
        obtain ⟨S, D, f1, f2⟩ := hc2 k hlt
        have hck := e1
        have hck2 := f1
        have hLk := HL.out k hlt
        have hKk := HK.out k hlt
        have E := fun (W : World) (hW : ∃ q', W = w.drewN q') => eqIntS_any R S (L k) (K k) C D (M k) (N k) W hLk hKk (by obtain ⟨q', rfl⟩ := hW; exact e2) (by obtain ⟨q', rfl⟩ := hW; exact f2)
        clear hc hc2 e1 f1 e2 f2
        cases he : eqB (L k) (K k) (M k) (N k)
        · have HE := hide E
          clear E
          go_wp2_with fail
          go_quiet ((go_at_call 17; exact quiet_add (HE.out _ ⟨_, rfl⟩)))
          rw [he]
          go_wp2
          go_ret
          exact ⟨ret_bool (eqMB_false (fun h => by have := h.2 k hlt; rw [he] at this; cases this)).symm, (by first | exact ⟨_, rfl⟩ | exact ⟨_, World.drewN_drewN _ _ _⟩)⟩
        · have HE := hide E
          clear E
          go_wp2_with fail
          go_quiet ((go_at_call 17; exact quiet_add (HE.out _ ⟨_, rfl⟩)))
          rw [he]
          go_wp2
          go_roundw
          case rel => exact ⟨k + 1, by omega, by go_num, fun j hj => by
            by_cases e : j = k
            · subst e; exact he
            · exact Hall.out j (by omega), (by first | exact ⟨_, rfl⟩ | exact ⟨_, World.drewN_drewN _ _ _⟩)⟩
          case measure => simp [intOf]; omega
      · obtain rfl : k = n := by omega
        go_wp2
        go_ret
        exact ⟨ret_bool (eqMB_true.2 ⟨rfl, Hall.out⟩).symm, q, rfl⟩
  · have hnm' : ((n : Int) != m) = true := by simp; omega
    have Hnm := hide hnm
    clear hnm
    go_enter Try.func39, Try.ntmps39
    go_wp2
    go_ret
    exact ⟨ret_bool (eqMB_false (fun h => Hnm.out h.1)).symm, 0, rfl⟩
end Go.Proofs.Ytcalfblghblhcaa
