/-
  The laws' equalLists. Conditions: those that the contract names.
-/
import Derived.Test.YthafmoofemfdmaaLawHelp
import Derived.Test.YthafmoofemfdmaaMem2
namespace Go.Proofs.Ythafmoofemfdmaa
open Go.RowKit

theorem equalLists_any (A B : Option Addr) (n m c d : Nat) (L K : Nat → Nat) (M N : Nat → Nat → Int) (w : World) (hn : n ≤ 9223372036854775807) (hm : m ≤ 9223372036854775807) (hL : ∀ i, i < n → L i ≤ 9223372036854775807) (hK : ∀ i, i < m → K i ≤ 9223372036854775807)
    (h1 : Mat w w.heap.size A n L M) (h2 : Mat w w.heap.size B m K N) :
    Calls Try.prog 79 #[.slice A n c, .slice B m d] w fun e w' => e = .returned (.bool (eqMB n m L K M N)) ∧ ∃ q, w' = w.drewN q := by
  have H1 := hide h1
  have H2 := hide h2
  have HL := hide hL
  have HK := hide hK
  clear h1 h2 hL hK
  by_cases hnm : n = m
  · subst hnm
    go_enter Try.func79, Try.ntmps79
    go_wp2
    go_loopw [5] (fun i wr => ∃ k : Nat, k ≤ n ∧ i = .int .i64 k ∧ (∀ j, j < k → eqB (L j) (K j) (M j) (N j) = true) ∧ ∃ q, wr = w.drewN q) (fun i _ => n - (intOf i).toNat)
    case atStart => exact ⟨0, Nat.zero_le _, rfl, by simp, 0, rfl⟩
    case round =>
      obtain ⟨k, hk, rfl, hall, q, rfl⟩ := hrel
      have Hall := hide hall
      clear hall
      by_cases hlt : k < n
      · obtain ⟨b, off, rfl, hbl, hc⟩ := H1.out (by omega)
        obtain ⟨b2, off2, rfl, hbl2, hc2⟩ := H2.out (by omega)
        obtain ⟨R, C, e1, e2⟩ := hc k hlt
        obtain ⟨S, D, f1, f2⟩ := hc2 k hlt
        have hck := e1
        have hck2 := f1
        have hLk := HL.out k hlt
        have hKk := HK.out k hlt
        have E := fun (W : World) (hW : ∃ q', W = w.drewN q') => equalInts_any R S (L k) (K k) C D (M k) (N k) W hLk hKk (by obtain ⟨q', rfl⟩ := hW; exact e2) (by obtain ⟨q', rfl⟩ := hW; exact f2)
        clear hc hc2 e1 f1 e2 f2
        cases he : eqB (L k) (K k) (M k) (N k)
        · have HE := hide E
          clear E
          go_wp2_with fail
          go_quiet ((go_at_call 24; exact quiet_add (HE.out _ ⟨_, rfl⟩)))
          rw [he]
          go_wp2
          go_ret
          exact ⟨ret_bool (eqMB_false (fun h => by have := h.2 k hlt; rw [he] at this; cases this)).symm, (by first | exact ⟨_, rfl⟩ | exact ⟨_, World.drewN_drewN _ _ _⟩)⟩
        · have HE := hide E
          clear E
          go_wp2_with fail
          go_quiet ((go_at_call 24; exact quiet_add (HE.out _ ⟨_, rfl⟩)))
          rw [he]
          go_wp2
          go_roundw
          case rel => exact ⟨k + 1, by omega, by go_num, fun j hj => by
            by_cases e : j = k
            · subst e; exact he
            · exact Hall.out j (by omega), (by first | exact ⟨_, rfl⟩ | exact ⟨_, World.drewN_drewN _ _ _⟩)⟩
          case measure => simp [intOf]; omega
      · obtain rfl : k = n := by omega
        go_wp2
        go_ret
        exact ⟨ret_bool (eqMB_true.2 ⟨rfl, Hall.out⟩).symm, q, rfl⟩
  · have hnm' : ((n : Int) != m) = true := by simp; omega
    have Hnm := hide hnm
    clear hnm
    go_enter Try.func79, Try.ntmps79
    go_wp2
    go_ret
    exact ⟨ret_bool (eqMB_false (fun h => Hnm.out h.1)).symm, 0, rfl⟩

theorem equalLists_b (A B : Option Addr) (n c d : Nat) (L K : Nat → Nat) (M N : Nat → Nat → Int) (w : World) (hn : n ≤ 9223372036854775807) (hL : ∀ i, i < n → L i ≤ 9223372036854775807) (h1 : Mat w w.heap.size A n L M) (h2 : Mat w w.heap.size B n K N) (he : ∀ i, i < n → L i = K i ∧ ∀ j, j < L i → M i j = N i j) :
    Calls Try.prog 79 #[.slice A n c, .slice B n d] w fun e w' => e = .returned (.bool true) ∧ Below w.heap.size w w' :=
  (equalLists_any A B n n c d L K M N w hn hn hL (fun i hi => by rw [← (he i hi).1]; exact hL i hi) h1 h2).mono fun _ _ ⟨hr, q, hw⟩ => ⟨by
    rw [hr, eqMB_true.2 ⟨rfl, fun i hi => by
      rw [eqB_true]
      exact he i hi⟩], by rw [hw]; exact below_drewN (Below.refl _ _) _⟩
end Go.Proofs.Ythafmoofemfdmaa
