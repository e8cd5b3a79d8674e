/-
  FnCliquesOf returns true for every code: the walk. Conditions: none.
-/
import Derived.Test.YtecmihmopiepfaaHintDraw
import Derived.Test.YtecmihmopiepfaaWExactCliques
namespace Go.Proofs.Ytecmihmopiepfaa
open Go.RowKit

/-- all pairs, no pair among the first n -/
def allP (n P : Nat) : Bool := (List.range n).all fun j => (List.range j).all fun i => bt P (idx i j)
def noP (n P : Nat) : Bool := (List.range n).all fun j => (List.range j).all fun i => !bt P (idx i j)
theorem allP_true {n P : Nat} : allP n P = true ↔ ∀ j, j < n → ∀ i, i < j → bt P (idx i j) = true := by
  simp [allP, List.all_eq_true, List.mem_range]
theorem noP_true {n P : Nat} : noP n P = true ↔ ∀ j, j < n → ∀ i, i < j → bt P (idx i j) = false := by
  simp [noP, List.all_eq_true, List.mem_range]
theorem ends_fin : ∀ n, n < 4 → ∀ P, P < 64 → (cf (clC P) 16 (2 ^ (n + 1) - 1) == 1) = allP (n + 1) P ∧ (cf (clC P) 16 (2 ^ (n + 1) - 1) == n + 1) = noP (n + 1) P := by decide +kernel
theorem full_fin' : ∀ n, n < 5 → ∀ i, i < n → ∀ y, y < 2 ^ n → (bt y i = true ∨ (y == 2 ^ n - 1 - 2 ^ i) = (List.range n).all fun j => j == i || bt y j) := by decide +kernel
theorem full_fin (n : Nat) (hn : n < 5) (i : Nat) (hi : i < n) (y : Nat) (hy : y < 2 ^ n) (h0 : bt y i = false) : y = 2 ^ n - 1 - 2 ^ i ↔ ∀ j, j < n → j ≠ i → bt y j = true := by
  rcases full_fin' n hn i hi y hy with h | h
  · rw [h0] at h; cases h
  · rw [← beq_iff_eq, h, List.all_eq_true]
    constructor
    · intro k j hj hne
      have := k j (List.mem_range.2 hj)
      simpa [hne] using this
    · intro k j hj
      have := k j (List.mem_range.1 hj)
      by_cases e : j = i
      · simp [e]
      · simp [this e]

theorem cl_spec {n : Nat} {f : Nat → Int} (h : 0 ≤ clV n f) : (1 ≤ n ∧ n ≤ 4) ∧ (∀ j, j < n → f j = ((f j).toNat : Nat) ∧ (f j).toNat < 16) ∧
    (clV n f = 1 ↔ ∀ j, j < n → f j = 2 ^ n - 1 - 2 ^ j) ∧ (clV n f = n ↔ ∀ j, j < n → ∀ i, i < j → (bt (f j).toNat i && bt (f i).toNat j) = false) := by
  have hv : vH n f = true := by
    cases e : vH n f
    · simp [clV, e] at h
    · rfl
  obtain ⟨h4, hg⟩ := vH_g hv
  obtain ⟨_, hk⟩ := vH_true.1 hv
  obtain ⟨P, hP, hb, hc⟩ := clB_code n (fun i => (f i).toNat) h4.2 (fun i hi => (hg i hi).2)
  have h2 := Nat.two_pow_pos n
  have e : clV n f = (cf (clC P) 16 (2 ^ n - 1) : Nat) := by
    simp only [clV, hv]
    rw [if_pos trivial, cf_congr hc 16 (2 ^ n - 1) (by omega)]
  obtain ⟨m, rfl⟩ : ∃ m, n = m + 1 := ⟨n - 1, by omega⟩
  obtain ⟨E1, E2⟩ := ends_fin m (by omega) P hP
  have hb' : ∀ j, j < m + 1 → ∀ i, i < j → bt P (idx i j) = (bt (f j).toNat i && bt (f i).toNat j) := fun j hj i hi => by
    rw [hb j (by omega) i hi]
    simp [adj, hj, Bool.and_comm]
  have hcast : ∀ i, ((2 ^ i : Nat) : Int) = (2 : Int) ^ i := fun i => by push_cast; rfl
  have hfull : ∀ j, j < m + 1 → (f j = 2 ^ (m + 1) - 1 - 2 ^ j ↔ ∀ i, i < m + 1 → i ≠ j → bt (f j).toNat i = true) := fun j hj => by
    have r := inR_true.1 (hk j hj).1
    have e1 := hcast (m + 1)
    have e2 := hcast j
    have e3 : 2 ^ j ≤ 2 ^ (m + 1) := Nat.pow_le_pow_right (show 0 < 2 by omega) (by omega)
    have e4 : 2 ^ j < 2 ^ (m + 1) := Nat.pow_lt_pow_right (show 1 < 2 by omega) hj
    rw [← full_fin (m + 1) (by omega) j hj (f j).toNat (by omega) (hk j hj).2, ← e1, ← e2]
    have := (hg j hj).1
    omega
  refine ⟨h4, hg, ?_, ?_⟩
  · rw [e, show ((cf (clC P) 16 (2 ^ (m + 1) - 1) : Nat) : Int) = 1 ↔ (cf (clC P) 16 (2 ^ (m + 1) - 1) == 1) = true by rw [beq_iff_eq]; omega, E1, allP_true]
    constructor
    · intro k j hj
      refine (hfull j hj).2 (fun i hi hne => ?_)
      by_cases hij : i < j
      · have := k j hj i hij
        rw [hb' j hj i hij, Bool.and_eq_true] at this
        exact this.1
      · have := k i hi j (by omega)
        rw [hb' i hi j (by omega), Bool.and_eq_true] at this
        exact this.2
    · intro k j hj i hij
      rw [hb' j hj i hij, (hfull j hj).1 (k j hj) i (by omega) (by omega), (hfull i (by omega)).1 (k i (by omega)) j hj (by omega)]
      rfl
  · rw [e, show ((cf (clC P) 16 (2 ^ (m + 1) - 1) : Nat) : Int) = ((m + 1 : Nat) : Int) ↔ (cf (clC P) 16 (2 ^ (m + 1) - 1) == m + 1) = true by rw [beq_iff_eq]; omega, E2, noP_true]
    constructor
    · intro k j hj i hij; rw [← hb' j hj i hij]; exact k j hj i hij
    · intro k j hj i hij; rw [hb' j hj i hij]; exact k j hj i hij

def pairFree (g : Nat → Nat) (k : Nat) : Prop := ∀ j, j < k → ∀ i, i < j → (bt (g j) i && bt (g i) j) = false
instance (g : Nat → Nat) (k : Nat) : Decidable (pairFree g k) := by unfold pairFree; exact inferInstance
def pairFree2 (g : Nat → Nat) (k t : Nat) : Prop := pairFree g k ∧ ∀ i, i < t → (bt (g k) i && bt (g i) k) = false
instance (g : Nat → Nat) (k t : Nat) : Decidable (pairFree2 g k t) := by unfold pairFree2; exact inferInstance
theorem pairFree2_zero (g : Nat → Nat) (k : Nat) : decide (pairFree2 g k 0) = decide (pairFree g k) := decide_eq_decide.2 ⟨fun h => h.1, fun h => ⟨h, fun i hi => by omega⟩⟩
theorem pairFree2_end (g : Nat → Nat) (k : Nat) : decide (pairFree2 g k k) = decide (pairFree g (k + 1)) := decide_eq_decide.2 ⟨fun h j hj i hi => by
    by_cases e : j = k
    · subst e; exact h.2 i hi
    · exact h.1 j (by omega) i hi, fun h => ⟨fun j hj i hi => h j (by omega) i hi, fun i hi => h k (by omega) i hi⟩⟩
theorem pairFree2_succ (g : Nat → Nat) (k t : Nat) : pairFree2 g k (t + 1) ↔ pairFree2 g k t ∧ (bt (g k) t && bt (g t) k) = false :=
  ⟨fun h => ⟨⟨h.1, fun i hi => h.2 i (by omega)⟩, h.2 t (by omega)⟩, fun h => ⟨h.1.1, fun i hi => by
    by_cases e : i = t
    · subst e; exact h.2
    · exact h.1.2 i (by omega)⟩⟩
theorem pairFree2_step (g : Nat → Nat) (k t : Nat) : decide (pairFree2 g k (t + 1)) = (decide (pairFree2 g k t) && !(bt (g k) t && bt (g t) k)) := by
  rw [decide_eq_decide.2 (pairFree2_succ g k t), Bool.decide_and]
  cases bt (g k) t && bt (g t) k <;> simp

set_option maxHeartbeats 1000000 in
theorem fnCliquesOf_walk (a : Option Addr) (len cap : Nat) (zs : List Int) (w : World) (h : IsRow .u8 w a len cap zs) :
    Calls Try.prog 12 #[.slice a len cap] w fun e w' => e = .returned (.bool true) ∧ Below w.heap.size w w' := by
  have hlen : len ≤ 9223372036854775807 := by obtain ⟨h1, h2, _⟩ := bytes_in h; unfold maxLen at h2; omega
  have Hh := hide h
  clear h
  by_cases hl : 1048576 < len
  · go_enter Try.func12, Try.ntmps12
    go_wp2_with fail
    go_ret
    exact ⟨rfl, by go_grown⟩
  go_enter Try.func12, Try.ntmps12
  go_wp2_with fail
  refine (DrawCliquesOf_any a len cap zs w _ Hh.out (by go_grown)).mono ?_
  rintro e w1 ⟨A, n, c, xs, rfl, hrow, hn, B1⟩
  have HM := hide (fun (W : World) (hb : Below w1.heap.size w1 W) => (hrow.keep hb).ints)
  clear hrow
  generalize (fun i => xs.getD i 0) = f at HM
  have Sp := hide (@cl_spec n f)
  have I := hide (fun W hb => CliquesOfI_any' A n c f W (by omega) (HM.out W hb))
  have S := hide (fun W hb => CliquesOfS_any A n c f W (by omega) (HM.out W hb))
  generalize clV n f = y at *
  have e1 : (y != y) = false := by simp
  have e2 : (y == y) = true := by simp
  go_wp2_with fail
  refine (I.out _ (Below.refl _ _)).mono ?_
  rintro e w2 ⟨rfl, hb2⟩
  go_wp2_with fail
  refine (S.out _ hb2).mono ?_
  rintro e w3 ⟨rfl, hb3⟩
  have hc3 : Below w1.heap.size w1 w3 := up hb3 hb2 hb2.size
  by_cases hy : y < 0
  · go_wp2_with fail
    refine (S.out _ hc3).mono ?_
    rintro e w4 ⟨rfl, hb4⟩
    go_wp2_with fail
    go_ret
    exact ⟨rfl, up (up hb4 hc3 hc3.size) B1 B1.size⟩
  obtain ⟨hn4, hg, hs1, hs2⟩ := Sp.out (by omega)
  have HS1 := hide hs1
  have HS2 := hide (show y = n ↔ pairFree (fun i => (f i).toNat) n from hs2)
  have HG := hide hg
  have H3 := hide (HM.out w3 hc3)
  have HPn := hide (fun W => powerL_any n W (by omega))
  have p1 := two_pow_pos n
  have p2 := two_pow_le (show n ≤ 4 by omega)
  rw [show (2 : Int) ^ 4 = 16 by decide] at p2
  clear e1 e2 hs1 hs2 Sp I S HM hg
  generalize (2 : Int) ^ n = pn at *
  go_wp2_with fail
  go_loopw [5, 6, 7] (fun u v i wr => ∃ k : Nat, k ≤ n ∧ i = .int .i64 k ∧ u = .bool (decide (∀ j, j < k → f j = pn - 1 - 2 ^ j)) ∧ v = .bool (decide (pairFree (fun i => (f i).toNat) k)) ∧ ∃ q, wr = w3.drewN q) (fun _ _ i _ => n - (intOf i).toNat)
  case atStart => exact ⟨0, Nat.zero_le _, rfl, by simp, by simp [pairFree], 0, rfl⟩
  case round =>
    obtain ⟨k, hk, rfl, rfl, rfl, q, rfl⟩ := hrel
    by_cases hlt : k < n
    · obtain ⟨b, off, rfl, hbl, hcs⟩ := H3.out (by omega)
      have hcell := hcs k hlt
      have HC := hide hcs
      clear hcs
      have HPk := hide (fun W => powerL_any k W (by omega))
      have p3 := two_pow_pos k
      have p4 := two_pow_le (show k ≤ 3 by omega)
      rw [show (2 : Int) ^ 3 = 8 by decide] at p4
      have N2 := hide (show decide (∀ j, j < k + 1 → f j = pn - 1 - 2 ^ j) = (decide (∀ j, j < k → f j = pn - 1 - 2 ^ j) && (f k == pn - 1 - 2 ^ k)) by
        rw [Bool.eq_iff_iff]
        simp only [decide_eq_true_eq, Bool.and_eq_true, beq_iff_eq]
        exact ⟨fun h => ⟨fun j hj => h j (by omega), h k (by omega)⟩, fun h j hj => by
          by_cases e : j = k
          · subst e; exact h.2
          · exact h.1 j (by omega)⟩)
      have P0 := hide (pairFree2_zero (fun i => (f i).toNat) k)
      generalize hV : decide (pairFree (fun i => (f i).toNat) k) = V at *
      have HV := hide hV
      clear hV
      cases hv : decide (∀ j, j < k → f j = pn - 1 - 2 ^ j)
      all_goals
        rw [hv] at N2
        clear hv
        generalize (2 : Int) ^ k = pk at *
        cases hx1 : f k == pn - 1 - pk
        all_goals
          rw [hx1] at N2
          go_wp2_with fail
          go_quiet ((first | (go_at_call 37; first | with_reducible exact quiet_add_left (HPn.out _) | with_reducible exact quiet_add_left (HPk.out _))))
          go_wp2_with fail
          clear hcell
          go_loopw [6, 8] (fun v t wr => ∃ j : Nat, j ≤ k ∧ t = .int .i64 j ∧ v = .bool (decide (pairFree2 (fun i => (f i).toNat) k j)) ∧ ∃ q, wr = w3.drewN q) (fun _ t _ => k - (intOf t).toNat)
          case atStart => exact ⟨0, Nat.zero_le _, rfl, by rw [P0.out], by first | exact ⟨_, rfl⟩ | exact ⟨_, World.drewN_drewN _ _ _⟩⟩
          case round =>
            obtain ⟨j, hj, rfl, rfl, q2, rfl⟩ := hrel
            by_cases hjk : j < k
            · have PS := hide (pairFree2_step (fun i => (f i).toNat) k j)
              obtain ⟨ek, bk⟩ := HG.out k hlt
              obtain ⟨ej, bj⟩ := HG.out j (by omega)
              have hck : (w3.drewN q2).cell? ⟨b, off + k, none⟩ = some (.int .i64 ((f k).toNat : Nat)) := by rw [← ek]; exact HC.out k hlt
              have hcj : (w3.drewN q2).cell? ⟨b, off + j, none⟩ = some (.int .i64 ((f j).toNat : Nat)) := by rw [← ej]; exact HC.out j (by omega)
              clear ek ej
              generalize (f k).toNat = gk at *
              generalize (f j).toNat = gj at *
              cases hd : decide (pairFree2 (fun i => (f i).toNat) k j)
              · rw [hd] at PS
                clear hd
                go_wp2_with fail
                go_roundw
                case rel => exact ⟨j + 1, by omega, by go_num, by rw [PS.out]; rfl, _, rfl⟩
                case measure => simp [intOf]; omega
              · rw [hd] at PS
                clear hd
                cases b1 : bt gk j
                · have HB := hide (fun W => bitL_f gk j W (by omega) (by omega) b1)
                  rw [b1] at PS
                  clear b1
                  go_wp2_with fail
                  refine (HB.out _).mono ?_
                  rintro e _ ⟨rfl, rfl⟩
                  go_wp2_with fail
                  go_roundw
                  case rel => exact ⟨j + 1, by omega, by go_num, by rw [PS.out]; rfl, _, rfl⟩
                  case measure => simp [intOf]; omega
                · have HB := hide (fun W => bitL_t gk j W (by omega) (by omega) b1)
                  rw [b1] at PS
                  clear b1
                  cases b2 : bt gj k
                  · have HB2 := hide (fun W => bitL_f gj k W (by omega) (by omega) b2)
                    rw [b2] at PS
                    clear b2
                    go_wp2_with fail
                    refine (HB.out _).mono ?_
                    rintro e _ ⟨rfl, rfl⟩
                    go_wp2_with fail
                    refine (HB2.out _).mono ?_
                    rintro e _ ⟨rfl, rfl⟩
                    go_wp2_with fail
                    go_roundw
                    case rel => exact ⟨j + 1, by omega, by go_num, by rw [PS.out]; rfl, _, rfl⟩
                    case measure => simp [intOf]; omega
                  · have HB2 := hide (fun W => bitL_t gj k W (by omega) (by omega) b2)
                    rw [b2] at PS
                    clear b2
                    go_wp2_with fail
                    refine (HB.out _).mono ?_
                    rintro e _ ⟨rfl, rfl⟩
                    go_wp2_with fail
                    refine (HB2.out _).mono ?_
                    rintro e _ ⟨rfl, rfl⟩
                    go_wp2_with fail
                    go_roundw
                    case rel => exact ⟨j + 1, by omega, by go_num, by rw [PS.out]; rfl, _, rfl⟩
                    case measure => simp [intOf]; omega
            · obtain rfl : j = k := by omega
              have PE := hide (pairFree2_end (fun i => (f i).toNat) j)
              go_wp2_with fail
              go_roundw
              case rel => exact ⟨j + 1, by omega, by go_num, by rw [N2.out]; rfl, by rw [PE.out], _, rfl⟩
              case measure => simp [intOf]; omega
    · obtain rfl : k = n := by omega
      have F1 := hide (show (y == 1) = decide (∀ j, j < k → f j = pn - 1 - 2 ^ j) by rw [Bool.eq_iff_iff]; simpa using HS1.out)
      have F2 := hide (show (y == k) = decide (pairFree (fun i => (f i).toNat) k) by rw [Bool.eq_iff_iff]; simpa using HS2.out)
      cases hu : decide (∀ j, j < k → f j = pn - 1 - 2 ^ j) <;> cases hv : decide (pairFree (fun i => (f i).toNat) k)
      all_goals
        have g1 := F1.out
        have g2 := F2.out
        rw [hu] at g1
        rw [hv] at g2
        clear hu hv F1 F2
        go_wp2_with fail
        go_ret
        exact ⟨rfl, up (below_drewN hc3 _) B1 B1.size⟩
end Go.Proofs.Ytecmihmopiepfaa
