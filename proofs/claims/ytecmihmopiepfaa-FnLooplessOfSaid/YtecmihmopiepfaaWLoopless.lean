/-
  FnLooplessOf returns true for every code: the walk. Conditions: none.
-/
import Derived.Test.YtecmihmopiepfaaHintDraw
import Derived.Test.YtecmihmopiepfaaLoopless2
namespace Go.Proofs.Ytecmihmopiepfaa
open Go.RowKit

theorem stuck_congr {n : Nat} {g g' : Nat → Nat} (h : ∀ i, i < n → g i = g' i) (T : Nat) : stuck n g T ↔ stuck n g' T := by
  constructor
  · intro k i hi hb; rw [← h i hi]; exact k i hi hb
  · intro k i hi hb; rw [h i hi]; exact k i hi hb
theorem noStuck_congr {n : Nat} {g g' : Nat → Nat} (h : ∀ i, i < n → g i = g' i) (S : Nat) : noStuck n g S ↔ noStuck n g' S := by
  constructor
  · intro k T hT hs ht; exact k T hT hs ((stuck_congr h T).2 ht)
  · intro k T hT hs ht; exact k T hT hs ((stuck_congr h T).1 ht)
theorem ll_congr {n : Nat} {g g' : Nat → Nat} (h : ∀ i, i < n → g i = g' i) : ∀ k, ll n g k = ll n g' k
  | 0 => rfl
  | k + 1 => by
    simp only [ll]
    rw [ll_congr h k]
    by_cases e : noStuck n g k
    · rw [if_pos e, if_pos ((noStuck_congr h k).1 e)]
    · rw [if_neg e, if_neg (fun x => e ((noStuck_congr h k).2 x))]
theorem wt_n : ∀ n, n < 5 → ∀ s, s < 2 ^ n → wt s ≤ n := by decide +kernel
theorem ll_le {n : Nat} (hn : n < 5) (g : Nat → Nat) : ∀ k, k ≤ 2 ^ n → ll n g k ≤ n
  | 0, _ => Nat.zero_le _
  | k + 1, h => by
    have h1 := ll_le hn g k (by omega)
    have h2 := wt_n n hn k (by omega)
    simp only [ll]; split <;> omega
theorem ll_mono {n : Nat} (g : Nat → Nat) : ∀ d k, ll n g k ≤ ll n g (k + d)
  | 0, _ => Nat.le_refl _
  | d + 1, k => by
    refine Nat.le_trans (ll_mono g d k) ?_
    show ll n g (k + d) ≤ ll n g (k + d + 1)
    simp only [ll]; split <;> omega
theorem one_sub : ∀ T, T < 16 → T &&& 1 = T → T = 0 ∨ T = 1 := by decide +kernel
theorem ll_one {n : Nat} (hn : 1 ≤ n) {g : Nat → Nat} (h0 : bt (g 0) 0 = false) : 1 ≤ ll n g (2 ^ n) := by
  have e : noStuck n g 1 := by
    intro T hT hs ht
    rcases one_sub T hT hs with rfl | rfl
    · rfl
    · exact absurd (by rw [Nat.and_one_is_mod]; simp only [bt, Nat.pow_zero, Nat.div_one, decide_eq_false_iff_not] at h0; omega) (ht 0 (by omega) (by decide))
  have h2 : 1 ≤ ll n g 2 := by
    show 1 ≤ if noStuck n g 1 then max (ll n g 1) (wt 1) else ll n g 1
    rw [if_pos e]
    have : wt 1 = 1 := by decide
    omega
  have h3 : 2 ≤ 2 ^ n := Nat.pow_le_pow_right (show 0 < 2 by omega) hn
  have := ll_mono (n := n) g (2 ^ n - 2) 2
  rw [show 2 + (2 ^ n - 2) = 2 ^ n by omega] at this
  omega
theorem ll_none : ∀ n, n < 5 → ll n (fun _ => 0) (2 ^ n) = n := by decide +kernel
theorem ll_full : ∀ n, n < 4 → ll (n + 1) (fun i => 2 ^ (n + 1) - 1 - 2 ^ i) (2 ^ (n + 1)) = 1 := by decide +kernel

theorem lp_spec {n : Nat} {f : Nat → Int} (h : 0 ≤ lpV n f) : (1 ≤ n ∧ n ≤ 4) ∧ 1 ≤ lpV n f ∧ lpV n f ≤ n ∧ ((∀ j, j < n → f j = 0) → lpV n f = n) ∧ ((∀ j, j < n → f j = 2 ^ n - 1 - 2 ^ j) → lpV n f = 1) := by
  have hv : vH n f = true := by
    cases e : vH n f
    · simp [lpV, e] at h
    · rfl
  obtain ⟨h4, hg⟩ := vH_true.1 hv
  have e : lpV n f = (ll n (fun i => (f i).toNat) (2 ^ n) : Nat) := by simp only [lpV, hv]; rfl
  rw [e]
  have h1 := ll_one h4.1 (g := fun i => (f i).toNat) (hg 0 (by omega)).2
  have h2 := ll_le (show n < 5 by omega) (fun i => (f i).toNat) (2 ^ n) (Nat.le_refl _)
  refine ⟨h4, by omega, by omega, fun h0 => ?_, fun h0 => ?_⟩
  · rw [ll_congr (g' := fun _ => 0) (fun i hi => by rw [h0 i hi]; rfl), ll_none n (by omega)]
  · obtain ⟨m, rfl⟩ : ∃ m, n = m + 1 := ⟨n - 1, by omega⟩
    rw [ll_congr (g' := fun i => 2 ^ (m + 1) - 1 - 2 ^ i) (fun i hi => by
      rw [h0 i hi]
      have a : (2 : Int) ^ (m + 1) = ((2 ^ (m + 1) : Nat) : Int) := by push_cast; rfl
      have b : (2 : Int) ^ i = ((2 ^ i : Nat) : Int) := by push_cast; rfl
      rw [a, b]; omega), ll_full m (by omega)]
    rfl

set_option maxHeartbeats 1000000 in
theorem fnLooplessOf_walk (a : Option Addr) (len cap : Nat) (zs : List Int) (w : World) (h : IsRow .u8 w a len cap zs) :
    Calls Try.prog 14 #[.slice a len cap] w fun e w' => e = .returned (.bool true) ∧ Below w.heap.size w w' := by
  have hlen : len ≤ 9223372036854775807 := by obtain ⟨h1, h2, _⟩ := bytes_in h; unfold maxLen at h2; omega
  have Hh := hide h
  clear h
  by_cases hl : 1048576 < len
  · go_enter Try.func14, Try.ntmps14
    go_wp2_with fail
    go_ret
    exact ⟨rfl, by go_grown⟩
  go_enter Try.func14, Try.ntmps14
  go_wp2_with fail
  refine (DrawLooplessOf_any a len cap zs w _ Hh.out (by go_grown)).mono ?_
  rintro e w1 ⟨A, n, c, xs, rfl, hrow, hn, B1⟩
  have HM := hide (fun (W : World) (hb : Below w1.heap.size w1 W) => (hrow.keep hb).ints)
  clear hrow
  generalize (fun i => xs.getD i 0) = f at HM
  have Sp := hide (@lp_spec n f)
  have I := hide (fun W hb => LooplessOfI_any A n c f W (by omega) (HM.out W hb))
  have S := hide (fun W hb => LooplessOfS_any A n c f W (by omega) (HM.out W hb))
  generalize lpV n f = y at *
  have e1 : (y != y) = false := by simp
  have e2 : (y == y) = true := by simp
  go_wp2_with fail
  refine (I.out _ (Below.refl _ _)).mono ?_
  rintro e w2 ⟨rfl, hb2⟩
  go_wp2_with fail
  refine (S.out _ hb2).mono ?_
  rintro e w3 ⟨rfl, hb3⟩
  have hc3 : Below w1.heap.size w1 w3 := up hb3 hb2 hb2.size
  by_cases hy : y < 0
  · go_wp2_with fail
    refine (S.out _ hc3).mono ?_
    rintro e w4 ⟨rfl, hb4⟩
    go_wp2_with fail
    go_ret
    exact ⟨rfl, up (up hb4 hc3 hc3.size) B1 B1.size⟩
  obtain ⟨hn4, hy1, hyn, hs1, hs2⟩ := Sp.out (by omega)
  have HS1 := hide hs1
  have HS2 := hide hs2
  have H3 := hide (HM.out w3 hc3)
  have HPn := hide (fun W => powerL_any n W (by omega))
  have p1 := two_pow_pos n
  have p2 := two_pow_le (show n ≤ 4 by omega)
  rw [show (2 : Int) ^ 4 = 16 by decide] at p2
  clear e1 e2 hs1 hs2 Sp I S HM
  generalize (2 : Int) ^ n = pn at *
  go_wp2_with fail
  go_loopw [5, 6, 7] (fun u v i wr => ∃ k : Nat, k ≤ n ∧ i = .int .i64 k ∧ u = .bool (decide (∀ j, j < k → f j = 0)) ∧ v = .bool (decide (∀ j, j < k → f j = pn - 1 - 2 ^ j)) ∧ ∃ q, wr = w3.drewN q) (fun _ _ i _ => n - (intOf i).toNat)
  case atStart => exact ⟨0, Nat.zero_le _, rfl, by simp, by simp, 0, rfl⟩
  case round =>
    obtain ⟨k, hk, rfl, rfl, rfl, q, rfl⟩ := hrel
    by_cases hlt : k < n
    · obtain ⟨b, off, rfl, hbl, hcs⟩ := H3.out (by omega)
      have hcell := hcs k hlt
      have hcell2 : (w3.drewN q).cell? ⟨b, off + k, none⟩ = some (.int .i64 (f k)) := hcs k hlt
      clear hcs
      have HPk := hide (fun W => powerL_any k W (by omega))
      have p3 := two_pow_pos k
      have p4 := two_pow_le (show k ≤ 3 by omega)
      rw [show (2 : Int) ^ 3 = 8 by decide] at p4
      have N1 := hide (show decide (∀ j, j < k + 1 → f j = 0) = (decide (∀ j, j < k → f j = 0) && (f k == 0)) by
        rw [Bool.eq_iff_iff]
        simp only [decide_eq_true_eq, Bool.and_eq_true, beq_iff_eq]
        exact ⟨fun h => ⟨fun j hj => h j (by omega), h k (by omega)⟩, fun h j hj => by
          by_cases e : j = k
          · subst e; exact h.2
          · exact h.1 j (by omega)⟩)
      have N2 := hide (show decide (∀ j, j < k + 1 → f j = pn - 1 - 2 ^ j) = (decide (∀ j, j < k → f j = pn - 1 - 2 ^ j) && (f k == pn - 1 - 2 ^ k)) by
        rw [Bool.eq_iff_iff]
        simp only [decide_eq_true_eq, Bool.and_eq_true, beq_iff_eq]
        exact ⟨fun h => ⟨fun j hj => h j (by omega), h k (by omega)⟩, fun h j hj => by
          by_cases e : j = k
          · subst e; exact h.2
          · exact h.1 j (by omega)⟩)
      generalize f k = x at *
      cases hu : decide (∀ j, j < k → f j = 0) <;> cases hv : decide (∀ j, j < k → f j = pn - 1 - 2 ^ j)
      all_goals
        rw [hu] at N1
        rw [hv] at N2
        clear hu hv
        generalize (2 : Int) ^ k = pk at *
        cases hx0 : x == 0 <;> cases hx1 : x == pn - 1 - pk
        all_goals
          rw [hx0] at N1
          rw [hx1] at N2
          go_wp2_with fail
          go_quiet ((first | (go_at_call 37; first | with_reducible exact quiet_add_left (HPn.out _) | with_reducible exact quiet_add_left (HPk.out _))))
          go_wp2_with fail
          go_roundw
          case rel => exact ⟨k + 1, by omega, by go_num, by rw [N1.out]; rfl, by rw [N2.out]; rfl, by first | exact ⟨_, rfl⟩ | exact ⟨_, World.drewN_drewN _ _ _⟩⟩
          case measure => simp [intOf]; omega
    · obtain rfl : k = n := by omega
      have F1 := hide (show decide (∀ j, j < k → f j = 0) = true → (y == k) = true from fun h => by simpa using HS1.out (of_decide_eq_true h))
      have F2 := hide (show decide (∀ j, j < k → f j = pn - 1 - 2 ^ j) = true → (y == 1) = true from fun h => by simpa using HS2.out (of_decide_eq_true h))
      cases hu : decide (∀ j, j < k → f j = 0) <;> cases hv : decide (∀ j, j < k → f j = pn - 1 - 2 ^ j)
      · clear hu hv F1 F2
        go_wp2_with fail
        go_ret
        exact ⟨rfl, up (below_drewN hc3 _) B1 B1.size⟩
      · have g2 := F2.out hv
        clear hu hv F1 F2
        go_wp2_with fail
        go_ret
        exact ⟨rfl, up (below_drewN hc3 _) B1 B1.size⟩
      · have g1 := F1.out hu
        clear hu hv F1 F2
        go_wp2_with fail
        go_ret
        exact ⟨rfl, up (below_drewN hc3 _) B1 B1.size⟩
      · have g1 := F1.out hu
        have g2 := F2.out hv
        clear hu hv F1 F2
        go_wp2_with fail
        go_ret
        exact ⟨rfl, up (below_drewN hc3 _) B1 B1.size⟩
end Go.Proofs.Ytecmihmopiepfaa
