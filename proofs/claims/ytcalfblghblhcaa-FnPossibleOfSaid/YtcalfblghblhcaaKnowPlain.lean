/-
  Who knows, plain: more rows know more, and the least groups that know. No conditions: nothing is claimed of the program here.
-/
import Derived.Test.YtcalfblghblhcaaGroup
import Derived.Test.YtcalfblghblhcaaWeight
namespace Go.Proofs.Ytcalfblghblhcaa
open Go.RowKit

theorem sub_emod_dvd (p x : Int) : p ∣ x - x % p := Int.dvd_of_emod_eq_zero (by rw [Int.sub_emod, Int.emod_emod_of_dvd _ (Int.dvd_refl p), Int.sub_self]; rfl)
theorem emod_dvd_sub (p x : Int) : p ∣ x % p - x := Int.dvd_of_emod_eq_zero (by rw [Int.sub_emod, Int.emod_emod_of_dvd _ (Int.dvd_refl p), Int.sub_self]; rfl)
theorem emod_same {p a b : Int} (h : p ∣ a - b) : a % p = b % p := Int.emod_eq_emod_iff_emod_sub_eq_zero.2 (Int.emod_eq_zero_of_dvd h)
/-- a sum of multiples can be written without rows that are sums of those ahead -/
theorem spn_good {p : Int} (hp : isP p = true) {m : Nat} {R : Nat → Nat → Int} : ∀ {n : Nat} {v : Nat → Int}, Spn p m R n v → ∃ f, Good p n m R v f
  | 0, v, ⟨c, hc⟩ => ⟨fun _ => 0, fun j hj => absurd hj (by omega), fun k hk => by have := hc k hk; rwa [lc] at this ⊢, fun j hj => absurd hj (by omega)⟩
  | n + 1, v, ⟨c, hc⟩ => by
    have hpb := isP_pos hp
    by_cases hr : Spn p m R n (R n)
    · have hs : Spn p m R n v := Spn.trans (K := R) (t := n) (n := n + 1) (fun j hj => by
        by_cases e : j = n
        · subst e; exact hr
        · exact Spn.row (by omega)) ⟨c, hc⟩
      obtain ⟨f, h1, h2, h3⟩ := spn_good hp hs
      refine ⟨fun j => if j < n then f j else 0, fun j hj => ?_, fun k hk => ?_, fun j hj hne => ?_⟩
      · dsimp only; split
        · rename_i h; exact h1 j h
        · omega
      · rw [lc, if_neg (by omega), Int.zero_mul, Int.add_zero, lc_congr (d := f) (S := R) (fun j hj => by rw [if_pos hj]) (fun _ _ => rfl)]
        exact h2 k hk
      · dsimp only at hne
        by_cases e : j < n
        · rw [if_pos e] at hne; exact h3 j e hne
        · rw [if_neg e] at hne; exact absurd rfl hne
    · have hs : Spn p m R n (fun k => v k - c n % p * R n k) := ⟨c, fun k hk => by
        have h1 := hc k hk
        rw [lc] at h1
        have h2 : p ∣ c n - c n % p := sub_emod_dvd _ _
        have h3 := dvd_l h2 (R n k)
        have e : lc c R k n - (v k - c n % p * R n k) = (lc c R k n + c n * R n k - v k) - (c n - c n % p) * R n k := by rw [Int.sub_mul]; omega
        rw [e]
        exact Int.dvd_sub h1 h3⟩
      obtain ⟨f, h1, h2, h3⟩ := spn_good hp hs
      refine ⟨fun j => if j < n then f j else c n % p, fun j hj => ?_, fun k hk => ?_, fun j hj hne => ?_⟩
      · dsimp only; split
        · rename_i h; exact h1 j h
        · exact ⟨Int.emod_nonneg _ (by omega), Int.emod_lt_of_pos _ (by omega)⟩
      · rw [lc, if_neg (by omega), lc_congr (d := f) (S := R) (fun j hj => by rw [if_pos hj]) (fun _ _ => rfl)]
        have h4 := h2 k hk
        have e : lc f R k n + c n % p * R n k - v k = lc f R k n - (v k - c n % p * R n k) := by omega
        rw [e]
        exact h4
      · dsimp only at hne
        by_cases e : j < n
        · rw [if_pos e] at hne; exact h3 j e hne
        · have : j = n := by omega
          subst this
          exact hr
theorem kn_spn {p : Int} (hp : isP p = true) {n m : Nat} {M : Nat → Nat → Int} {f : Nat → Int} {s : Nat} : knB p n m M f s = true ↔ Spn p m (gR M f s n) (ownL f s n).length unitF := by
  constructor
  · intro h
    by_cases hx : ∃ g, Good p (ownL f s n).length m (gR M f s n) unitF g
    · obtain ⟨g, _, h2, _⟩ := hx
      exact ⟨g, h2⟩
    · rw [knB, solF, dif_neg hx] at h
      cases h
  · intro h
    obtain ⟨g, hg⟩ := spn_good hp h
    obtain ⟨f0, e0, _⟩ := solF_good hp hg
    rw [knB, e0]; rfl
theorem ownL_mem {f : Nat → Int} {s n i : Nat} : i ∈ ownL f s n ↔ i < n ∧ bt s (f i).toNat = true := by
  rw [ownL, List.mem_filter, List.mem_range]
theorem ownL_ix {f : Nat → Int} {s n i : Nat} (hi : i < n) (h : bt s (f i).toNat = true) : ∃ j, j < (ownL f s n).length ∧ (ownL f s n).getD j 0 = i := by
  obtain ⟨j, hj, e⟩ := List.mem_iff_getElem.1 (ownL_mem.2 ⟨hi, h⟩)
  exact ⟨j, hj, by simp only [List.getD, List.getElem?_eq_getElem hj, Option.getD_some]; exact e⟩
theorem ownL_at {f : Nat → Int} {s n j : Nat} (hj : j < (ownL f s n).length) : (ownL f s n).getD j 0 < n ∧ bt s (f ((ownL f s n).getD j 0)).toNat = true := by
  have hx : (ownL f s n).getD j 0 ∈ ownL f s n := by
    simp only [List.getD, List.getElem?_eq_getElem hj, Option.getD_some]
    exact List.getElem_mem _
  exact ownL_mem.1 hx
/-- more rows know more -/
theorem kn_mono {p : Int} (hp : isP p = true) {n m : Nat} {M : Nat → Nat → Int} {f : Nat → Int} {s s' : Nat} (hs : ∀ i, i < n → bt s (f i).toNat = true → bt s' (f i).toNat = true) (h : knB p n m M f s = true) : knB p n m M f s' = true := by
  rw [kn_spn hp] at h ⊢
  refine Spn.trans (fun j hj => ?_) h
  obtain ⟨h1, h2⟩ := ownL_at hj
  obtain ⟨j', hj', e⟩ := ownL_ix h1 (hs _ h1 h2)
  have h3 : Spn p m (gR M f s' n) (ownL f s' n).length (gR M f s' n j') := Spn.row hj'
  rw [gR] at h3 ⊢
  rw [e] at h3
  exact h3

/-- set t % 32 is taken at step t -/
def ldo (H : Nat → Bool) (l : List Nat) (t : Nat) : Bool := decide (wt (t % 32) = t / 32) && (!(l.any fun x => x &&& (t % 32) == x) && H (t % 32))
/-- the least sets, behind the first t steps -/
def lst (H : Nat → Bool) : Nat → List Nat | 0 => [] | t + 1 => lst H t ++ if ldo H (lst H t) t then [t % 32] else []
theorem lst_len (H : Nat → Bool) : ∀ t, (lst H t).length ≤ t
  | 0 => Nat.le_refl _
  | t + 1 => by
    have := lst_len H t
    rw [lst, List.length_append]
    split <;> simp <;> omega
theorem lst_mem {H : Nat → Bool} {x : Nat} : ∀ {t}, x ∈ lst H t → x < 32 ∧ H x = true
  | 0, h => absurd h (by simp [lst])
  | t + 1, h => by
    rw [lst, List.mem_append] at h
    rcases h with h | h
    · exact lst_mem h
    · split at h
      · rename_i hd
        rw [List.mem_singleton] at h
        subst h
        simp only [ldo, Bool.and_eq_true] at hd
        exact ⟨Nat.mod_lt _ (by omega), hd.2.2⟩
      · simp at h
theorem lst_sub {H : Nat → Bool} {t : Nat} : ∀ k, ∀ x ∈ lst H t, x ∈ lst H (t + k)
  | 0, x, h => h
  | k + 1, x, h => by
    rw [show t + (k + 1) = (t + k) + 1 by omega, lst, List.mem_append]
    exact .inl (lst_sub k x h)
theorem wt_32 : ((List.range 32).all fun s => decide (wt s ≤ 5)) = true := by decide +kernel
/-- each set for which H holds has a least one in it -/
theorem lst_all {H : Nat → Bool} {s : Nat} (hs : s < 32) (h : H s = true) : ∃ x ∈ lst H 192, x &&& s = x := by
  have hw := wt_32
  rw [List.all_eq_true] at hw
  have hw5 := hw s (List.mem_range.2 hs)
  rw [decide_eq_true_eq] at hw5
  have e1 : (wt s * 32 + s) % 32 = s := by omega
  have e2 : (wt s * 32 + s) / 32 = wt s := by omega
  have key : ∃ x ∈ lst H (wt s * 32 + s + 1), x &&& s = x := by
    rw [lst]
    by_cases ha : ((lst H (wt s * 32 + s)).any fun x => x &&& s == x) = true
    · rw [List.any_eq_true] at ha
      obtain ⟨x, hx, hx2⟩ := ha
      exact ⟨x, List.mem_append.2 (.inl hx), by simpa using hx2⟩
    · refine ⟨s, List.mem_append.2 (.inr ?_), Nat.and_self s⟩
      have hd : ldo H (lst H (wt s * 32 + s)) (wt s * 32 + s) = true := by
        rw [ldo, e1, e2, h]
        simp only [Bool.not_eq_true] at ha
        rw [ha]; simp
      rw [if_pos hd, e1]; simp
  obtain ⟨x, hx, hx2⟩ := key
  have h3 := lst_sub (192 - (wt s * 32 + s + 1)) x hx
  rw [show wt s * 32 + s + 1 + (192 - (wt s * 32 + s + 1)) = 192 by omega] at h3
  exact ⟨x, h3, hx2⟩
def chkS : Bool := (List.range 32).all fun x => (List.range 32).all fun s => (x &&& s != x) || (List.range 5).all fun i => !(bt x i) || bt s i
theorem chkS_ok : chkS = true := by decide +kernel
theorem bt_sub {x s i : Nat} (hx : x < 32) (hs : s < 32) (hi : i < 5) (h : x &&& s = x) (hb : bt x i = true) : bt s i = true := by
  have h1 := chkS_ok
  simp only [chkS, List.all_eq_true, List.mem_range] at h1
  have h2 := h1 x hx s hs
  rw [Bool.or_eq_true] at h2
  have h3 := h2.resolve_left (by simp [h])
  rw [List.all_eq_true] at h3
  have h4 := h3 i (List.mem_range.2 hi)
  rw [hb] at h4
  simpa using h4
end Go.Proofs.Ytcalfblghblhcaa
