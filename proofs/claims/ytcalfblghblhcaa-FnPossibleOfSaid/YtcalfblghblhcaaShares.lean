/-
  Shares: the program and the reference agree. Conditions: the scheme and the list can be read.
-/
import Derived.Test.YtcalfblghblhcaaScheme
import Derived.Test.YtcalfblghblhcaaOwn5
import Derived.Deep.RegionWith
import Derived.Deep.DeepCutAuto
import Derived.Deep.QuietTactic
import Derived.BigQuiet
import Derived.RegionTactic
namespace Go.Proofs.Ytcalfblghblhcaa
open Go.RowKit

/-- behind a call that was made behind a box and a draw -/
theorem box_draw {w w1 : World} {t : TypeId} {cs : Array Value} (hb : Below (w.alloc (.cells cs t)).drew.heap.size (w.alloc (.cells cs t)).drew w1) : Below w.heap.size w w1 ∧ Blk w1 w.heap.size t cs := by
  have hz : (w.alloc (.cells cs t)).drew.heap.size = w.heap.size + 1 := by show (w.alloc (.cells cs t)).heap.size = _; simp
  refine ⟨(Below.drew ((Below.refl w.heap.size w).alloc (Nat.le_refl _) (.cells cs t))).trans (hb.mono (by omega)), ?_⟩
  exact Blk.below (w := (w.alloc (.cells cs t)).drew) (Blk.new w t cs).drew hb (by omega)
theorem box_plain {w w1 : World} {t : TypeId} {cs : Array Value} (hb : Below (w.alloc (.cells cs t)).heap.size (w.alloc (.cells cs t)) w1) : Below w.heap.size w w1 ∧ Blk w1 w.heap.size t cs :=
  ⟨((Below.refl w.heap.size w).alloc (Nat.le_refl _) (.cells cs t)).trans (hb.mono (by simp)), Blk.below (Blk.new w t cs) hb (by simp)⟩
theorem below_box_draw {w : World} (o : Obj) : Below w.heap.size w (w.alloc o).drew := Below.drew ((Below.refl w.heap.size w).alloc (Nat.le_refl _) o)
theorem below_box {w : World} (o : Obj) : Below w.heap.size w (w.alloc o) := (Below.refl w.heap.size w).alloc (Nat.le_refl _) o

/-- a row times a list, the first k -/
def dsum (f g : Nat → Int) : Nat → Int | 0 => 0 | k + 1 => dsum f g k + f k * g k
theorem mul_bd6 {a b : Int} (ha : 0 ≤ a ∧ a ≤ 6) (hb : 0 ≤ b ∧ b ≤ 6) : 0 ≤ a * b ∧ a * b ≤ 36 := by
  refine ⟨Int.mul_nonneg ha.1 hb.1, ?_⟩
  have h1 : a * b ≤ 6 * b := Int.mul_le_mul_of_nonneg_right ha.2 hb.1
  omega
theorem dsum_bd {f g : Nat → Int} {n : Nat} (h : ∀ i, i < n → (0 ≤ f i ∧ f i ≤ 6) ∧ (0 ≤ g i ∧ g i ≤ 6)) : ∀ k, k ≤ n → 0 ≤ dsum f g k ∧ dsum f g k ≤ 36 * k
  | 0, _ => by simp [dsum]
  | k + 1, hk => by
    have h1 := dsum_bd h k (by omega)
    have h2 := mul_bd6 (h k (by omega)).1 (h k (by omega)).2
    rw [dsum]
    push_cast
    omega

theorem share_any (p : Int) (A B : Option Addr) (n c m d : Nat) (f g : Nat → Int) (w : World) (hp : 2 ≤ p ∧ p ≤ 7) (hn : n ≤ 100) (hm : n ≤ m) (hb : ∀ i, i < n → (0 ≤ f i ∧ f i ≤ 6) ∧ (0 ≤ g i ∧ g i ≤ 6)) (h1 : Ints w w.heap.size A n f) (h2 : Ints w w.heap.size B m g) :
    Calls Try.prog 57 #[.int .i64 p, .slice A n c, .slice B m d] w fun e w' => e = .returned (.int .i64 (dsum f g n % p)) ∧ w = w' := by
  have H1 := hide h1
  have H2 := hide h2
  have HB := hide hb
  have HD := hide (fun k hk => dsum_bd hb k hk)
  clear h1 h2 hb
  go_enter Try.func57, Try.ntmps57
  go_wp2_with fail
  go_loop [7, 12] (fun v i => ∃ k : Nat, k ≤ n ∧ i = .int .i64 k ∧ v = .int .i64 (dsum f g k)) (fun _ i => n - (intOf i).toNat)
  case atStart => exact ⟨0, Nat.zero_le _, rfl, rfl⟩
  case round =>
    obtain ⟨k, hk, rfl, rfl⟩ := hrel
    have b1 := HD.out k hk
    by_cases hlt : k < n
    · obtain ⟨ba, oa, rfl, hba, hca⟩ := H1.out (by omega)
      obtain ⟨bb, ob, rfl, hbb, hcb⟩ := H2.out (by omega)
      have c1 := hca k hlt
      have c2 := hcb k (by omega)
      have hkm : k < m := by omega
      have b2 := HB.out k hlt
      have b3 := mul_bd6 b2.1 b2.2
      have HS := hide (show dsum f g (k + 1) = dsum f g k + f k * g k from rfl)
      clear hca hcb
      generalize dsum f g k = s at *
      generalize f k = x at *
      generalize g k = y at *
      go_wp2_with fail
      go_round
      case rel => exact ⟨k + 1, by omega, by go_num, by rw [HS.out]⟩
      case measure => simp [intOf]; omega
    · obtain rfl : k = n := by omega
      have HR := hide (fun W => rest_any p (dsum f g k) W hp (by omega))
      generalize hs : dsum f g k = s at *
      have HSS := hide hs
      clear hs
      go_wp2_with fail
      refine (HR.out _).mono ?_
      rintro e _ ⟨rfl, rfl⟩
      go_wp2_with fail
      go_ret
      exact ⟨ret_int (by rw [HSS.out]), rfl⟩

theorem dot_any (p : Int) (A B : Option Addr) (n c m d : Nat) (f g : Nat → Int) (w : World) (hp : 2 ≤ p ∧ p ≤ 7) (hn : n ≤ 100) (hm : n ≤ m) (hb : ∀ i, i < n → (0 ≤ f i ∧ f i ≤ 6) ∧ (0 ≤ g i ∧ g i ≤ 6)) (h1 : Ints w w.heap.size A n f) (h2 : Ints w w.heap.size B m g) :
    Calls Try.prog 59 #[.int .i64 p, .slice A n c, .slice B m d] w fun e w' => e = .returned (.int .i64 (dsum f g n % p)) ∧ ∃ q, w.drewN q = w' := by
  have H1 := hide h1
  have H2 := hide h2
  have HB := hide hb
  clear h1 h2 hb
  go_enter Try.func59, Try.ntmps59
  go_wp2_with fail
  go_loopw [7, 8] (fun v i wr => ∃ k q : Nat, k ≤ n ∧ i = .int .i64 k ∧ v = .int .i64 (dsum f g k % p) ∧ wr = w.drewN q) (fun _ i _ => n - (intOf i).toNat)
  case atStart => exact ⟨0, 0, Nat.zero_le _, rfl, by simp [dsum], rfl⟩
  case round =>
    obtain ⟨k, q, hk, rfl, rfl, rfl⟩ := hrel
    have b1 := Int.emod_nonneg (dsum f g k) (show p ≠ 0 by omega)
    have b4 := Int.emod_lt_of_pos (dsum f g k) (show 0 < p by omega)
    by_cases hlt : k < n
    · obtain ⟨ba, oa, rfl, hba, hca⟩ := H1.out (by omega)
      obtain ⟨bb, ob, rfl, hbb, hcb⟩ := H2.out (by omega)
      have c1 := hca k hlt
      have c2 := hcb k (by omega)
      have hkm : k < m := by omega
      have b2 := HB.out k hlt
      have b3 := mul_bd6 b2.1 b2.2
      have HS := hide (show dsum f g (k + 1) % p = (dsum f g k % p + f k * g k) % p by rw [Int.emod_add_emod]; rfl)
      clear hca hcb b2
      generalize dsum f g k % p = s at *
      have u1 : IntKind.i64.wrap (f k * g k) = f k * g k := IntWalk.i64_in _ (by omega)
      have u2 : IntKind.i64.wrap (s + f k * g k) = s + f k * g k := IntWalk.i64_in _ (by omega)
      have t1 : Int.tmod (s + f k * g k) p = (s + f k * g k) % p := Int.tmod_eq_emod_of_nonneg (by omega)
      have b5 := Int.emod_nonneg (s + f k * g k) (show p ≠ 0 by omega)
      have b6 := Int.emod_lt_of_pos (s + f k * g k) (show 0 < p by omega)
      have u3 : IntKind.i64.wrap ((s + f k * g k) % p) = (s + f k * g k) % p := IntWalk.i64_in _ (by omega)
      generalize f k = x at *
      generalize g k = y at *
      go_wp2_with fail
      go_quiet (fail)
      go_wp2_with fail
      clear u1 u2 u3 t1
      go_roundw
      case rel => exact ⟨k + 1, _, by omega, by go_num, by rw [HS.out], by first | rfl | exact World.drewN_drewN _ _ _⟩
      case measure => simp [intOf]; omega
    · obtain rfl : k = n := by omega
      generalize hs : dsum f g k % p = s at *
      have HSS := hide hs
      clear hs
      go_wp2_with fail
      go_ret
      exact ⟨ret_int HSS.out.symm, q, rfl⟩

theorem validWord_any (p : Int) (A : Option Addr) (n c : Nat) (m : Int) (f : Nat → Int) (w : World) (hp : 2 ≤ p ∧ p ≤ 7) (hn : n ≤ 9223372036854775807) (h : Ints w w.heap.size A n f) :
    Calls Try.prog 43 #[.int .i64 p, .slice A n c, .int .i64 m] w fun e w' => e = .returned (.bool (decide ((n : Int) = m) && allR n f p)) ∧ w = w' := by
  have H := hide h
  clear h
  go_enter Try.func43, Try.ntmps43
  go_wp2_with fail
  go_loop [7] (fun i => ∃ k : Nat, k ≤ n ∧ i = .int .i64 k ∧ (∀ j, j < k → inR (f j) 0 (p - 1) = true)) (fun i => n - (intOf i).toNat)
  case atStart => exact ⟨0, Nat.zero_le _, rfl, by simp⟩
  case round =>
    obtain ⟨k, hk, rfl, hall⟩ := hrel
    have Hall := hide hall
    clear hall
    by_cases hlt : k < n
    · obtain ⟨b, off, rfl, hbl, hc⟩ := H.out (by omega)
      have hck := hc k hlt
      clear hc
      cases hx : inR (f k) 0 (p - 1)
      · have HF := hide (show allR n f p = false by rw [← Bool.not_eq_true, allR_true]; intro h; rw [h k hlt] at hx; cases hx)
        go_wp2_with (first | (go_at_call 44; refine (inRange_any _ _ _ _).mono ?_; rintro e w' ⟨rfl, rfl⟩))
        go_ret
        exact ⟨ret_bool (by rw [HF.out]; simp), rfl⟩
      · go_wp2_with (first | (go_at_call 44; refine (inRange_any _ _ _ _).mono ?_; rintro e w' ⟨rfl, rfl⟩))
        go_round
        case rel => exact ⟨k + 1, by omega, by go_num, fun j hj => by
          by_cases e : j = k
          · subst e; exact hx
          · exact Hall.out j (by omega)⟩
        case measure => simp [intOf]; omega
    · obtain rfl : k = n := by omega
      have HF := hide (allR_true.2 Hall.out)
      by_cases hm : (k : Int) = m
      · have hm' : ((k : Int) == m) = true := by simp [hm]
        have HM := hide hm
        clear hm
        go_wp2_with fail
        go_ret
        exact ⟨ret_bool (by rw [HF.out]; simp [HM.out]), rfl⟩
      · have hm' : ((k : Int) == m) = false := by simp [hm]
        have HM := hide hm
        clear hm
        go_wp2_with fail
        go_ret
        exact ⟨ret_bool (by simp [HM.out]), rfl⟩
/-- the scheme is valid and the list fits -/
def shIn (p : Int) (n : Nat) (L : Nat → Nat) (M : Nat → Nat → Int) (m : Nat) (f : Nat → Int) (n1 : Nat) (g : Nat → Int) : Bool := vSch p n L M m f && (decide ((n1 : Int) = L 0) && allR n1 g p)
def shN (p : Int) (n : Nat) (L : Nat → Nat) (M : Nat → Nat → Int) (m : Nat) (f : Nat → Int) (n1 : Nat) (g : Nat → Int) : Nat := if shIn p n L M m f n1 g then n else 0
def shF (p : Int) (L : Nat → Nat) (M : Nat → Nat → Int) (g : Nat → Int) (i : Nat) : Int := dsum (M i) g (L 0) % p
def shL (p : Int) (L : Nat → Nat) (M : Nat → Nat → Int) (g : Nat → Int) (k : Nat) : List Int := (List.range k).map (shF p L M g)
theorem shL_succ (p : Int) (L : Nat → Nat) (M : Nat → Nat → Int) (g : Nat → Int) (k : Nat) : shL p L M g (k + 1) = shL p L M g k ++ [shF p L M g k] := by simp [shL, List.range_succ]
def ShPost (p : Int) (n : Nat) (L : Nat → Nat) (M : Nat → Nat → Int) (m : Nat) (f : Nat → Int) (n1 : Nat) (g : Nat → Int) (w : World) (e : Ending) (w' : World) : Prop :=
  ∃ A' c', e = .returned (.slice A' (shN p n L M m f n1 g) c') ∧ Row w' w.heap.size A' (shN p n L M m f n1 g) c' (shL p L M g (shN p n L M m f n1 g)) ∧ Below w.heap.size w w'
theorem sh_no {p : Int} {n m n1 : Nat} {L : Nat → Nat} {M : Nat → Nat → Int} {f g : Nat → Int} {w w' : World} (h : shIn p n L M m f n1 g = false) (hb : Below w.heap.size w w') : ShPost p n L M m f n1 g w (.returned (.slice none 0 0)) w' := by
  have : shN p n L M m f n1 g = 0 := by simp [shN, h]
  exact ⟨none, 0, by rw [this], by rw [this]; exact Row.nil _ _, hb⟩
/-- what a valid scheme's rows are -/
theorem vSch_rows {p : Int} {n m : Nat} {L : Nat → Nat} {M : Nat → Nat → Int} {f : Nat → Int} (h : vSch p n L M m f = true) :
    (2 ≤ p ∧ p ≤ 7) ∧ (1 ≤ n ∧ n ≤ 6) ∧ (1 ≤ L 0 ∧ L 0 ≤ 7) ∧ m = n ∧ ∀ i, i < n → L i = L 0 ∧ ∀ j, j < L 0 → 0 ≤ M i j ∧ M i j ≤ p - 1 := by
  obtain ⟨h1, h2, h3⟩ := vSch_true.1 h
  obtain ⟨hp, hn, hl, hr⟩ := vTab_true.1 h1
  have hpp : 2 ≤ p ∧ p ≤ 7 := by rcases isP_true.1 hp with rfl | rfl | rfl | rfl <;> omega
  have a := inR_true.1 hn
  have b := inR_true.1 hl
  refine ⟨hpp, by omega, by omega, h2, fun i hi => ?_⟩
  obtain ⟨r1, r2⟩ := hr i hi
  refine ⟨r1, fun j hj => ?_⟩
  have := inR_true.1 (allR_true.1 r2 j (by omega))
  exact this
theorem allR_bd {n : Nat} {g : Nat → Int} {p : Int} (h : allR n g p = true) (i : Nat) (hi : i < n) : 0 ≤ g i ∧ g i ≤ p - 1 := inR_true.1 (allR_true.1 h i hi)

end Go.Proofs.Ytcalfblghblhcaa
