/-
  What ripples tell, the program's. Conditions: the sets and the sums can be read.
-/
import Derived.Test.YtkalecdjcdgodaaRipple
import Derived.Test.YtkalecdjcdgodaaRepeat
import Derived.Test.YtkalecdjcdgodaaPeelI
import Derived.Deep.LoopGhost
namespace Go.Proofs.Ytkalecdjcdgodaa
open Go.RowKit

theorem um_unk (l : Nat → Int) (s : Nat) : ∀ n, um l s n = 0 ↔ unk l s n = 0
  | 0 => by simp [um, unk]
  | n + 1 => by
    have h := um_unk l s n
    have := Nat.two_pow_pos n
    rw [um, unk]
    split
    · constructor <;> intro h2 <;> omega
    · rw [h]; simp
theorem um_7 (l : Nat → Int) (s : Nat) {n : Nat} (hn : n ≤ 7) : um l s n < 128 := by
  have h1 := um_lt l s n
  have h2 : (2 : Nat) ^ n ≤ 2 ^ 7 := Nat.pow_le_pow_right (by omega) hn
  have : (2 : Nat) ^ 7 = 128 := rfl
  omega

set_option maxHeartbeats 1000000 in
theorem open_any (B n c : Nat) (A : Option Addr) (l : Nat → Int) (s : Nat) (w : World) (hn : n ≤ 7) (hs : s < 128) (hd : Dg n l) (hB : w.cell? ⟨B, 0, none⟩ = some (.slice A n c)) (h : Ints w w.heap.size A n l) :
    Calls Try.prog 75 #[.int .i64 s, .pointer (some ⟨B, 0, none⟩)] w fun e w' => e = .returned (.tuple #[.int .i64 (um l s n : Nat), .int .i64 (kn l s n : Nat)]) ∧ w = w' := by
  have H := hide h
  have HD := hide hd
  clear h hd
  go_enter Try.func75, Try.ntmps75
  go_wp2_with fail
  go_loop [5, 6, 11] (fun u v i => ∃ j : Nat, j ≤ n ∧ i = .int .i64 j ∧ u = .int .i64 (um l s j : Nat) ∧ v = .int .i64 (kn l s j : Nat)) (fun _ _ i => n - (intOf i).toNat)
  case atStart => exact ⟨0, by omega, rfl, rfl, rfl⟩
  case round =>
    obtain ⟨j, hj, rfl, rfl, rfl⟩ := hrel
    have hum := um_7 l s (show j ≤ 7 by omega)
    have hkn := kn_lt s HD.out j hj
    have h256 : (2 : Nat) ^ 8 = 256 := rfl
    by_cases hlt : j < n
    · obtain ⟨b, off, rfl, hbl, hc⟩ := H.out (by omega)
      have hck := hc j hlt
      have hb1 := HD.out j hlt
      have HU := hide (show um l s (j + 1) = if un1 l s j then um l s j + 2 ^ j else um l s j from rfl)
      have HK := hide (show kn l s (j + 1) = if kn1 l s j then kn l s j ^^^ (l j).toNat else kn l s j from rfl)
      have hjI : (j : Int) < (n : Int) := by omega
      clear hc
      cases hbt : bt s j
      · obtain ⟨f1, f2⟩ := bt_f (show s ≤ 9223372036854775807 by omega) hbt
        have e1 : un1 l s j = false := by simp [un1, hbt]
        have e2 : kn1 l s j = false := by simp [kn1, hbt]
        rw [e1] at HU
        rw [e2] at HK
        have HU' := hide (show um l s (j + 1) = um l s j from HU.out)
        have HK' := hide (show kn l s (j + 1) = kn l s j from HK.out)
        clear hbt e1 e2 HU HK
        generalize l j = x at *
        generalize um l s j = u at *
        generalize kn l s j = k at *
        go_wp2_with fail
        go_round
        case rel => exact ⟨j + 1, by omega, by go_num, by rw [HU'.out], by rw [HK'.out]⟩
        case measure => simp [intOf]; omega
      · obtain ⟨f1, f2⟩ := bt_t (show s ≤ 9223372036854775807 by omega) hbt
        by_cases hx : l j < 0
        · have e1 : un1 l s j = true := by simp [un1, hbt, hx]
          have e2 : kn1 l s j = false := by simp [kn1]; omega
          rw [e1] at HU
          rw [e2] at HK
          have hf := (um_fin (show j < 7 by omega) (um_lt l s j)).1
          have h27 : (2 : Nat) ^ j ≤ 2 ^ 7 := Nat.pow_le_pow_right (by omega) (by omega)
          have h128 : (2 : Nat) ^ 7 = 128 := rfl
          have hor : bits .or .i64 ((um l s j : Nat) : Int) ((2 : Int) ^ j) = ((um l s j + 2 ^ j : Nat) : Int) := by
            have := or_nat (um l s j) (2 ^ j) (by omega) (by omega)
            rw [← hf, ← this]; push_cast; rfl
          have HU' := hide (show um l s (j + 1) = um l s j + 2 ^ j from HU.out)
          have HK' := hide (show kn l s (j + 1) = kn l s j from HK.out)
          have hp0 := two_pow_pos j
          have hp1 := two_pow_le (show j ≤ 7 by omega)
          rw [show (2 : Int) ^ 7 = 128 by decide] at hp1
          clear hbt e1 e2 HU HK hf h27 h128
          generalize l j = x at *
          generalize um l s j + 2 ^ j = u' at *
          generalize um l s j = u at *
          generalize kn l s j = k at *
          go_wp2_with fail
          go_round
          case rel => exact ⟨j + 1, by omega, by go_num, by rw [HU'.out], by rw [HK'.out]⟩
          case measure => simp [intOf]; omega
        · have e1 : un1 l s j = false := by simp [un1, hx]
          have e2 : kn1 l s j = true := by simp [kn1, hbt]; omega
          rw [e1] at HU
          rw [e2] at HK
          have hxo : bits .xor .i64 ((kn l s j : Nat) : Int) (l j) = ((kn l s j ^^^ (l j).toNat : Nat) : Int) := by
            have := xor_nat (kn l s j) (l j).toNat (by omega) (by omega)
            rw [show (((l j).toNat : Nat) : Int) = l j by omega] at this
            exact this
          have HU' := hide (show um l s (j + 1) = um l s j from HU.out)
          have HK' := hide (show kn l s (j + 1) = kn l s j ^^^ (l j).toNat from HK.out)
          clear hbt e1 e2 HU HK
          generalize kn l s j ^^^ (l j).toNat = k' at *
          generalize l j = x at *
          generalize um l s j = u at *
          generalize kn l s j = k at *
          go_wp2_with fail
          go_round
          case rel => exact ⟨j + 1, by omega, by go_num, by rw [HU'.out], by rw [HK'.out]⟩
          case measure => simp [intOf]; omega
    · obtain rfl : j = n := by omega
      go_wp2_with fail
      go_ret2
      exact ⟨rfl, rfl⟩

/-- the arguments are as they should be -/
def rpOk (n : Int) (m : Nat) (g : Nat → Int) (m2 : Nat) (h : Nat → Int) : Bool := inR n 0 7 && ((decide (m ≤ 12) && noneB m g (badS n.toNat)) && (decide (m2 = m) && noneB m2 h badD))
/-- no set of known numbers has another sum -/
def rpFine (n : Nat) (g : Nat → Int) (m : Nat) (h : Nat → Int) (l : Nat → Int) : Bool := decide (∀ k, k < m → unk l (g k).toNat n = 0 → kn l (g k).toNat n = (h k).toNat)
noncomputable def rpB (n : Int) (m : Nat) (g : Nat → Int) (m2 : Nat) (h : Nat → Int) : Bool := rpOk n m g m2 h && rpFine n.toNat g m h (rpE n.toNat g m h)
noncomputable def rpN (n : Int) (m : Nat) (g : Nat → Int) (m2 : Nat) (h : Nat → Int) : Nat := if rpB n m g m2 h then n.toNat else 0
noncomputable def rpF (n : Int) (m : Nat) (g : Nat → Int) (h : Nat → Int) : Nat → Int := rpE n.toNat g m h
def RpX (n : Int) (m : Nat) (g : Nat → Int) (m2 : Nat) (h : Nat → Int) (w : World) (e : Ending) (w' : World) : Prop :=
  ∃ A c, e = .returned (.tuple #[.slice A (rpN n m g m2 h) c, .bool (rpB n m g m2 h)]) ∧ IT w' w.heap.size w'.heap.size A (rpN n m g m2 h) (rpF n m g h) ∧ Below w.heap.size w w'
theorem rpx_no {n : Int} {m m2 : Nat} {g h : Nat → Int} {w w' : World} (hh : rpB n m g m2 h = false) (hb : Below w.heap.size w w') : RpX n m g m2 h w (.returned (.tuple #[.slice none 0 0, .bool false])) w' := by
  have e2 : rpN n m g m2 h = 0 := by simp [rpN, hh]
  exact ⟨none, 0, by rw [hh, e2], by rw [e2]; exact IT.nil _ _ _ _, hb⟩
theorem rp_bad {n : Int} {m m2 : Nat} {g h : Nat → Int} (hh : rpOk n m g m2 h = false) : rpB n m g m2 h = false := by simp [rpB, hh]
theorem rpx_yes {n m c : Nat} {g h l : Nat → Int} {A : Option Addr} {w w' : World} (hok : rpOk n m g m h = true) (hl : rpE n g m h = l) (hf : rpFine n g m h l = true) (hr : Row w' w.heap.size A n c (listOf n l)) (hb : Below w.heap.size w w') (d : Nat) : RpX n m g m h w (.returned (.tuple #[.slice A n d, .bool true])) w' := by
  have e1 : rpB n m g m h = true := by rw [rpB, hok, Int.toNat_natCast, hl, hf]; rfl
  have e2 : rpN n m g m h = n := by simp [rpN, e1]
  refine ⟨A, d, by rw [e1, e2], ?_, hb⟩
  rw [e2]
  exact (IT.of_row hr).congr fun i hi => by rw [listOf_getD _ hi, rpF, Int.toNat_natCast, hl]
theorem rp_in {n m : Nat} {g h : Nat → Int} (hok : rpOk n m g m h = true) : RpIn n g m h := by
  simp only [rpOk, Bool.and_eq_true, decide_eq_true_eq, Int.toNat_natCast] at hok
  obtain ⟨h1, ⟨h2, h3⟩, _, h4⟩ := hok
  have h5 := inR_true.1 h1
  have q1 := two_pow_le (show n ≤ 7 by omega)
  rw [show (2 : Int) ^ 7 = 128 by decide] at q1
  have hc : (2 : Int) ^ n = ((2 ^ n : Nat) : Int) := by push_cast; rfl
  refine ⟨by omega, h2, fun j hj => ?_, fun j hj => ?_⟩
  · have h6 := noneB_true.1 h3 j hj
    simp only [badS, Bool.not_eq_false', inR_true] at h6
    exact ⟨(g j).toNat, by omega, by omega, rfl, by omega⟩
  · have h6 := noneB_true.1 h4 j hj
    simp only [badD, Bool.not_eq_false', inR_true] at h6
    have : (2 : Nat) ^ 8 = 256 := rfl
    exact ⟨(h j).toNat, by omega, by omega, rfl⟩
end Go.Proofs.Ytkalecdjcdgodaa
