/-
  FnManyCut returns true for every code: the walk. Conditions: none.
-/
import Derived.Test.YtecmihmopiepfaaNetDraw2
import Derived.Test.YtecmihmopiepfaaCut2
namespace Go.Proofs.Ytecmihmopiepfaa
open Go.RowKit

theorem manyF_spec {n g : Nat} {M : Nat → Nat → Int} (hn : n ≤ 6) (h : ∀ a b, a < n → b < n → 0 ≤ M a b ∧ M a b ≤ 20) : ∀ k,
    (manyF n g M k = -1 ∧ ∀ t, 1 ≤ t → t ≤ k → bt g t = false) ∨ (0 ≤ manyF n g M k ∧ (∀ t, 1 ≤ t → t ≤ k → bt g t = true → manyF n g M k ≤ cutV n t M) ∧ ∃ t, 1 ≤ t ∧ t ≤ k ∧ bt g t = true ∧ manyF n g M k = cutV n t M)
  | 0 => .inl ⟨rfl, fun t h1 h2 => by omega⟩
  | k + 1 => by
    have ih := manyF_spec (g := g) hn h k
    have hc : 0 ≤ cutV n (k + 1) M := (cutF_bd hn h (2 ^ n)).1
    simp only [manyF]
    cases hb : bt g (k + 1)
    · rw [if_neg (by simp)]
      rcases ih with ⟨h1, h2⟩ | ⟨h1, h2, t, h3, h4, h5, h6⟩
      · refine .inl ⟨h1, fun t ht1 ht2 => ?_⟩
        by_cases e : t = k + 1
        · subst e; exact hb
        · exact h2 t ht1 (by omega)
      · refine .inr ⟨h1, fun t ht1 ht2 hbt => ?_, t, h3, by omega, h5, h6⟩
        by_cases e : t = k + 1
        · subst e; rw [hb] at hbt; cases hbt
        · exact h2 t ht1 (by omega) hbt
    · by_cases hd : manyF n g M k < 0 ∨ cutV n (k + 1) M < manyF n g M k
      · rw [if_pos ⟨rfl, hd⟩]
        refine .inr ⟨hc, fun t ht1 ht2 hbt => ?_, k + 1, by omega, by omega, hb, rfl⟩
        by_cases e : t = k + 1
        · subst e; omega
        · rcases ih with ⟨h1, h2⟩ | ⟨h1, h2, _⟩
          · rw [h2 t ht1 (by omega)] at hbt; cases hbt
          · have := h2 t ht1 (by omega) hbt
            omega
      · rw [if_neg (fun hh => hd hh.2)]
        rcases ih with ⟨h1, h2⟩ | ⟨h1, h2, t, h3, h4, h5, h6⟩
        · omega
        · refine .inr ⟨h1, fun t ht1 ht2 hbt => ?_, t, h3, by omega, h5, h6⟩
          by_cases e : t = k + 1
          · subst e; omega
          · exact h2 t ht1 (by omega) hbt

/-- one of the goals 1 .. k has the cut y -/
def metB (n g : Nat) (M : Nat → Nat → Int) (y : Int) : Nat → Bool | 0 => false | k + 1 => if bt g (k + 1) then (metB n g M y k || (cutV n (k + 1) M == y)) else metB n g M y k
theorem metB_true {n g : Nat} {M : Nat → Nat → Int} {y : Int} : ∀ k t, 1 ≤ t → t ≤ k → bt g t = true → cutV n t M = y → metB n g M y k = true
  | 0, t, h1, h2, _, _ => by omega
  | k + 1, t, h1, h2, h3, h4 => by
    simp only [metB]
    by_cases e : t = k + 1
    · subst e; rw [h3, h4]; simp
    · have ih := metB_true k t h1 (by omega) h3 h4
      split
      · rw [ih]; rfl
      · exact ih

theorem many_spec {n : Nat} {L : Nat → Nat} {M : Nat → Nat → Int} {v : Int} (h : 0 ≤ manyV n L M v) :
    ∃ g : Nat, v = g ∧ g ≤ 64 ∧ vNet n L M = true ∧ (2 ≤ n ∧ n ≤ 6) ∧ (∀ t, 1 ≤ t → t < n → bt g t = true → manyV n L M v ≤ cutV n t M) ∧ metB n g M (manyV n L M v) (n - 1) = true := by
  have hok : manyOk n L M v = true := by
    cases e : manyOk n L M v
    · simp [manyV, e] at h
    · rfl
  have e : manyV n L M v = manyF n v.toNat M (n - 1) := by simp [manyV, hok]
  rw [e] at h ⊢
  simp only [manyOk, Bool.and_eq_true, inR_true] at hok
  obtain ⟨⟨hv, h1, h2⟩, _⟩ := hok
  obtain ⟨g, rfl⟩ := Int.eq_ofNat_of_zero_le (show 0 ≤ v by omega)
  obtain ⟨hb, _, hM, _⟩ := vNet_cut hv
  have p2 := two_pow_le hb.2
  rw [show (2 : Int) ^ 6 = 64 by decide] at p2
  simp only [Int.toNat_natCast] at h ⊢
  rcases manyF_spec (g := g) hb.2 hM (n - 1) with ⟨h3, _⟩ | ⟨h3, h4, t, h5, h6, h7, h8⟩
  · omega
  · exact ⟨g, rfl, by omega, hv, hb, fun t ht1 ht2 hbt => h4 t ht1 (by omega) hbt, metB_true _ t h5 h6 h7 h8.symm⟩

set_option maxHeartbeats 1000000 in
theorem fnManyCut_walk (a : Option Addr) (len cap : Nat) (zs : List Int) (w : World) (h : IsRow .u8 w a len cap zs) :
    Calls Try.prog 8 #[.slice a len cap] w fun e w' => e = .returned (.bool true) ∧ Below w.heap.size w w' := by
  have hlen : len ≤ 9223372036854775807 := by obtain ⟨h1, h2, _⟩ := bytes_in h; unfold maxLen at h2; omega
  have Hh := hide h
  clear h
  by_cases hl : 1048576 < len
  · go_enter Try.func8, Try.ntmps8
    go_wp2_with fail
    go_ret
    exact ⟨rfl, by go_grown⟩
  go_enter Try.func8, Try.ntmps8
  go_wp2_with fail
  refine (DrawManyCut_any a len cap zs w _ Hh.out (by go_grown)).mono ?_
  rintro e w1 ⟨A, n, c, L, M, v, rfl, hd⟩
  obtain ⟨hm, hn, hL, B1, _⟩ := hd
  have HM := hide (fun (W : World) (hb : Below w1.heap.size w1 W) => hm.keep hb hb.size)
  have HL := hide (fun i (hi : i < n) => Nat.le_trans (hL i hi) (show 8 ≤ 1048576 by omega))
  have Sp := hide (@many_spec n L M v)
  have I := hide (fun W hb => ManyCutI_any A n c L M v W (by omega) HL.out (HM.out W hb))
  have S := hide (fun W hb => ManyCutS_any A n c L M v W (by omega) HL.out (HM.out W hb))
  clear hm hL
  generalize manyV n L M v = y at *
  have e1 : (y != y) = false := by simp
  have e2 : (y == y) = true := by simp
  go_wp2_with fail
  refine (I.out _ (Below.refl _ _)).mono ?_
  rintro e w2 ⟨rfl, hb2⟩
  go_wp2_with fail
  refine (S.out _ hb2).mono ?_
  rintro e w3 ⟨rfl, hb3⟩
  have hc3 : Below w1.heap.size w1 w3 := up hb3 hb2 hb2.size
  by_cases hy : y < 0
  · go_wp2_with fail
    refine (S.out _ hc3).mono ?_
    rintro e w4 ⟨rfl, hb4⟩
    go_wp2_with fail
    go_ret
    exact ⟨rfl, up (up hb4 hc3 hc3.size) B1 B1.size⟩
  obtain ⟨g, rfl, hg, hv, hn6, hle, hmet⟩ := Sp.out (by omega)
  have HV := hide hv
  have HLE := hide hle
  have HME := hide hmet
  clear hv hle hmet e1 e2
  go_wp2_with fail
  go_loopw [6, 7] (fun m i wr => ∃ k : Nat, k + 1 ≤ n ∧ i = .int .i64 ((k : Int) + 1) ∧ m = .bool (metB n g M y k) ∧ Below w1.heap.size w1 wr) (fun _ i _ => n - (intOf i).toNat)
  case atStart => exact ⟨0, by omega, rfl, rfl, hc3⟩
  case round =>
    obtain ⟨k, hk, rfl, rfl, hb⟩ := hrel
    have HF := hide (show metB n g M y (k + 1) = if bt g (k + 1) then (metB n g M y k || (cutV n (k + 1) M == y)) else metB n g M y k from rfl)
    by_cases hlt : k + 1 < n
    · have ek : (((k + 1 : Nat) : Int)) = (k : Int) + 1 := by omega
      cases hbk : bt g (k + 1)
      · have HB := hide (bitL_f g (k + 1) wr (by omega) (by omega) hbk)
        rw [ek] at HB
        rw [hbk] at HF
        clear ek
        go_wp2_with fail
        refine (HB.out).mono ?_
        rintro e _ ⟨rfl, rfl⟩
        go_wp2_with fail
        go_roundw
        case rel => exact ⟨k + 1, by omega, by go_num, by rw [HF.out]; rfl, hb⟩
        case measure => simp [intOf]; omega
      · have HB := hide (bitL_t g (k + 1) wr (by omega) (by omega) hbk)
        have HC := hide (show cutOfV n L M ((k : Int) + 1) = cutV n (k + 1) M by
          unfold cutOfV
          rw [HV.out, inR_mk (by omega) (by omega)]
          rfl)
        have hle := HLE.out (k + 1) (by omega) hlt hbk
        rw [ek] at HB
        rw [hbk] at HF
        clear ek
        go_wp2_with fail
        refine (HB.out).mono ?_
        rintro e _ ⟨rfl, rfl⟩
        go_wp2_with fail
        refine (CutOfI_any A n c L M ((k : Int) + 1) wr (by omega) HL.out (HM.out _ hb)).mono ?_
        rintro e w5 ⟨rfl, hb5⟩
        rw [HC.out]
        have hb6 : Below w1.heap.size w1 w5 := up hb5 hb hb.size
        generalize cutV n (k + 1) M = C at *
        generalize metB n g M y k = m at *
        cases m
        · go_wp2_with fail
          go_roundw
          case rel => exact ⟨k + 1, by omega, by go_num, by rw [HF.out]; simp, hb6⟩
          case measure => simp [intOf]; omega
        · go_wp2_with fail
          go_roundw
          case rel => exact ⟨k + 1, by omega, by go_num, by rw [HF.out]; simp, hb6⟩
          case measure => simp [intOf]; omega
    · have he : k = n - 1 := by omega
      subst he
      rw [HME.out]
      go_wp2_with fail
      go_ret
      exact ⟨rfl, up hb B1 B1.size⟩
end Go.Proofs.Ytecmihmopiepfaa
