/-
  FnSumsOf returns true for every code: the walk. Conditions: none.
-/
import Derived.Test.YtkalecdjcdgodaaSumDraw
import Derived.Test.YtkalecdjcdgodaaWExactSums
import Derived.Test.YtkalecdjcdgodaaLawHelp
import Derived.StillTailTactics
namespace Go.Proofs.Ytkalecdjcdgodaa
open Go.RowKit

theorem bt_tb (s i : Nat) : bt s i = s.testBit i := by
  simp only [bt, Nat.testBit_eq_decide_div_mod_eq]
/-- sx in plain numbers -/
def sn (s : Nat) (f : Nat → Nat) : Nat → Nat | 0 => 0 | i + 1 => if s.testBit i then sn s f i ^^^ f i else sn s f i
theorem sn_lt (s : Nat) (f : Nat → Nat) : ∀ n, (∀ i, i < n → f i < 2 ^ 8) → sn s f n < 2 ^ 8
  | 0, _ => by show 0 < 2 ^ 8; decide
  | n + 1, h => by
    have h1 := sn_lt s f n (fun i hi => h i (by omega))
    simp only [sn]
    split
    · exact Nat.xor_lt_two_pow h1 (h n (by omega))
    · exact h1
theorem sx_sn (s : Nat) (f : Nat → Int) (g : Nat → Nat) : ∀ n, (∀ i, i < n → f i = g i ∧ g i < 2 ^ 8) → sx s f n = (sn s g n : Nat)
  | 0, _ => rfl
  | n + 1, h => by
    have h1 := sx_sn s f g n (fun i hi => h i (by omega))
    have h2 := sn_lt s g n (fun i hi => (h i (by omega)).2)
    have h3 := h n (by omega)
    simp only [sx, sn, bt_tb]
    rw [h1, h3.1]
    split
    · rw [i64_xor_nat _ _ (by omega) (by omega)]
    · rfl
theorem sn_xor (a b : Nat) (f : Nat → Nat) : ∀ n, sn (a ^^^ b) f n = sn a f n ^^^ sn b f n
  | 0 => by simp [sn]
  | n + 1 => by
    simp only [sn, Nat.testBit_xor]
    rw [sn_xor a b f n]
    refine Nat.eq_of_testBit_eq fun i => ?_
    cases a.testBit n <;> cases b.testBit n <;> simp only [Nat.testBit_xor, Bool.xor_false, Bool.xor_true, Bool.not_true, Bool.not_false, if_true, if_false, Bool.false_eq_true] <;>
      cases (sn a f n).testBit i <;> cases (sn b f n).testBit i <;> cases (f n).testBit i <;> rfl
theorem sn_zero (f : Nat → Nat) : ∀ n, sn 0 f n = 0
  | 0 => rfl
  | n + 1 => by simp [sn, sn_zero f n]

theorem sums_dig {n m : Nat} {f g : Nat → Int} (h : sumsOk n f m g = true) : ∀ i, i < n → f i = ((f i).toNat : Nat) ∧ (f i).toNat < 2 ^ 8 := by
  intro i hi
  obtain ⟨_, h1, _, _⟩ := sumsOk_true.1 h
  have h2 := noneB_true.1 h1 i hi
  simp only [badD, Bool.not_eq_false', inR_true] at h2
  omega
theorem sums_both {n m : Nat} {f g : Nat → Int} (h : sumsOk n f m g = true) {p : Nat} (hm : p < m) :
    ∃ x : Nat, bits .xor .i64 (g 0) (g p) = x ∧ x < 128 ∧ (∀ k : Nat → Int, k 0 = x → k 1 = 0 → sumsOk n f 2 k = true) ∧ sx x f n = bits .xor .i64 (sumsF n f g 0) (sumsF n f g p) ∧ (0 ≤ sumsF n f g 0 ∧ sumsF n f g 0 < 256) ∧ (0 ≤ sumsF n f g p ∧ sumsF n f g p < 256) ∧ sx 0 f n = 0 := by
  have hd := sums_dig h
  obtain ⟨h1, h2, h3, h4⟩ := sumsOk_true.1 h
  have q0 := two_pow_pos n
  have q1 := two_pow_le h1
  rw [show (2 : Int) ^ 7 = 128 by decide] at q1
  have ha := noneB_true.1 h4 0 (by omega)
  have hb := noneB_true.1 h4 p hm
  simp only [badS, Bool.not_eq_false', inR_true] at ha hb
  have hc : (2 : Int) ^ n = ((2 ^ n : Nat) : Int) := by push_cast; rfl
  rw [hc] at ha hb q1
  obtain ⟨a, hae⟩ := Int.eq_ofNat_of_zero_le ha.1
  obtain ⟨b, hbe⟩ := Int.eq_ofNat_of_zero_le hb.1
  have hx : a ^^^ b < 2 ^ n := Nat.xor_lt_two_pow (by omega) (by omega)
  have ea : sumsF n f g 0 = (sn a (fun i => (f i).toNat) n : Nat) := by rw [sumsF, hae, Int.toNat_natCast, sx_sn a f _ n hd]
  have eb : sumsF n f g p = (sn b (fun i => (f i).toNat) n : Nat) := by rw [sumsF, hbe, Int.toNat_natCast, sx_sn b f _ n hd]
  have la := sn_lt a (fun i => (f i).toNat) n (fun i hi => (hd i hi).2)
  have lb := sn_lt b (fun i => (f i).toNat) n (fun i hi => (hd i hi).2)
  refine ⟨a ^^^ b, ?_, by omega, fun k k0 k1 => ?_, ?_, by omega, by omega, ?_⟩
  · rw [hae, hbe, i64_xor_nat _ _ (by omega) (by omega)]
  · refine sumsOk_true.2 ⟨h1, h2, by omega, noneB_true.2 fun i hi => ?_⟩
    simp only [badS, Bool.not_eq_false', inR_true]
    rw [hc]
    match i, hi with
    | 0, _ => rw [k0]; omega
    | 1, _ => rw [k1]; omega
  · rw [ea, eb, i64_xor_nat _ _ (by omega) (by omega), sx_sn _ f _ n hd, sn_xor]
  · rw [sx_sn 0 f _ n hd, sn_zero]; rfl

set_option maxHeartbeats 1000000 in
theorem fnSumsOf_walk (a : Option Addr) (len cap : Nat) (zs : List Int) (w : World) (h : IsRow .u8 w a len cap zs) :
    Calls Try.prog 4 #[.slice a len cap] w fun e w' => e = .returned (.bool true) ∧ Below w.heap.size w w' := by
  have hlen : len ≤ 9223372036854775807 := by obtain ⟨h1, h2, _⟩ := bytes_in h; unfold maxLen at h2; omega
  have Hh := hide h
  clear h
  by_cases hl : 1048576 < len
  · go_enter Try.func4, Try.ntmps4
    go_wp2_with fail
    go_ret
    exact ⟨rfl, by go_grown⟩
  go_enter Try.func4, Try.ntmps4
  go_wp2_with fail
  refine (DrawSumsOf_any a len cap zs w _ Hh.out (by go_grown)).mono ?_
  rintro e w1 ⟨A, n, c, xs, A2, m, d, ys, rfl, hr1, hn, hr2, hm, B1⟩
  have HM := hide (fun (W : World) (hb : Below w1.heap.size w1 W) => (hr1.keep hb).ints)
  have HM2 := hide (fun (W : World) (hb : Below w1.heap.size w1 W) => (hr2.keep hb).ints)
  clear hr1 hr2
  generalize (fun i => xs.getD i 0) = f at HM
  generalize (fun i => ys.getD i 0) = g at HM2
  have I := hide (fun W hb => SumsI A n c f A2 m d g W (by omega) (HM.out W hb) (by omega) (HM2.out W hb))
  have S := hide (fun W hb => SumsS A n c f A2 m d g W (by omega) (HM.out W hb) (by omega) (HM2.out W hb))
  have hbd := sums_bd n f m g
  have HN := hide (show sumsOk n f m g = true ∧ sumsN n f m g = m ∨ sumsN n f m g = 0 by
    cases h : sumsOk n f m g
    · exact .inr (by simp [sumsN, h])
    · exact .inl ⟨rfl, by simp [sumsN, h]⟩)
  generalize hN : sumsN n f m g = N at *
  have HSF := hide (show ∀ i, sumsF n f g i = sumsF n f g i from fun _ => rfl)
  clear HSF
  generalize hF : sumsF n f g = F at *
  have HF := hide hF
  clear hN hF
  go_wp2_with fail
  refine (I.out _ (Below.refl _ _)).mono ?_
  rintro e w2 ⟨R1, k1, rfl, t1, hb2⟩
  go_wp2_with fail
  refine (S.out _ hb2).mono ?_
  rintro e w3 ⟨R2, k2, rfl, t2, hb3⟩
  have hc3 : Below w1.heap.size w1 w3 := up hb3 hb2 hb2.size
  have T1 := hide (t1.keepB hb3)
  have E1 := hide (equalInts_b R1 R2 N k1 k2 F w3 (by omega) T1.out.ints t2.ints)
  clear t1 t2
  go_wp2_with fail
  refine (E1.out).mono ?_
  rintro e w4 ⟨rfl, hb4⟩
  have hc4 : Below w1.heap.size w1 w4 := up hb4 hc3 hc3.size
  have T4 := hide (T1.out.keepB hb4)
  clear E1 T1
  by_cases h0 : N = 0
  · subst h0
    go_wp2_with fail
    refine (S.out _ hc4).mono ?_
    rintro e w5 ⟨R3, k3, rfl, t3, hb5⟩
    have E2 := hide (equalInts_b R1 R3 0 k1 k3 F w5 (by omega) (T4.out.keepB hb5).ints t3.ints)
    clear t3
    go_wp2_with fail
    refine (E2.out).mono ?_
    rintro e w6 ⟨rfl, hb6⟩
    go_wp2_with fail
    go_ret
    exact ⟨rfl, up (up (up hb6 (hb5) hb5.size) hc4 hc4.size) B1 B1.size⟩
  obtain ⟨hok, hNm⟩ : sumsOk n f m g = true ∧ N = m := by
    rcases HN.out with h | h
    · exact h
    · exact absurd h h0
  subst hNm
  obtain ⟨p, hp⟩ : ∃ p, N = p + 1 := ⟨N - 1, by omega⟩
  have hpm : p < N := by omega
  have hwp : IntKind.i64.wrap ((N : Int) - 1) = (p : Int) := by rw [hp]; exact (IntWalk.i64_in _ (by omega)).trans (by omega)
  have HP := hide hp
  clear hp
  obtain ⟨x, hx1, hx2, hx3, hx4, hx5, hx6, hx7⟩ := sums_both hok hpm
  rw [HF.out] at hx4 hx5 hx6
  have HX3 := hide hx3
  have HX4 := hide hx4
  have HX7 := hide hx7
  have hN0 : ((N : Int) == 0) = false := by simp; omega
  obtain ⟨b, off, rfl, hbl, hc⟩ := HM2.out w4 hc4 (by omega)
  have q0 : w4.cell? ⟨b, off, none⟩ = some (.int .i64 (g 0)) := hc 0 (by omega)
  have q1 : w4.cell? ⟨b, off + p, none⟩ = some (.int .i64 (g p)) := hc p (by omega)
  clear hc hx3 hx4 hx7 hok
  generalize g 0 = g0 at *
  generalize g p = gp at *
  obtain ⟨wd, hwd⟩ : ∃ wx, wx = w4.drew := ⟨_, rfl⟩
  have hcd : Below w1.heap.size w1 wd := by rw [hwd]; exact hc4.drew
  have TD := hide (show IT wd w1.heap.size w2.heap.size R1 N F by rw [hwd]; exact T4.out)
  have HWD := hide hwd.symm
  clear hwd
  have KD := hide (show ∃ k : Nat → Int, (∀ t, Ints (wd.alloc (.cells #[.int .i64 x, .int .i64 0] t)) (wd.heap.size + 1) (some ⟨wd.heap.size, 0, none⟩) 2 k) ∧ k 0 = x ∧ k 1 = 0 from
    ⟨fun i => [(x : Int), 0].getD i 0, fun t _ => ⟨wd.heap.size, 0, rfl, by omega, fun i hi => by rw [cell_of_row _ _ _ _ _ _ (heap_alloc_new wd _)]; match i, hi with | 0, _ => rfl | 1, _ => rfl⟩, rfl, rfl⟩)
  obtain ⟨kk, hk1, hk2, hk3⟩ := KD.out
  have hk1' := hide hk1
  have HI2 := hide (fun t => SumsI A n c f (some ⟨wd.heap.size, 0, none⟩) 2 2 kk (wd.alloc (.cells #[.int .i64 x, .int .i64 0] t)) (by omega) (HM.out _ (hcd.alloc hcd.size _)) (by omega) (by simpa using hk1 t))
  have e0 : sumsN n f 2 kk = 2 := by simp [sumsN, HX3.out kk hk2 hk3]
  have e1 : sumsF n f kk 0 = bits .xor .i64 (F 0) (F p) := by rw [sumsF, hk2, Int.toNat_natCast, HX4.out]
  have e2 : sumsF n f kk 1 = 0 := by rw [sumsF, hk3]; exact HX7.out
  rw [e0] at HI2
  generalize sumsF n f kk = F2 at *
  have HE1 := hide e1
  clear hk1 hk2 hk3 hk1' e0 e1 KD
  go_wp2_with fail
  have hN1 : 0 < N := by omega
  rw [← HWD.out] at HI2
  go_region_with (go_at_call 16; refine (HI2.out _).mono ?_; rintro e w5 ⟨R3, k3, rfl, t3, hb5⟩)
  all_goals
   rw [HWD.out] at t3 hb5
   have hb5' : Below wd.heap.size wd w5 := ⟨hb5.os, hb5.tape, hb5.output, Nat.le_trans (by simp) hb5.size, fun i hi => (hb5.block i (by simp; omega)).trans (Below.heap_alloc wd _ i hi)⟩
   have hc5 := up hb5' hcd hcd.size
   obtain ⟨b1, o1, rfl, hbl1, hcc1⟩ := (TD.out.keepB hb5').ints (by omega)
   obtain ⟨b3, o3, rfl, hbl3, hcc3⟩ := t3.ints (by omega)
   have c0 : w5.cell? ⟨b1, o1, none⟩ = some (.int .i64 (F 0)) := hcc1 0 (by omega)
   have c1 : w5.cell? ⟨b1, o1 + p, none⟩ = some (.int .i64 (F p)) := hcc1 p (by omega)
   have c2 : w5.cell? ⟨b3, o3, none⟩ = some (.int .i64 (bits .xor .i64 (F 0) (F p))) := by rw [← HE1.out]; exact hcc3 0 (by omega)
   have c3 : w5.cell? ⟨b3, o3 + 1, none⟩ = some (.int .i64 0) := by rw [← e2]; exact hcc3 1 (by omega)
   clear hcc1 hcc3 t3 q0 q1 e2 hx1
   generalize F 0 = a0 at *
   generalize F p = ap at *
   have hxx : (bits .xor .i64 a0 ap == bits .xor .i64 a0 ap) = true := by simp
   generalize hz : bits .xor .i64 a0 ap = z at *
   have HC5 := hide hc5
   clear hb5 hb5' hc5 hx2 hx5 hx6
   go_wp2_with fail
   go_quiet (fail)
   go_wp2_with fail
   go_ret
   exact ⟨rfl, by first | exact up HC5.out B1 B1.size | exact (up HC5.out B1 B1.size).drew | exact below_drewN (up HC5.out B1 B1.size) _⟩
end Go.Proofs.Ytkalecdjcdgodaa
