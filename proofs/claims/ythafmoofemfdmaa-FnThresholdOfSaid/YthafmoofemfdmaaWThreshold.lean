/-
  FnThresholdOf returns true for every code: the walk. Conditions: none.
-/
import Derived.Test.YthafmoofemfdmaaThrPlain
import Derived.Test.YthafmoofemfdmaaThreshI
import Derived.Test.YthafmoofemfdmaaGroups
import Derived.Test.YthafmoofemfdmaaBW
import Derived.Test.YthafmoofemfdmaaLawHelp2
import Derived.Test.YthafmoofemfdmaaDrawP
namespace Go.Proofs.Ythafmoofemfdmaa
open Go.RowKit

theorem chooseL_any (n k : Nat) (w : World) (hn : n ≤ 7) (hk : k ≤ n) :
    Calls Try.prog 44 #[.int .i64 n, .int .i64 k] w fun e w' => e = .returned (.int .i64 (chN n k)) ∧ w = w' := by
  go_enter Try.func44, Try.ntmps44
  go_wp2
  go_loop [5, 6] (fun v i => ∃ j : Nat, j ≤ k ∧ i = .int .i64 j ∧ v = .int .i64 (chN n j)) (fun _ i => k - (intOf i).toNat)
  case atStart => exact ⟨0, by omega, rfl, rfl⟩
  case round =>
    obtain ⟨j, hj, rfl, rfl⟩ := hrel
    by_cases hlt : j < k
    · have hc := chN_bd n (by omega) j (by omega)
      have h1 : 0 ≤ chN n j * ((n : Int) - j) := Int.mul_nonneg hc.1 (by omega)
      have h2 : chN n j * ((n : Int) - j) ≤ 245 := by have := Int.mul_le_mul hc.2 (show (n : Int) - j ≤ 7 by omega) (by omega) (by omega); omega
      have h3 : 0 ≤ chN n j * ((n : Int) - j) / ((j : Int) + 1) := Int.ediv_nonneg h1 (by omega)
      go_wp2
      go_round
      case rel => exact ⟨j + 1, by omega, by go_num, rfl⟩
      case measure => simp [intOf]; omega
    · obtain rfl : j = k := by omega
      go_wp2
      go_ret
      exact ⟨rfl, rfl⟩


theorem ch_all : ((List.range 6).all fun n => (List.range 5).all fun k => chN n k == ((nCk n k : Nat) : Int) || decide (n < k)) = true := by decide +kernel
theorem ch_nCk {n k : Nat} (hn : n ≤ 5) (hk : k ≤ 4) (h : k ≤ n) : chN n k = ((nCk n k : Nat) : Int) := by
  have h1 := ch_all
  simp only [List.all_eq_true, List.mem_range, Bool.or_eq_true, beq_iff_eq, decide_eq_true_eq] at h1
  rcases h1 n (by omega) k (by omega) with h2 | h2
  · exact h2
  · omega
theorem pmod_lt {p x : Int} (hp : 2 ≤ p) : ∀ i, 0 ≤ pmod p x i ∧ pmod p x i ≤ p - 1
  | 0 => by simp [pmod]; omega
  | i + 1 => by
    have h1 := Int.emod_nonneg (pmod p x i * x) (show p ≠ 0 by omega)
    have h2 := Int.emod_lt_of_pos (pmod p x i * x) (show 0 < p by omega)
    simp only [pmod]; omega
theorem th_valid {p n k : Int} (h : thIn p n k = true) : vSch p (thN p n k) (thL p n k) (thM p n k) (thN p n k) thO = true := by
  obtain ⟨hp, hn, hk⟩ := th_bd h
  have hN : thN p n k = n.toNat := by simp [thN, h]
  have hP : isP p = true := by simp only [thIn, Bool.and_eq_true] at h; exact h.1.1
  rw [vSch_true, vTab_true]
  refine ⟨⟨hP, inR_true.2 (by rw [hN]; omega), inR_true.2 (by simp only [thL]; omega), fun i hi => ⟨rfl, allR_true.2 fun j hj => inR_true.2 ?_⟩⟩, rfl, noneB_true.2 fun i hi => ?_⟩
  · have := pmod_lt (p := p) (x := (i : Int) + 1) (by omega) j
    exact this
  · simp only [badO, Bool.not_eq_false', inR_true, thO]
    omega
theorem th_post {p n k : Int} {w w' : World} {e : Ending} (h : ThPost p n k w e w') : ∃ A c O d, e = .returned (.tuple #[.agg #[.int .i64 (thP p n k), .slice A (thN p n k) c, .slice O (thN p n k) d], .bool (thIn p n k)]) ∧ Mat w' w'.heap.size A (thN p n k) (thL p n k) (thM p n k) ∧ Ints w' w'.heap.size O (thN p n k) thO ∧ Below w.heap.size w w' := by
  obtain ⟨A, c, O, d, h1, ⟨L, M, f, h2, h3, _⟩, h4⟩ := h
  refine ⟨A, c, O, d, h1, fun h0 => ?_, h2.ints.congr (fun i hi => (h3 i hi).2.2), h4⟩
  obtain ⟨b, off, e1, hb, hc⟩ := h2.mat h0
  exact ⟨b, off, e1, hb, fun i hi => by
    obtain ⟨R, C, r1, r2⟩ := hc i hi
    obtain ⟨g1, g2, _⟩ := h3 i hi
    rw [g1] at r1 r2
    exact ⟨R, C, r1, r2.congr (fun j hj => g2 j (by rw [g1]; exact hj))⟩⟩
set_option maxHeartbeats 1000000 in
theorem equalScheme_b (p : Int) (A B O O2 : Option Addr) (n c d m e e2 : Nat) (L : Nat → Nat) (M : Nat → Nat → Int) (f : Nat → Int) (w : World) (hn : n ≤ 9223372036854775807) (hL : ∀ i, i < n → L i ≤ 9223372036854775807) (hm : m ≤ 9223372036854775807) (h1 : Mat w w.heap.size A n L M) (h2 : Mat w w.heap.size B n L M) (g1 : Ints w w.heap.size O m f) (g2 : Ints w w.heap.size O2 m f) :
    Calls Try.prog 39 #[.agg #[.int .i64 p, .slice A n c, .slice O m e], .agg #[.int .i64 p, .slice B n d, .slice O2 m e2]] w fun e w' => e = .returned (.bool true) ∧ Below w.heap.size w w' := by
  have HE := hide (fun (W : World) (hb : Below w.heap.size w W) => equalLists_b A B n c d L L M M W hn hL (h1.keep hb hb.size) (h2.keep hb hb.size) (fun i _ => ⟨rfl, fun j _ => rfl⟩))
  have HF := hide (fun (W : World) (hb : Below w.heap.size w W) => equalInts_b O O2 m e e2 f W hm (g1.keep hb hb.size) (g2.keep hb hb.size))
  have K1 := hide (show ∀ t, Blk ((w.alloc (.cells #[.int .i64 p, .slice A n c, .slice O m e] t)).alloc (.cells #[.int .i64 p, .slice B n d, .slice O2 m e2] t)) w.heap.size t #[.int .i64 p, .slice A n c, .slice O m e] from fun t => (Blk.new w _ _).alloc _)
  have K2 := hide (show ∀ t, Blk ((w.alloc (.cells #[.int .i64 p, .slice A n c, .slice O m e] t)).alloc (.cells #[.int .i64 p, .slice B n d, .slice O2 m e2] t)) (w.heap.size + 1) t #[.int .i64 p, .slice B n d, .slice O2 m e2] from fun t => Blk.newAt (by simp) _ _)
  have hpp : (p == p) = true := by simp
  clear hL h1 h2 g1 g2
  go_enter Try.func39, Try.ntmps39
  go_wp2_with fail
  refine (HE.out _ (((Below.refl _ _).alloc (Nat.le_refl _) _).alloc (by simp) _)).mono ?_
  rintro e w2 ⟨rfl, hb2⟩
  have b1 := (K1.out _).below hb2 (by simp; omega)
  have b2 := (K2.out _).below hb2 (by simp)
  have x2 := b1.at_ (i := 2) rfl
  have y2 := b2.at_ (i := 2) rfl
  have HB2 := hide (show Below w.heap.size w w2 from (((Below.refl _ _).alloc (Nat.le_refl _) _).alloc (by simp) _).trans (hb2.mono (by simp; omega)))
  clear b1 b2 hb2
  go_wp2_with fail
  refine (HF.out _ HB2.out).mono ?_
  rintro e w3 ⟨rfl, hb3⟩
  go_wp2_with fail
  go_ret
  exact ⟨rfl, up hb3 HB2.out HB2.out.size⟩

theorem DrawThresholdOf_any (a : Option Addr) (len cap : Nat) (zs : List Int) (w W : World) (h : IsRow .u8 w a len cap zs) (hb : Below w.heap.size w W) :
    Calls Try.prog 38 #[.slice a len cap] W fun e w' => ∃ p n k : Int, e = .returned (.tuple #[.int .i64 p, .int .i64 n, .int .i64 k]) ∧ Below W.heap.size W w' := by
  have Hh := hide h
  have Hb := hide hb
  clear h hb
  go_enter Try.func38, Try.ntmps38
  go_wp2_with fail
  refine (newReader_of a len cap zs w _ Hh.out Hb.out).mono ?_
  rintro e w1 ⟨g, rfl, hg, hr1, hb1⟩
  have HB1 := hide hb1
  have hz1 : W.heap.size ≤ w1.heap.size := hb1.size
  clear hb1
  go_wp2_with fail
  refine (aPrime_any g 0 w1 hr1 (by omega)).mono ?_
  rintro e w2 ⟨p, rfl, _, hr2, ho2⟩
  go_wp2_with fail
  refine (one_lit g _ [3, 4, 2, 5, 1, 6, 0] _ 7 7 w2 _ hr2 rfl rfl (by omega) (by omega) (by omega)).mono ?_
  rintro e w3 ⟨n, _, rfl, hr3, ho3⟩
  go_wp2_with fail
  refine (one_lit g _ [2, 3, 1, 4, 5, 0] _ 6 6 w3 _ hr3 rfl rfl (by omega) (by omega) (by omega)).mono ?_
  rintro e w4 ⟨k, _, rfl, _, ho4⟩
  have HB := hide (Only.up ((ho2.trans ho3).trans ho4) HB1.out hz1 hg)
  clear ho2 ho3 ho4 hr2 hr3
  go_wp2_with fail
  go_ret3
  exact ⟨p, n, k, rfl, HB.out⟩

theorem quietV {P : Program} {f : FuncId} {args : Array Value} {w : World} {a n : Nat} {v : Value}
    (h : Calls P f args (w.drewN (a + n)) fun e w' => e = .returned v ∧ w.drewN (a + n) = w') :
    Calls P f args (w.drewN (a + n)) fun e w'' => e = .returned v ∧ ∃ m, w'' = w.drewN (a + m) :=
  h.mono fun _ _ ⟨he, hm⟩ => ⟨he, n, hm.symm⟩
/-- what GroupsOf gives for a threshold scheme -/
theorem th_groups {P N K : Nat} (h : thIn P N K = true) : ∃ l : List Nat, l.length ≤ 192 ∧ l.length = nCk N K ∧ (∀ i, i < l.length → wt (l.getD i 0) = K ∧ l.getD i 0 < 2 ^ N) ∧ ∀ {w w' : World} {e : Ending}, GpPost P N (thL P N K) (thM P N K) N thO w e w' → ∃ A c, e = .returned (.slice A l.length c) ∧ Below w.heap.size w w' ∧ Ints w' w'.heap.size A l.length (fun i => ((l.getD i 0 : Nat) : Int)) := by
  have hv := th_valid h
  have hN : thN (P : Int) N K = N := by simp [thN, h]
  rw [hN] at hv
  have hL0 : thL (P : Int) N K 0 = K := rfl
  obtain ⟨h1, h2⟩ := th_list h
  have h3 := lst_len (knB P N K (thM P N K) thO) 192
  have h4 : ∀ (w w' : World) (e : Ending), GpPost P N (thL P N K) (thM P N K) N thO w e w' → ∃ A N' c, e = .returned (.slice A N' c) ∧ Below w.heap.size w w' ∧ (vSch P N (thL P N K) (thM P N K) N thO = true → N' = (lst (knB P N K (thM P N K) thO) 192).length ∧ Ints w' w'.heap.size A N' (fun i => (((lst (knB P N K (thM P N K) thO) 192).getD i 0 : Nat) : Int))) := fun w w' e hp => by
    unfold GpPost at hp
    rw [hL0] at hp
    exact hp
  generalize lst (knB P N K (thM P N K) thO) 192 = l at *
  refine ⟨l, h3, h2, h1, fun {w w' e} hp => ?_⟩
  obtain ⟨A, N', c, e1, b, f⟩ := h4 w w' e hp
  obtain ⟨e2, i⟩ := f hv
  subst e2
  exact ⟨A, c, e1, b, i⟩

set_option maxRecDepth 100000 in
set_option maxHeartbeats 4000000 in
theorem fnThresholdOf_walk (a : Option Addr) (len cap : Nat) (zs : List Int) (w : World) (h : IsRow .u8 w a len cap zs) :
    Calls Try.prog 10 #[.slice a len cap] w fun e w' => e = .returned (.bool true) ∧ Below w.heap.size w w' := by
  have hlen : len ≤ 9223372036854775807 := by obtain ⟨h1, h2, _⟩ := bytes_in h; unfold maxLen at h2; omega
  have Hh := hide h
  clear h
  by_cases hl : 1048576 < len
  · go_enter Try.func10, Try.ntmps10
    go_wp2_with fail
    go_ret
    exact ⟨rfl, by go_grown⟩
  go_enter Try.func10, Try.ntmps10
  go_wp2_with fail
  refine (DrawThresholdOf_any a len cap zs w _ Hh.out (by go_grown)).mono ?_
  rintro e w1 ⟨p, n, k, rfl, B1⟩
  have HB1 := hide B1
  have I := hide ((ThresholdOfI_any p n k w1).mono (fun e w' h => th_post h))
  have S := hide (fun W => (ThresholdOfS_any p n k W).mono (fun e w' h => th_post h))
  have HV := hide (fun h => th_valid (p := p) (n := n) (k := k) h)
  have HBD := hide (fun h => th_bd (p := p) (n := n) (k := k) h)
  have HPN := hide (show (thIn p n k = true → thP p n k = p ∧ (thN p n k : Int) = n) ∧ (thIn p n k = false → thN p n k = 0) from ⟨fun h => ⟨by simp [thP, h], by have := th_bd h; simp only [thN, h, if_true]; omega⟩, fun h => by simp [thN, h]⟩)
  have hN5 : thN p n k ≤ 5 := by
    cases h : thIn p n k
    · simp [thN, h]
    · have := th_bd h; simp only [thN, h, if_true]; omega
  have HL := hide (show ∀ i, i < thN p n k → thL p n k i ≤ 1000 from fun i hi => by
    cases h : thIn p n k
    · simp [thN, h] at hi
    · have := th_bd h; simp only [thL]; omega)
  generalize hP0 : thP p n k = P0 at *
  generalize hN0 : thN p n k = N0 at *
  generalize hok : thIn p n k = ok at *
  generalize hLL : thL p n k = LL at *
  generalize hMM : thM p n k = MM at *
  have HOK := hide hok
  have HLL := hide hLL
  have HMM := hide hMM
  clear hP0 hN0 hok hLL hMM B1
  go_wp2_with fail
  refine (I.out).mono ?_
  rintro e w2 ⟨A1, c1, O1, d1, rfl, hm2, hi2, hb2⟩
  have HM2 := hide hm2
  have HI2 := hide hi2
  have HB2 := hide hb2
  clear hm2 hi2 hb2 I
  go_wp2_with fail
  refine nameCalls (fun W => Below w2.heap.size w2 W ∧ Blk W w2.heap.size 44 #[.int .i64 P0, .slice A1 N0 c1, .slice O1 N0 d1]) ⟨by go_grown, Blk.new _ _ _⟩ ?_
  rintro wx ⟨hbx, kx⟩
  refine (S.out _).mono ?_
  rintro e w3 ⟨A2, c2, O2, d2, rfl, hm3, hi3, hb3⟩
  have HB3 := hide (show Below w2.heap.size w2 w3 from up hb3 hbx hbx.size)
  have K3 := hide (kx.below hb3 kx.lt)
  have HM3 := hide hm3
  have HI3 := hide hi3
  have x0 := K3.out.at_ (i := 0) rfl
  have x1 := K3.out.at_ (i := 1) rfl
  have x2 := K3.out.at_ (i := 2) rfl
  have hlt3 : w2.heap.size < w3.heap.size := K3.out.lt
  have E := hide (fun (W : World) (hb : Below w3.heap.size w3 W) => equalScheme_b P0 A1 A2 O1 O2 N0 c1 c2 N0 d1 d2 LL MM thO W (by omega) (fun i hi => by have := HL.out i hi; omega) (by omega) (HM2.out.keep (up hb HB3.out HB3.out.size) (Nat.le_trans HB3.out.size hb.size)) (HM3.out.keep hb hb.size) (HI2.out.keep (up hb HB3.out HB3.out.size) (Nat.le_trans HB3.out.size hb.size)) (HI3.out.keep hb hb.size))
  clear hm3 hi3 hb3 hbx kx S wx
  go_wp2_with fail
  clear x0 x1 x2
  refine nameCalls (fun W => Below w3.heap.size w3 W ∧ Blk W w2.heap.size 44 #[.int .i64 P0, .slice A1 N0 c1, .slice O1 N0 d1] ∧ Blk W w3.heap.size 44 #[.int .i64 P0, .slice A2 N0 c2, .slice O2 N0 d2]) ⟨by go_grown, K3.out.alloc _, Blk.new _ _ _⟩ ?_
  rintro wx ⟨hbx, k1, k2⟩
  refine (E.out _ hbx).mono ?_
  rintro e w4 ⟨rfl, hb4⟩
  have HB4 := hide (show Below w3.heap.size w3 w4 from up hb4 hbx hbx.size)
  have K4 := hide (k1.below hb4 k1.lt)
  have J4 := hide (k2.below hb4 k2.lt)
  have x0 := K4.out.at_ (i := 0) rfl
  have x1 := K4.out.at_ (i := 1) rfl
  have x2 := K4.out.at_ (i := 2) rfl
  have y0 := J4.out.at_ (i := 0) rfl
  have y1 := J4.out.at_ (i := 1) rfl
  have y2 := J4.out.at_ (i := 2) rfl
  have hlt4 : w2.heap.size < w4.heap.size := K4.out.lt
  have hlt5 : w3.heap.size < w4.heap.size := J4.out.lt
  have HB14 := hide (show Below w1.heap.size w1 w4 from up HB4.out (up HB3.out HB2.out HB2.out.size) (Nat.le_trans HB2.out.size HB3.out.size))
  clear hb4 hbx k1 k2 wx
  cases ok
  · go_wp2_with fail
    refine (E.out _ HB4.out).mono ?_
    rintro e w5 ⟨rfl, hb5⟩
    go_wp2_with fail
    go_ret
    exact ⟨rfl, up (up hb5 HB14.out HB14.out.size) HB1.out HB1.out.size⟩
  obtain ⟨hp, hn, hk⟩ := HBD.out (by first | rfl | trivial)
  obtain ⟨hP0, hN0⟩ := HPN.out.1 (by first | rfl | trivial)
  obtain ⟨P, rfl⟩ := Int.eq_ofNat_of_zero_le (show 0 ≤ p by omega)
  obtain ⟨K, rfl⟩ := Int.eq_ofNat_of_zero_le (show 0 ≤ k by omega)
  obtain rfl : n = (N0 : Int) := hN0.symm
  subst hP0
  have hv : vSch P N0 LL MM N0 thO = true := HV.out (by first | rfl | trivial)
  obtain ⟨l, hlen192, hl2, hl1, hgp⟩ := th_groups (P := P) (N := N0) (K := K) HOK.out
  rw [HLL.out, HMM.out] at hgp
  have HG := hide ((GroupsOfI_any P A1 N0 c1 LL MM O1 N0 d1 thO w4 (by omega) (fun i hi => by have := HL.out i hi; omega) (by omega) (HM2.out.keep (up HB4.out HB3.out HB3.out.size) (Nat.le_trans HB3.out.size HB4.out.size)) (HI2.out.keep (up HB4.out HB3.out HB3.out.size) (Nat.le_trans HB3.out.size HB4.out.size))).mono (fun e w' h => hgp h))
  have HVS := hide (fun (W : World) (hb : Below w4.heap.size w4 W) => ValidSchemeI_any P A1 N0 c1 LL MM O1 N0 d1 thO W (by omega) (fun i hi => by have := HL.out i hi; omega) (by omega) (HM2.out.keep (up hb (up HB4.out HB3.out HB3.out.size) (Nat.le_trans HB3.out.size HB4.out.size)) (Nat.le_trans (Nat.le_trans HB3.out.size HB4.out.size) hb.size)) (HI2.out.keep (up hb (up HB4.out HB3.out HB3.out.size) (Nat.le_trans HB3.out.size HB4.out.size)) (Nat.le_trans (Nat.le_trans HB3.out.size HB4.out.size) hb.size)))
  rw [hv] at HVS
  have HCH := hide (fun W => chooseL_any N0 K W (by omega) (by omega))
  rw [ch_nCk hN5 (show K ≤ 4 by omega) (by omega)] at HCH
  have hK5 : K ≤ 5 := by omega
  have HPW := hide (fun W => powerL_any N0 W (by omega))
  have hp32 : (2 : Int) ^ N0 = ((2 ^ N0 : Nat) : Int) := by push_cast; rfl
  rw [hp32] at HPW
  have h2N : 2 ^ N0 ≤ 32 := by
    have := Nat.pow_le_pow_right (show 2 > 0 by omega) hN5
    simpa using this
  have HWT := hide (fun x (hx : x < 256) W => weightL_any x W hx)
  generalize 2 ^ N0 = q2 at *
  have HL1 := hide hl1
  have HL2 := hide hl2
  clear hl1 hl2 hgp hv HV HBD HPN HM3 HI3 y0 y1 y2 hp32 E HLL HMM HOK
  go_wp2_with fail
  refine (HG.out).mono ?_
  rintro e w5 ⟨A5, c5, rfl, hb5, hi5⟩
  have HI5 := hide hi5
  have HB5 := hide hb5
  have k5 := K4.out.below hb5 K4.out.lt
  have x0 := k5.at_ (i := 0) rfl
  have x1 := k5.at_ (i := 1) rfl
  have x2 := k5.at_ (i := 2) rfl
  have HB15 := hide (up hb5 HB14.out HB14.out.size)
  clear hi5 hb5 k5
  go_wp2_with fail
  go_loopw [11] (fun i wr => ∃ j : Nat, j ≤ l.length ∧ i = .int .i64 j ∧ ∃ q, wr = w5.drewN q) (fun i _ => l.length - (intOf i).toNat)
  case atStart => exact ⟨0, by omega, rfl, 0, rfl⟩
  case round =>
    obtain ⟨j, hj, rfl, q, rfl⟩ := hrel
    by_cases hjl : j < l.length
    · obtain ⟨b5, o5, rfl, hbl, hcc⟩ := HI5.out (by omega)
      have hcj : w5.cell? ⟨b5, o5 + j, none⟩ = some (.int .i64 ((l.getD j 0 : Nat) : Int)) := hcc j hjl
      obtain ⟨hw1, hw2⟩ := HL1.out j hjl
      have hjI : (j : Int) < (l.length : Int) := by omega
      have hjI0 : (0 : Int) ≤ (j : Int) := by omega
      generalize l.getD j 0 = x at *
      have HWX := hide (fun W => HWT.out x (by omega) W)
      rw [hw1] at HWX
      have hne : ((K : Int) != (K : Int)) = false := by simp
      have hlt : ¬ (q2 : Int) ≤ (x : Int) := by omega
      have hlt2 : (x : Int) < (q2 : Int) := by omega
      clear hcc hw1
      go_wp2_with fail
      go_quiet ((first | (go_at_call 41; with_reducible exact quietV (HWX.out _)) | (go_at_call 42; with_reducible exact quietV (HPW.out _))))
      go_wp2_with fail
      go_roundw
      case rel => exact ⟨j + 1, by omega, by go_num, by first | exact ⟨_, rfl⟩ | exact ⟨_, World.drewN_drewN _ _ _⟩⟩
      case measure => simp [intOf]; omega
    · obtain rfl : j = l.length := by omega
      have q0 : (w5.drewN q).cell? ⟨w2.heap.size, 0, none⟩ = some (.int .i64 (P : Int)) := x0
      have HVQ := hide (HVS.out (w5.drewN q) (below_drewN HB5.out q))
      have hee : (((nCk N0 K : Nat) : Int) == ((nCk N0 K : Nat) : Int)) = true := by simp
      have HLI := hide (show ((l.length : Nat) : Int) = ((nCk N0 K : Nat) : Int) by rw [HL2.out])
      rw [← HLI.out] at HCH
      go_wp2_with fail
      refine (HVQ.out).mono ?_
      rintro e w6 ⟨rfl, hb6⟩
      go_wp2_with fail
      refine (HCH.out _).mono ?_
      rintro e _ ⟨rfl, rfl⟩
      go_wp2_with fail
      go_ret
      exact ⟨by simp, up (up hb6 (below_drewN HB15.out q) HB15.out.size) HB1.out HB1.out.size⟩
end Go.Proofs.Ythafmoofemfdmaa
