/-
  CliquesOf, the program's side. Conditions: the hints are a slice of ints that can be read.
-/
import Derived.Test.YtecmihmopiepfaaCliques
import Derived.Test.YtecmihmopiepfaaLoopless2
namespace Go.Proofs.Ytecmihmopiepfaa
open Go.RowKit

theorem ne0_t {z : Nat} (h : ¬ z = 0) : ((z : Int) != 0) = true := by simp; omega
theorem ne0_f {z : Nat} (h : z = 0) : ((z : Int) != 0) = false := by simp [h]
theorem cliqueI_any (A : Option Addr) (n c : Nat) (f : Nat → Int) (g : Nat → Nat) (S : Nat) (w : World) (hn : n ≤ 4) (hS : S < 16) (hg : ∀ i, i < n → f i = g i ∧ g i < 16) (h : Ints w w.heap.size A n f) :
    Calls Try.prog 62 #[.slice A n c, .int .i64 S] w fun e w' => e = .returned (.bool (decide (clB n g S))) ∧ w = w' := by
  have Hh := hide h
  have HG := hide hg
  clear h hg
  have HBA := hide (fun i (hi : i < n) (hb : bt S i = true) (hx : ¬ (g i ||| 2 ^ i) &&& S = S) => (decide_eq_false (fun hh => hx (hh i hi hb)) : decide (clB n g S) = false))
  have HOK := hide (fun (hh : clU g S n) => (decide_eq_true hh : decide (clB n g S) = true))
  go_enter Try.func62, Try.ntmps62
  go_wp2_with fail
  go_loop [9] (fun s => ∃ i : Nat, i ≤ n ∧ s = .int .i64 i ∧ clU g S i) (fun s => n - (intOf s).toNat)
  case atStart => exact ⟨0, Nat.zero_le _, rfl, fun i hi => by omega⟩
  case round =>
    obtain ⟨i, hi, rfl, hu⟩ := hrel
    have HU := hide hu
    clear hu
    by_cases hin : i < n
    · obtain ⟨b, off, rfl, hbl, hc⟩ := Hh.out (by omega)
      have hcell := hc i hin
      clear hc
      obtain ⟨e, hy⟩ := HG.out i hin
      rw [e] at hcell
      clear e
      cases hb : bt S i
      · obtain ⟨f1, f2⟩ := bt_f (show S ≤ 9223372036854775807 by omega) hb
        have HUN := hide (show clU g S (i + 1) from fun j hj hbj => by
          by_cases e : j = i
          · subst e; rw [hb] at hbj; cases hbj
          · exact HU.out j (by omega) hbj)
        clear hb
        go_wp2_with fail
        go_round
        case rel => exact ⟨i + 1, by omega, by go_num, HUN.out⟩
        case measure => simp [intOf]; omega
      · obtain ⟨f1, f2⟩ := bt_t (show S ≤ 9223372036854775807 by omega) hb
        have p1 := two_pow_pos i
        have p2 := two_pow_le (show i ≤ 3 by omega)
        rw [show (2 : Int) ^ 3 = 8 by decide] at p2
        have R := rm_fin S hS i (by omega)
        have hA := R.2.2.2
        have hr16 := R.1
        obtain ⟨hz16, hA2⟩ := an_fin (rm S i) hr16 (g i) hy
        have HO := hide (an_or S hS (g i) hy i (by omega) hb)
        by_cases hok : (g i ||| 2 ^ i) &&& S = S
        · have hz := ne0_f (HO.out.2 hok)
          have HUN := hide (show clU g S (i + 1) from fun j hj hbj => by
            by_cases e : j = i
            · subst e; exact hok
            · exact HU.out j (by omega) hbj)
          clear R hok hb HO
          generalize an (rm S i) (g i) = z at *
          generalize rm S i = r at *
          go_wp2_with fail
          go_round
          case rel => exact ⟨i + 1, by omega, by go_num, HUN.out⟩
          case measure => simp [intOf]; omega
        · have hz := ne0_t (fun hh => hok (HO.out.1 hh))
          have HBD := hide (HBA.out i hin hb hok)
          clear R hok hb HO
          generalize an (rm S i) (g i) = z at *
          generalize rm S i = r at *
          go_wp2_with fail
          go_ret
          exact ⟨ret_bool HBD.out.symm, rfl⟩
    · obtain rfl : i = n := by omega
      go_wp2_with fail
      go_ret
      exact ⟨ret_bool (HOK.out HU.out).symm, rfl⟩

/-- the least number of groups of S, the program's way: going down the parts -/
def dpI (c : Nat → Bool) (rec : Nat → Nat) (S : Nat) : Nat → Nat → Nat → Nat
  | 0, _, b => b
  | fu + 1, p, b => if p = 0 then b else dpI c rec S fu ((p - 1) &&& S) (if c p = true then min b (rec (an S p) + 1) else b)
/-- the table, with the sets below k filled in -/
def tab (c : Nat → Bool) (n : Nat) : Nat → Nat → Nat
  | 0, _ => 0
  | k + 1, s => if s = k then (if k = 0 then 0 else dpI c (tab c n k) k 16 k n) else tab c n k s
theorem dpI_le (c : Nat → Bool) (rec : Nat → Nat) (S : Nat) : ∀ fu p b, dpI c rec S fu p b ≤ b
  | 0, _, _ => Nat.le_refl _
  | fu + 1, p, b => by
    simp only [dpI]
    split
    · exact Nat.le_refl _
    · refine Nat.le_trans (dpI_le c rec S fu _ _) ?_
      split <;> omega
theorem tab_le (c : Nat → Bool) (n : Nat) : ∀ k s, tab c n k s ≤ n
  | 0, _ => Nat.zero_le _
  | k + 1, s => by
    simp only [tab]
    split
    · split
      · exact Nat.zero_le _
      · exact dpI_le _ _ _ _ _ _
    · exact tab_le c n k s
theorem tab_one (c : Nat → Bool) (n s : Nat) : tab c n 1 s = 0 := by simp [tab]
theorem part_fin : ∀ k, k < 16 → ∀ p, p < 16 → (p &&& k = p ∧ (p == 0) = false) → ((p - 1) &&& k) &&& k = (p - 1) &&& k ∧ (p - 1) &&& k < p ∧ an k p < k ∧ bits .and .i64 ((p : Int) - 1) (k : Int) = (((p - 1) &&& k : Nat) : Int) := by decide +kernel

/-- CliquesOf -/
def clV (n : Nat) (f : Nat → Int) : Int := if vH n f then ((cf (fun S => decide (clB n (fun i => (f i).toNat) S)) 16 (2 ^ n - 1) : Nat) : Int) else -1
def clW (n : Nat) (f : Nat → Int) : Int := if vH n f then ((tab (fun S => decide (clB n (fun i => (f i).toNat) S)) n (2 ^ n) (2 ^ n - 1) : Nat) : Int) else -1

theorem CliquesOfS_any (A : Option Addr) (n c : Nat) (f : Nat → Int) (w : World) (hn : n ≤ 1048576) (h : Ints w w.heap.size A n f) :
    Calls Try.prog 32 #[.slice A n c] w fun e w' => e = .returned (.int .i64 (clV n f)) ∧ Below w.heap.size w w' := by
  have HK := hide (fun (W : World) (hb : Below w.heap.size w W) => h.keep hb hb.size)
  have H := hide (validHintsS_b A n c f w hn h)
  clear h
  cases hv : vH n f
  · refine calls_int (a := -1) (by simp [clV, hv]) ?_
    rw [hv] at H
    go_enter Try.func32, Try.ntmps32
    go_wp2_with fail
    refine (H.out).mono ?_
    rintro e w1 ⟨rfl, hb⟩
    go_wp2_with fail
    go_ret
    exact ⟨rfl, hb⟩
  obtain ⟨h4, hg⟩ := vH_g hv
  obtain ⟨g, hgg⟩ : ∃ g : Nat → Nat, g = fun i => (f i).toNat := ⟨_, rfl⟩
  have HG := hide (show ∀ i, i < n → f i = g i ∧ g i < 16 by subst hgg; exact hg)
  refine calls_int (a := (cf (fun S => decide (clB n g S)) 16 (2 ^ n - 1) : Nat)) (by simp only [clV, hv, hgg]; rfl) ?_
  clear hg hgg
  rw [hv] at H
  have p1 := two_pow_pos n
  have p2 := two_pow_le h4.2
  rw [show (2 : Int) ^ 4 = 16 by decide] at p2
  have p3 : ((2 ^ n : Nat) : Int) = 2 ^ n := by push_cast; rfl
  have p4 : (2 : Int) ^ n - 1 = ((2 ^ n - 1 : Nat) : Int) := by omega
  have P5 := hide (show 2 ^ n - 1 < 16 by omega)
  have HP := hide (fun W => powerS_any n W (by omega))
  clear p3
  go_enter Try.func32, Try.ntmps32
  go_wp2_with fail
  refine (H.out).mono ?_
  rintro e w1 ⟨rfl, hb⟩
  have HC := hide (cliquesFromS_any A n c f g w1 h4.2 HG.out (HK.out _ hb) 16 (2 ^ n - 1) (by have := P5.out; omega) P5.out 0)
  rw [← p4] at HC
  clear p4
  go_wp2_with fail
  refine (HP.out _).mono ?_
  rintro e _ ⟨rfl, rfl⟩
  go_wp2_with fail
  refine (HC.out).mono ?_
  rintro e _ ⟨rfl, q, rfl⟩
  go_wp2_with fail
  go_ret
  exact ⟨rfl, below_drewN hb _⟩

set_option maxHeartbeats 1000000 in
theorem CliquesOfI_any (A : Option Addr) (n c : Nat) (f : Nat → Int) (w : World) (hn : n ≤ 1048576) (h : Ints w w.heap.size A n f) :
    Calls Try.prog 34 #[.slice A n c] w fun e w' => e = .returned (.int .i64 (clW n f)) ∧ Below w.heap.size w w' := by
  have HK := hide (fun (W : World) (hb : Below w.heap.size w W) => h.keep hb hb.size)
  have H := hide (hintsOkI_b A n c f w hn h)
  clear h
  cases hv : vH n f
  · refine calls_int (a := -1) (by simp [clW, hv]) ?_
    rw [hv] at H
    go_enter Try.func34, Try.ntmps34
    go_wp2_with fail
    refine (H.out).mono ?_
    rintro e w1 ⟨rfl, hb⟩
    go_wp2_with fail
    go_ret
    exact ⟨rfl, hb⟩
  obtain ⟨h4, hg⟩ := vH_g hv
  obtain ⟨g, hgg⟩ : ∃ g : Nat → Nat, g = fun i => (f i).toNat := ⟨_, rfl⟩
  have HG := hide (show ∀ i, i < n → f i = g i ∧ g i < 16 by subst hgg; exact hg)
  obtain ⟨C, hC⟩ : ∃ C : Nat → Bool, C = fun S => decide (clB n g S) := ⟨_, rfl⟩
  have HC := hide (show ∀ (S : Nat) (W : World), S < 16 → Below w.heap.size w W → Calls Try.prog 62 #[.slice A n c, .int .i64 S] W fun e w' => e = .returned (.bool (C S)) ∧ W = w' by
    intro S W hS hb
    rw [hC]
    exact cliqueI_any A n c f g S W h4.2 hS HG.out (HK.out W hb))
  obtain ⟨N, hNN⟩ : ∃ N : Nat, N = 2 ^ n := ⟨_, rfl⟩
  refine calls_int (a := (tab C n N (N - 1) : Nat)) (by simp only [clW, hv, hC, hgg, hNN]; rfl) ?_
  clear hg hgg hC
  rw [hv] at H
  have p1 := two_pow_pos n
  have p2 := two_pow_le h4.2
  rw [show (2 : Int) ^ 4 = 16 by decide] at p2
  have hN : (2 : Int) ^ n = (N : Int) := by rw [hNN]; push_cast; rfl
  have hN1 : 1 ≤ N := by rw [hNN]; exact Nat.one_le_two_pow
  have hN2 : N ≤ 16 := by omega
  clear hNN HK HG
  have HZ := hide (fun s => tab_one C n s)
  have HTL := hide (fun k s => tab_le C n k s)
  have hmk := run_make_row' (P := Try.prog) 26 3 (.int .i64 0) 8 Try.underlying26 info_int rfl .i64 .i64 N (by omega) (by omega)
  go_enter Try.func34, Try.ntmps34
  go_wp2_with fail
  refine (H.out).mono ?_
  rintro e w1 ⟨rfl, hb1⟩
  have HB1 := hide hb1
  have hz1 := hb1.size
  have hrow0 := World.rowIs_made w1 (.int .i64 0) N 3
  have Hrow0 := hide hrow0
  clear hb1 hrow0
  go_wp2_with fail
  clear hmk
  go_loopw [4] (fun s wr => ∃ k : Nat, 1 ≤ k ∧ k ≤ N ∧ s = .int .i64 k ∧ wr.rowIs w1.heap.size 3 N (fun s => .int .i64 (tab C n k s : Nat)) ∧ Below w.heap.size w wr) (fun s _ => 17 - (intOf s).toNat)
  case atStart => exact ⟨1, Nat.le_refl _, hN1, rfl, Hrow0.out.congr (fun s _ => by rw [HZ.out]; rfl), HB1.out.alloc hz1 _⟩
  case round =>
    obtain ⟨k, hk1, hkN, rfl, hrow, hb⟩ := hrel
    by_cases hlt : k < N
    · have hzr := hrow.lt
      have hcd := hrow.cell hlt
      have hfz := hrow.frozen k
      have HT := hide (show ∀ s, tab C n (k + 1) s = if s = k then dpI C (tab C n k) k 16 k n else tab C n k s from fun s => by
        simp only [tab]; rw [if_neg (show ¬ k = 0 by omega)])
      have HTB := hide (fun s => HTL.out k s)
      have Hrow := hide hrow
      have Hb := hide hb
      clear hrow hb
      generalize tab C n k = T at *
      obtain ⟨wo, rfl⟩ : ∃ x, x = wr := ⟨_, rfl⟩
      go_wp2_with fail
      clear hcd hfz
      go_loopw [5] (fun s wi => ∃ p b fu : Nat, p ≤ fu ∧ p ≤ k ∧ p &&& k = p ∧ s = .int .i64 p ∧ b ≤ 4 ∧ wi.rowIs w1.heap.size 3 N (fun s => .int .i64 ((if s = k then b else T s : Nat) : Nat)) ∧ dpI C T k fu p b = dpI C T k 16 k n ∧ Below w.heap.size w wi) (fun s _ => (intOf s).toNat)
      case atStart => exact ⟨k, n, 16, by omega, Nat.le_refl _, Nat.and_self _, rfl, h4.2, (Hrow.out.set k _).congr (fun s _ => by by_cases e : s = k <;> simp [e]), rfl, Hb.out.setCell (p := ⟨w1.heap.size, k, none⟩) hz1 _⟩
      case round =>
        obtain ⟨p, b, fu, hpf, hpk, hsub, rfl, hb4, hrow, hd, hb⟩ := hrel
        by_cases hp0 : p = 0
        · subst hp0
          have HDE := hide (show dpI C T k 16 k n = b by rw [← hd]; cases fu <;> simp [dpI])
          have Hrow2 := hide hrow
          have Hb2 := hide hb
          clear hd hrow hb hsub Hrow Hb
          go_wp2_with fail
          go_roundw
          case rel => exact ⟨k + 1, by omega, by omega, by go_num, Hrow2.out.congr (fun s _ => by rw [HT.out, HDE.out]), Hb2.out⟩
          case measure => simp [intOf]; omega
        · obtain ⟨fu, rfl⟩ : ∃ x, fu = x + 1 := ⟨fu - 1, by omega⟩
          have k16 : k < 16 := by omega
          have hpp : 0 < p := by omega
          obtain ⟨q1, q2, q3, q4⟩ := part_fin k k16 p (by omega) ⟨hsub, by simpa using hp0⟩
          have HD := hide (show dpI C T k fu ((p - 1) &&& k) (if C p = true then min b (T (an k p) + 1) else b) = dpI C T k 16 k n by rw [← hd]; simp only [dpI]; rw [if_neg hp0])
          have HQ1 := hide q1
          have HCC := hide (fun W hb => HC.out p W (by omega) hb)
          have Hb2 := hide hb
          clear hd hsub q1 hb
          cases hc : C p
          · rw [hc] at HCC
            have HD2 := hide (show dpI C T k fu ((p - 1) &&& k) b = dpI C T k 16 k n by have := HD.out; rw [hc] at this; simpa using this)
            have Hrow2 := hide hrow
            clear HD hc hrow
            generalize (p - 1) &&& k = pn at *
            go_wp2_with fail
            refine (HCC.out _ Hb2.out).mono ?_
            rintro e _ ⟨rfl, rfl⟩
            go_wp2_with fail
            go_roundw
            case rel => exact ⟨pn, b, fu, by omega, by omega, HQ1.out, rfl, hb4, Hrow2.out, HD2.out, Hb2.out⟩
            case measure => simp [intOf]; omega
          · rw [hc] at HCC
            have HD2 := hide (show dpI C T k fu ((p - 1) &&& k) (min b (T (an k p) + 1)) = dpI C T k 16 k n by have := HD.out; rw [hc] at this; simpa using this)
            clear HD hc
            have hA := (an_fin k k16 p (by omega)).2
            have hc1 := hrow.cell hlt
            have hc2 := hrow.cell (show an k p < N by omega)
            rw [if_pos rfl] at hc1
            rw [if_neg (by omega)] at hc2
            have hfz := hrow.frozen k
            have hzr := hrow.lt
            have ht4 := HTB.out (an k p)
            have Hrow2 := hide hrow
            clear hrow
            generalize T (an k p) = R at *
            generalize an k p = ak at *
            generalize (p - 1) &&& k = pn at *
            obtain ⟨wx, rfl⟩ : ∃ x, x = wr := ⟨_, rfl⟩
            by_cases hmn : b ≤ R + 1
            · have hmin : min b (R + 1) = b := by omega
              rw [hmin] at HD2
              go_wp2_with fail
              refine (HCC.out _ Hb2.out).mono ?_
              rintro e _ ⟨rfl, rfl⟩
              go_wp2_with fail
              go_region
              go_wp2_with fail
              go_roundw
              case rel => exact ⟨pn, b, fu, by omega, by omega, HQ1.out, rfl, by omega, (Hrow2.out.set k _).congr (fun s _ => by by_cases e : s = k <;> simp [e]), HD2.out, below_drewN (Hb2.out.setCell (p := ⟨w1.heap.size, k, none⟩) hz1 _) 1⟩
              case measure => simp [intOf]; omega
            · have hmin : min b (R + 1) = R + 1 := by omega
              rw [hmin] at HD2
              go_wp2_with fail
              refine (HCC.out _ Hb2.out).mono ?_
              rintro e _ ⟨rfl, rfl⟩
              go_wp2_with fail
              go_region
              go_wp2_with fail
              go_roundw
              case rel => exact ⟨pn, R + 1, fu, by omega, by omega, HQ1.out, rfl, by omega, (Hrow2.out.set k _).congr (fun s _ => by by_cases e : s = k <;> simp [e]), HD2.out, below_drewN (Hb2.out.setCell (p := ⟨w1.heap.size, k, none⟩) hz1 _) 1⟩
              case measure => simp [intOf]; omega
    · obtain rfl : k = N := by omega
      have hcd := hrow.cell (show k - 1 < k by omega)
      have Hrow := hide hrow
      clear hrow
      go_wp2_with fail
      go_ret
      exact ⟨rfl, hb⟩
end Go.Proofs.Ytecmihmopiepfaa
