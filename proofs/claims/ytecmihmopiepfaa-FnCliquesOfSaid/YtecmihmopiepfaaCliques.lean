/-
  CliquesOf, the reference's side and the program's clique. Conditions: the hints are a slice of ints that can be read.
-/
import Derived.Test.YtecmihmopiepfaaLoopless
namespace Go.Proofs.Ytecmihmopiepfaa
open Go.RowKit

/-- S has each other's words -/
def clB (n : Nat) (g : Nat → Nat) (S : Nat) : Prop := ∀ i, i < n → bt S i = true → (g i ||| 2 ^ i) &&& S = S
instance (n : Nat) (g : Nat → Nat) (S : Nat) : Decidable (clB n g S) := by unfold clB; exact inferInstance
def an (x y : Nat) : Nat := x &&& (15 ^^^ y)
/-- the first one of a set -/
def low (l : Nat) : Nat := if l % 2 = 1 then 0 else if l / 2 % 2 = 1 then 1 else if l / 4 % 2 = 1 then 2 else 3
theorem low_fin : ∀ l, l < 16 → 0 < l → low l ≤ 3 ∧ bt l (low l) = true ∧ ∀ i, i < low l → bt l i = false := by decide +kernel
theorem low_sub : ∀ l, l < 16 → ∀ k, k < 16 → k &&& l = k → bt k (low l) = true → 1 ≤ k ∧ k ≤ l := by decide +kernel
theorem an_fin : ∀ x, x < 16 → ∀ y, y < 16 → an x y ≤ x ∧ bits .andNot .i64 (x : Int) (y : Int) = ((an x y : Nat) : Int) := by decide +kernel
theorem an_or : ∀ x, x < 16 → ∀ y, y < 16 → ∀ i, i < 4 → bt x i = true → (an (rm x i) y = 0 ↔ (y ||| 2 ^ i) &&& x = x) := by decide +kernel
theorem or_fin : ∀ y : Nat, y < 16 → ∀ i, i < 4 → y ||| 2 ^ i < 16 ∧ bits .or .i64 (y : Int) ((2 : Int) ^ i) = ((y ||| 2 ^ i : Nat) : Int) := by decide +kernel
theorem and_eq_t {a b : Nat} (ha : a < 16) (hb : b < 16) (h : a &&& b = b) : (bits .and .i64 (a : Int) (b : Int) == (b : Int)) = true := by
  rw [and_nat a b (by omega) (by omega), h]; simp
theorem and_eq_f {a b : Nat} (ha : a < 16) (hb : b < 16) (h : ¬ a &&& b = b) : (bits .and .i64 (a : Int) (b : Int) == (b : Int)) = false := by
  rw [and_nat a b (by omega) (by omega)]; simp; exact_mod_cast h
theorem and_ne_t {a b : Nat} (ha : a < 16) (hb : b < 16) (h : ¬ a &&& b = a) : (bits .and .i64 (a : Int) (b : Int) != (a : Int)) = true := by
  rw [and_nat a b (by omega) (by omega)]; simp; exact_mod_cast h
theorem and_ne_f {a b : Nat} (ha : a < 16) (hb : b < 16) (h : a &&& b = a) : (bits .and .i64 (a : Int) (b : Int) != (a : Int)) = false := by
  rw [and_nat a b (by omega) (by omega), h]; simp

/-- the fewest groups of l, the reference's way: among the first k sets -/
def cfL (c : Nat → Bool) (rec : Nat → Nat) (l fi : Nat) : Nat → Nat
  | 0 => wt l
  | k + 1 => if k &&& l = k ∧ bt k fi = true ∧ c k = true then min (cfL c rec l fi k) (1 + rec (l - k)) else cfL c rec l fi k
def cf (c : Nat → Bool) : Nat → Nat → Nat
  | 0, _ => 0
  | fu + 1, l => if l = 0 then 0 else cfL c (cf c fu) l (low l) (l + 1)
theorem cfL_bd (c : Nat → Bool) (rec : Nat → Nat) (l fi : Nat) (hl : l < 16) : ∀ k, cfL c rec l fi k ≤ 4
  | 0 => wt_four l hl
  | k + 1 => by
    have := cfL_bd c rec l fi hl k
    simp only [cfL]; split <;> omega
theorem cf_bd (c : Nat → Bool) : ∀ fu l, l < 16 → cf c fu l ≤ 4
  | 0, _, _ => by simp [cf]
  | fu + 1, l, h => by
    simp only [cf]; split
    · omega
    · exact cfL_bd c _ l _ h _
theorem cf_zero (c : Nat → Bool) : ∀ fu, cf c fu 0 = 0
  | 0 => rfl
  | _ + 1 => rfl
/-- the numbers below k of S have all of S -/
def clU (g : Nat → Nat) (S k : Nat) : Prop := ∀ i, i < k → bt S i = true → (g i ||| 2 ^ i) &&& S = S
instance (g : Nat → Nat) (S k : Nat) : Decidable (clU g S k) := by unfold clU; exact inferInstance

theorem cliquesFromS_any (A : Option Addr) (n c : Nat) (f : Nat → Int) (g : Nat → Nat) (w : World) (hn : n ≤ 4) (hg : ∀ i, i < n → f i = g i ∧ g i < 16) (h : Ints w w.heap.size A n f) : ∀ (fu l : Nat), l ≤ fu → l < 16 → ∀ q0,
    Calls Try.prog 60 #[.slice A n c, .int .i64 l] (w.drewN q0) fun e w' => e = .returned (.int .i64 (cf (fun S => decide (clB n g S)) fu l : Nat)) ∧ ∃ q, w.drewN q = w' := by
  have Hh := hide h
  have HG := hide hg
  clear h hg
  have HCL := hide (show ∀ S, clU g S n ↔ clB n g S from fun S => Iff.rfl)
  intro fu
  induction fu with
  | zero =>
    intro l hl _ q0
    obtain rfl : l = 0 := by omega
    refine calls_int (a := 0) rfl ?_
    go_enter Try.func60, Try.ntmps60
    go_wp2_with fail
    go_ret
    exact ⟨rfl, _, rfl⟩
  | succ fu ih =>
    intro l hl h16 q0
    by_cases h0 : l = 0
    · subst h0
      refine calls_int (a := 0) rfl ?_
      go_enter Try.func60, Try.ntmps60
      go_wp2_with fail
      go_ret
      exact ⟨rfl, _, rfl⟩
    have hl1 : 0 < l := by omega
    obtain ⟨lw, hlt, hlf⟩ := low_fin l h16 hl1
    have HLT := hide hlt
    have HLF := hide hlf
    have HI := hide (fun m (hm : m ≤ fu) (hm2 : m < 16) => ih m hm hm2)
    have HLS := hide (fun k (hk : k < 16) (h1 : k &&& l = k) (h2 : bt k (low l) = true) => low_sub l h16 k hk h1 h2)
    refine calls_int (a := (cfL (fun S => decide (clB n g S)) (cf (fun S => decide (clB n g S)) fu) l (low l) (l + 1) : Nat)) (by simp only [cf, if_neg h0]) ?_
    have HBD := hide (fun k => cfL_bd (fun S => decide (clB n g S)) (cf (fun S => decide (clB n g S)) fu) l (low l) h16 k)
    have HRB := hide (fun m (hm : m < 16) => cf_bd (fun S => decide (clB n g S)) fu m hm)
    have HST := hide (fun k => show cfL (fun S => decide (clB n g S)) (cf (fun S => decide (clB n g S)) fu) l (low l) (k + 1) = if k &&& l = k ∧ bt k (low l) = true ∧ (fun S => decide (clB n g S)) k = true then min (cfL (fun S => decide (clB n g S)) (cf (fun S => decide (clB n g S)) fu) l (low l) k) (1 + cf (fun S => decide (clB n g S)) fu (l - k)) else cfL (fun S => decide (clB n g S)) (cf (fun S => decide (clB n g S)) fu) l (low l) k from rfl)
    have HZ := hide (show cfL (fun S => decide (clB n g S)) (cf (fun S => decide (clB n g S)) fu) l (low l) 0 = wt l from rfl)
    clear ih hlt hlf h0
    generalize cf (fun S => decide (clB n g S)) fu = rec at *
    generalize cfL (fun S => decide (clB n g S)) rec l (low l) = K at *
    generalize low l = fi at *
    go_enter Try.func60, Try.ntmps60
    go_wp2_with fail
    go_loop [5] (fun i => ∃ j : Nat, j ≤ fi ∧ i = .int .i64 j) (fun i => 4 - (intOf i).toNat)
    case atStart => exact ⟨0, Nat.zero_le _, rfl⟩
    case round =>
      obtain ⟨j, hj, rfl⟩ := hrel
      by_cases hjl : j < fi
      · have HB := hide (fun W => bitS_f l j W (by omega) (by omega) (HLF.out j hjl))
        go_wp2_with fail
        refine (HB.out _).mono ?_
        rintro e _ ⟨rfl, rfl⟩
        go_wp2_with fail
        go_round
        case rel => exact ⟨j + 1, by omega, by go_num⟩
        case measure => simp [intOf]; omega
      · obtain rfl : j = fi := by omega
        have HB := hide (fun W => bitS_t l j W (by omega) (by omega) HLT.out)
        have HW := hide (fun W => weightS_any l W (by omega))
        go_wp2_with fail
        refine (HB.out _).mono ?_
        rintro e _ ⟨rfl, rfl⟩
        go_wp2_with fail
        refine (HW.out _).mono ?_
        rintro e _ ⟨rfl, rfl⟩
        clear HB HW
        go_wp2_with fail
        go_loopw [6, 7] (fun v s wr => ∃ k : Nat, k ≤ l + 1 ∧ s = .int .i64 k ∧ v = .int .i64 (K k : Nat) ∧ ∃ q, wr = w.drewN q) (fun _ s _ => 17 - (intOf s).toNat)
        case atStart => exact ⟨0, Nat.zero_le _, rfl, by rw [HZ.out], q0, rfl⟩
        case round =>
          obtain ⟨k, hk, rfl, rfl, q, rfl⟩ := hrel
          have hkb := HBD.out k
          have HSK := hide (HST.out k)
          by_cases hkl : k ≤ l
          · have k16 : k < 16 := by omega
            by_cases hsub : k &&& l = k
            · have hne := and_ne_f k16 h16 hsub
              cases hbk : bt k j
              · have HK1 := hide (show K (k + 1) = K k by rw [HSK.out, if_neg (fun hh => by rw [hbk] at hh; cases hh.2.1)])
                have HB := hide (fun W => bitS_f k j W (by omega) (by omega) hbk)
                clear hsub hbk HSK
                generalize K k = V at *
                go_wp2_with fail
                refine (HB.out _).mono ?_
                rintro e _ ⟨rfl, rfl⟩
                go_wp2_with fail
                go_roundw
                case rel => exact ⟨k + 1, by omega, by go_num, by rw [HK1.out], _, rfl⟩
                case measure => simp [intOf]; omega
              · have HB := hide (fun W => bitS_t k j W (by omega) (by omega) hbk)
                have hk1 := (HLS.out k k16 hsub hbk).1
                have HSB := hide hsub
                have HBK := hide hbk
                clear hsub hbk
                generalize K k = V at *
                go_wp2_with fail
                refine (HB.out _).mono ?_
                rintro e _ ⟨rfl, rfl⟩
                go_wp2_with fail
                clear HB
                go_loopw [8, 9] (fun v s wr => ∃ i : Nat, i ≤ n ∧ s = .int .i64 i ∧ v = .bool (decide (clU g k i)) ∧ ∃ q, wr = w.drewN q) (fun _ s _ => n - (intOf s).toNat)
                case atStart => exact ⟨0, Nat.zero_le _, rfl, by simp [clU], q, rfl⟩
                case round =>
                  obtain ⟨i, hi, rfl, rfl, q, rfl⟩ := hrel
                  by_cases hin : i < n
                  · obtain ⟨b, off, rfl, hbl, hc⟩ := Hh.out (by omega)
                    have hcell := hc i hin
                    clear hc
                    obtain ⟨e, hy⟩ := HG.out i hin
                    rw [e] at hcell
                    clear e
                    by_cases hu : clU g k i
                    · have HU := hide hu
                      rw [decide_eq_true hu]
                      clear hu
                      cases hbi : bt k i
                      · have HUN := hide (show decide (clU g k (i + 1)) = true from decide_eq_true (fun j hj hb => by
                          by_cases e : j = i
                          · subst e; rw [hbi] at hb; cases hb
                          · exact HU.out j (by omega) hb))
                        have HB := hide (fun W => bitS_f k i W (by omega) (by omega) hbi)
                        clear hbi HU
                        go_wp2_with fail
                        go_quiet ((first | (go_at_call 56; exact quiet_add_left (HB.out _))))
                        go_wp2_with fail
                        go_roundw
                        case rel => exact ⟨i + 1, by omega, by go_num, by rw [HUN.out], by first | exact ⟨_, rfl⟩ | exact ⟨_, World.drewN_drewN _ _ _⟩⟩
                        case measure => simp [intOf]; omega
                      · have HB := hide (fun W => bitS_t k i W (by omega) (by omega) hbi)
                        have HPI := hide (fun W => powerS_any i W (by omega))
                        obtain ⟨o16, hO⟩ := or_fin (g i) hy i (by omega)
                        by_cases hok : (g i ||| 2 ^ i) &&& k = k
                        · have hz := and_eq_t o16 k16 hok
                          have HUN := hide (show decide (clU g k (i + 1)) = true from decide_eq_true (fun j hj hb => by
                            by_cases e : j = i
                            · subst e; exact hok
                            · exact HU.out j (by omega) hb))
                          clear hok HU hbi
                          generalize g i ||| 2 ^ i = o at *
                          generalize (2 : Int) ^ i = q2 at *
                          go_wp2_with fail
                          go_quiet ((first | (go_at_call 56; exact quiet_add_left (HB.out _)) | (go_at_call 55; exact quiet_add_left (HPI.out _))))
                          go_wp2_with fail
                          go_roundw
                          case rel => exact ⟨i + 1, by omega, by go_num, by rw [HUN.out], by first | exact ⟨_, rfl⟩ | exact ⟨_, World.drewN_drewN _ _ _⟩⟩
                          case measure => simp [intOf]; omega
                        · have hz := and_eq_f o16 k16 hok
                          have HUN := hide (show decide (clU g k (i + 1)) = false from decide_eq_false (fun hh => hok (hh i (by omega) hbi)))
                          clear hok HU hbi
                          generalize g i ||| 2 ^ i = o at *
                          generalize (2 : Int) ^ i = q2 at *
                          go_wp2_with fail
                          go_quiet ((first | (go_at_call 56; exact quiet_add_left (HB.out _)) | (go_at_call 55; exact quiet_add_left (HPI.out _))))
                          go_wp2_with fail
                          go_roundw
                          case rel => exact ⟨i + 1, by omega, by go_num, by rw [HUN.out], by first | exact ⟨_, rfl⟩ | exact ⟨_, World.drewN_drewN _ _ _⟩⟩
                          case measure => simp [intOf]; omega
                    · have HUN := hide (show decide (clU g k (i + 1)) = false from decide_eq_false (fun hh => hu (fun j hj hb => hh j (by omega) hb)))
                      rw [decide_eq_false hu]
                      clear hu
                      go_wp2_with fail
                      go_quiet (fail)
                      go_wp2_with fail
                      go_roundw
                      case rel => exact ⟨i + 1, by omega, by go_num, by rw [HUN.out], by first | exact ⟨_, rfl⟩ | exact ⟨_, World.drewN_drewN _ _ _⟩⟩
                      case measure => simp [intOf]; omega
                  · obtain rfl : i = n := by omega
                    by_cases hu : clU g k i
                    · have HIC := hide (HI.out (l - k) (by omega) (by omega))
                      have hrb := HRB.out (l - k) (by omega)
                      have HK1 := hide (show K (k + 1) = min V (1 + rec (l - k)) by rw [HSK.out, if_pos ⟨HSB.out, HBK.out, decide_eq_true ((HCL.out k).1 hu)⟩])
                      have hsubi : ((l : Int) - k) = ((l - k : Nat) : Int) := by omega
                      rw [decide_eq_true hu]
                      clear hu HSK
                      generalize rec (l - k) = R at *
                      by_cases hmn : V ≤ 1 + R
                      · go_wp2_with fail
                        refine (HIC.out q).mono ?_
                        rintro e _ ⟨rfl, q2, rfl⟩
                        go_wp2_with fail
                        go_roundw
                        case rel => exact ⟨k + 1, by omega, by go_num, by rw [HK1.out]; congr 1; omega, _, rfl⟩
                        case measure => simp [intOf]; omega
                      · go_wp2_with fail
                        refine (HIC.out q).mono ?_
                        rintro e _ ⟨rfl, q2, rfl⟩
                        go_wp2_with fail
                        go_roundw
                        case rel => exact ⟨k + 1, by omega, by go_num, by rw [HK1.out]; congr 1; omega, _, rfl⟩
                        case measure => simp [intOf]; omega
                    · have HK1 := hide (show K (k + 1) = V by rw [HSK.out, if_neg (fun hh => hu ((HCL.out k).2 (of_decide_eq_true hh.2.2)))])
                      rw [decide_eq_false hu]
                      clear hu HSK
                      go_wp2_with fail
                      go_roundw
                      case rel => exact ⟨k + 1, by omega, by go_num, by rw [HK1.out], _, rfl⟩
                      case measure => simp [intOf]; omega
            · have hne := and_ne_t k16 h16 hsub
              have HK1 := hide (show K (k + 1) = K k by rw [HSK.out, if_neg (fun hh => hsub hh.1)])
              clear hsub HSK
              generalize K k = V at *
              go_wp2_with fail
              go_roundw
              case rel => exact ⟨k + 1, by omega, by go_num, by rw [HK1.out], _, rfl⟩
              case measure => simp [intOf]; omega
          · obtain rfl : k = l + 1 := by omega
            go_wp2_with fail
            go_ret
            exact ⟨rfl, _, rfl⟩
end Go.Proofs.Ytecmihmopiepfaa
