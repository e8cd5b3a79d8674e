/-
  What stays lost of a grid, the program's side. Conditions: the grid can be read.
-/
import Derived.Test.YtkalecdjcdgodaaPeelS
import Derived.RegionTactic
namespace Go.Proofs.Ytkalecdjcdgodaa
open Go.RowKit

theorem pg1_any (x : Int) (n B : Nat) (w : World) (hn : n ≤ 7) (hc : w.cell? ⟨B, 0, none⟩ = some (.int .i64 n)) :
    Calls Try.prog 58 #[.int .i64 x, .pointer (some ⟨B, 0, none⟩)] w fun e w' => e = .returned (.bool (badS n x)) ∧ w = w' := by
  have q0 := two_pow_pos n
  have q1 := two_pow_le hn
  rw [show (2 : Int) ^ 7 = 128 by decide] at q1
  go_enter Try.func58, Try.ntmps58
  go_wp2_with (first | (go_at_call 55; refine (within_any _ _ _ _).mono ?_; rintro e w' ⟨rfl, rfl⟩))
  go_ret
  exact ⟨rfl, rfl⟩
theorem pgIndex_any (q B : Nat) (A : Option Addr) (n c : Nat) (f : Nat → Int) (w : World) (hn : n ≤ 9223372036854775807) (h : Ints w w.heap.size A n f) (hq : q ≤ 7) (hcb : w.cell? ⟨B, 0, none⟩ = some (.int .i64 q)) :
    Calls Try.prog 80 #[.slice A n c, .func (.func 58) #[] #[.pointer (some ⟨B, 0, none⟩)]] w fun e w' => ∃ r : Int, e = .returned (.int .i64 r) ∧ (decide (0 ≤ r) = !noneB n f (badS q)) ∧ w = w' := by
  have H := hide h
  have HC := hide (fun x => pg1_any x q B w hq hcb)
  clear h
  go_enter Try.func80, Try.ntmps80
  go_wp2_with fail
  go_loop [8] (fun i => ∃ k : Nat, k ≤ n ∧ i = .int .i64 k ∧ (∀ j, j < k → (badS q) (f j) = false)) (fun i => n - (intOf i).toNat)
  case atStart => exact ⟨0, Nat.zero_le _, rfl, by simp⟩
  case round =>
    obtain ⟨k, hk, rfl, hall⟩ := hrel
    have Hall := hide hall
    clear hall
    by_cases hlt : k < n
    · obtain ⟨b, off, rfl, hbl, hc⟩ := H.out (by omega)
      have hck := hc k hlt
      clear hc
      cases hx : (badS q) (f k)
      · go_wp2_with fail
        refine (HC.out _).mono ?_
        rintro e w' ⟨rfl, rfl⟩
        rw [hx]
        go_wp2_with fail
        go_round
        case rel => exact ⟨k + 1, by omega, by go_num, fun j hj => by
          by_cases e : j = k
          · subst e; exact hx
          · exact Hall.out j (by omega)⟩
        case measure => simp [intOf]; omega
      · go_wp2_with fail
        refine (HC.out _).mono ?_
        rintro e w' ⟨rfl, rfl⟩
        rw [hx]
        go_wp2_with fail
        go_ret
        exact ⟨k, rfl, by rw [noneB_false ⟨k, hlt, hx⟩]; simp, rfl⟩
    · obtain rfl : k = n := by omega
      go_wp2_with fail
      go_ret
      exact ⟨-1, rfl, by rw [noneB_true.2 Hall.out]; rfl, rfl⟩

theorem pgContains_any (q B : Nat) (A : Option Addr) (n c : Nat) (f : Nat → Int) (w : World) (hn : n ≤ 9223372036854775807) (h : Ints w w.heap.size A n f) (hq : q ≤ 7) (hcb : w.cell? ⟨B, 0, none⟩ = some (.int .i64 q)) :
    Calls Try.prog 57 #[.slice A n c, .func (.func 58) #[] #[.pointer (some ⟨B, 0, none⟩)]] w fun e w' => e = .returned (.bool (!noneB n f (badS q))) ∧ w = w' := by
  have H := hide (pgIndex_any q B A n c f w hn h hq hcb)
  clear h
  go_enter Try.func57, Try.ntmps57
  go_wp2_with fail
  refine (H.out).mono ?_
  rintro e w' ⟨r, rfl, hr, rfl⟩
  have Hr := hide hr
  clear hr
  go_wp2_with fail
  go_ret
  exact ⟨ret_bool Hr.out, rfl⟩

theorem clip_any (A : Option Addr) (n c : Nat) (w : World) (hn : n ≤ c) (hc : c ≤ 9223372036854775807) :
    Calls Try.prog 59 #[.slice A n c] w fun e w' => e = .returned (.slice A n n) ∧ w = w' := by
  go_enter Try.func59, Try.ntmps59
  go_wp2_with fail
  go_ret
  exact ⟨rfl, rfl⟩
theorem Xt_sum {n k : Nat} {X : Nat → Nat} (hk : k < 7) (hX : ∀ i, i < n → X i < 128) (hc : 0 < cnt X k n) : sumG (Xt X k n) n < sumG X n := by
  have key : ∀ i, i < n → Xt X k n i = rm7 (X i) k := fun i hi => by rw [Xt, if_pos hi]
  refine sumG_lt (fun i hi => ?_) (Classical.byContradiction fun hh => ?_)
  · rw [key i hi]; exact sub_le' (rm7_fin (X i) k (hX i hi) hk).2.1
  · have : cnt X k n = 0 := cnt_zero.2 fun i hi => by
      refine Classical.byContradiction fun h0 => hh ⟨i, hi, ?_⟩
      rw [key i hi]
      have := (rm7_fin (X i) k (hX i hi) hk).2.2.2.2.2.2.1 h0
      omega
    omega
theorem zero_sum {n t : Nat} {X : Nat → Nat} (ht : t < n) (h : X t ≠ 0) : sumG (fun s => if s = t then 0 else X s) n < sumG X n :=
  sumG_lt (fun i _ => by by_cases e : i = t <;> simp [e]) ⟨t, ht, by simp; omega⟩

/-- what a pass over the rows and columns keeps -/
def Pass (n cols br bc : Nat) (G0 G X : Nat → Nat) (md : Bool) (t k : Nat) : Prop :=
  Keep n cols br bc G0 X ∧ (md = false → X = G ∧ (∀ s, s < t → G s ≠ 0 → br < wt (G s)) ∧ ∀ k', k' < k → 0 < cnt G k' n → bc < cnt G k' n) ∧ (md = true → sumG X n < sumG G n)
theorem Pass.le {n cols br bc : Nat} {G0 G X : Nat → Nat} {md : Bool} {t k : Nat} (h : Pass n cols br bc G0 G X md t k) : sumG X n ≤ sumG G n := by
  cases md
  · rw [(h.2.1 rfl).1]; exact Nat.le_refl _
  · exact Nat.le_of_lt (h.2.2 rfl)
theorem Pass.mend {n cols br bc : Nat} {G0 G X Y : Nat → Nat} {md : Bool} {t k t' k' : Nat} (h : Pass n cols br bc G0 G X md t k) (hk : Keep n cols br bc G0 Y) (hl : sumG Y n < sumG X n) : Pass n cols br bc G0 G Y true t' k' :=
  ⟨hk, (fun hh => by cases hh), fun _ => Nat.lt_of_lt_of_le hl h.le⟩
theorem Pass.row {n cols br bc : Nat} {G0 G X : Nat → Nat} {md : Bool} {t k : Nat} (h : Pass n cols br bc G0 G X md t k) (hx : X t ≠ 0 → br < wt (X t)) : Pass n cols br bc G0 G X md (t + 1) k :=
  ⟨h.1, fun hh => by
    obtain ⟨h1, h2, h3⟩ := h.2.1 hh
    subst h1
    exact ⟨rfl, fun s hs h0 => by
      by_cases e : s = t
      · subst e; exact hx h0
      · exact h2 s (by omega) h0, h3⟩, h.2.2⟩
theorem Pass.col {n cols br bc : Nat} {G0 G X : Nat → Nat} {md : Bool} {t k : Nat} (h : Pass n cols br bc G0 G X md t k) (hx : 0 < cnt X k n → bc < cnt X k n) : Pass n cols br bc G0 G X md t (k + 1) :=
  ⟨h.1, fun hh => by
    obtain ⟨h1, h2, h3⟩ := h.2.1 hh
    subst h1
    exact ⟨rfl, h2, fun k' hk' h0 => by
      by_cases e : k' = k
      · subst e; exact hx h0
      · exact h3 k' (by omega) h0⟩, h.2.2⟩
theorem Pass.stable {n cols br bc : Nat} {G0 G X : Nat → Nat} (h : Pass n cols br bc G0 G X false n cols) : Stable n cols br bc X := by
  obtain ⟨h1, h2, h3⟩ := h.2.1 rfl
  subst h1
  exact ⟨h2, h3⟩

set_option maxHeartbeats 4000000 in
set_option maxRecDepth 100000 in
theorem peelI_any (A : Option Addr) (n c : Nat) (G0 : Nat → Nat) (cols br bc : Nat) (w : World) (hn : 1 ≤ n ∧ n ≤ 6) (hc : 1 ≤ cols ∧ cols ≤ 7) (hbr : br ≤ 7) (hbc : bc ≤ 7) (hG : ∀ i, i < n → G0 i < 128) (hbad : noneB n (fun i => ((G0 i : Nat) : Int)) (badS cols) = true) (h : Ints w w.heap.size A n (fun i => ((G0 i : Nat) : Int))) :
    Calls Try.prog 26 #[.slice A n c, .int .i64 cols, .int .i64 br, .int .i64 bc] w fun e w' => ∃ A' c0 E, e = .returned (.slice A' n n) ∧ (Row w' w.heap.size A' n c0 (gl n E) ∧ PeelEnd n cols br bc G0 E) ∧ Below w.heap.size w w' := by
  have HK0 := hide (keep_start (cols := cols) (br := br) (bc := bc) hG)
  have HCF := hide (pgContains_any cols w.heap.size A n c (fun i => ((G0 i : Nat) : Int)) (w.alloc (.cells #[.int .i64 cols] 3)) (by omega) (h.keep ((Below.refl _ _).alloc (Nat.le_refl _) _) (by simp)) hc.2 (by simp))
  rw [hbad] at HCF
  have HCL := hide (slClone_any A n c (fun i => ((G0 i : Nat) : Int)) (w.alloc (.cells #[.int .i64 cols] 3)) (by omega) (h.keep ((Below.refl _ _).alloc (Nat.le_refl _) _) (by simp)))
  have i1 : inR (n : Int) 1 6 = true := inR_mk (by omega) (by omega)
  have i2 : inR (cols : Int) 1 7 = true := inR_mk (by omega) (by omega)
  have i3 : inR (br : Int) 0 7 = true := inR_mk (by omega) (by omega)
  have i4 : inR (bc : Int) 0 7 = true := inR_mk (by omega) (by omega)
  clear h hG hbad
  go_enter Try.func26, Try.ntmps26
  go_wp2_with (first | (go_at_call 55; refine (within_any _ _ _ _).mono ?_; rintro e w' ⟨rfl, rfl⟩))
  refine (HCF.out).mono ?_
  rintro e _ ⟨rfl, rfl⟩
  go_wp2_with fail
  refine (HCL.out).mono ?_
  rintro e w1 ⟨A1, c0, rfl, hr1, hb1⟩
  rw [gl_list] at hr1
  have hcap := hr1.cap
  have hc0' : c0 ≤ 9223372036854775807 := by
    rcases hr1.2.2 with ⟨e1, _⟩ | ⟨g, cap, cur, e1, _, _, _, e2, _⟩
    · injection e1 with _ _ e3; omega
    · injection e1 with _ _ e3; unfold maxLen at e2; omega
  obtain ⟨g, rfl, hg, hgl⟩ := hr1.some_ (by omega)
  have hgw : w.heap.size < g := by have := hg; simp at this; omega
  have HR1 := hide (hr1.mono (show w.heap.size ≤ (w.alloc (.cells #[.int .i64 cols] 3)).heap.size by simp))
  have HB1 := hide (show Below w.heap.size w w1 from ((Below.refl w.heap.size w).alloc (Nat.le_refl _) (.cells #[.int .i64 cols] 3)).trans (hb1.mono (by simp)))
  have HBX := hide (show Blk w1 w.heap.size 3 #[.int .i64 cols] from Blk.below (Blk.new w _ _) hb1 (by simp))
  clear hr1 hb1 i1 i2 i3 i4
  go_wp2_with fail
  refine (clip_any (some ⟨g, 0, none⟩) n c0 w1 hcap hc0').mono ?_
  rintro e _ ⟨rfl, rfl⟩
  clear hcap hc0'
  go_wp2_with fail
  go_loopg [10] (sumG G0 n + 1) (fun gk v wr => ∃ (md : Bool) (G : Nat → Nat), v = .bool md ∧ Row wr w.heap.size (some ⟨g, 0, none⟩) n c0 (gl n G) ∧ Keep n cols br bc G0 G ∧ ((md = true ∧ sumG G n < gk) ∨ (md = false ∧ Stable n cols br bc G)) ∧ Below w.heap.size w wr ∧ wr.cell? ⟨w.heap.size, 0, none⟩ = some (.int .i64 cols))
  case atStart => exact ⟨true, G0, rfl, HR1.out, HK0.out, .inl ⟨rfl, by omega⟩, HB1.out, HBX.out.at_ (i := 0) rfl⟩
  case round =>
    obtain ⟨md, G, rfl, hrow, hkeep, hmd, hb, hbox⟩ := hrel
    obtain ⟨wo, rfl⟩ : ∃ x, x = wr := ⟨_, rfl⟩
    have HR := hide hrow
    have HK := hide hkeep
    have HB := hide hb
    have HBOX := hide hbox
    clear hrow hkeep hb hbox HR1 HB1 HBX HK0
    rcases hmd with ⟨rfl, hgk⟩ | ⟨rfl, hst⟩
    · have HGK := hide hgk
      clear hgk
      go_wp2_with fail
      go_loopw [10, 46] (fun mv iv wr => ∃ (md : Bool) (t : Nat) (X : Nat → Nat), t ≤ n ∧ iv = .int .i64 t ∧ mv = .bool md ∧ Row wr w.heap.size (some ⟨g, 0, none⟩) n c0 (gl n X) ∧ Pass n cols br bc G0 G X md t 0 ∧ Below w.heap.size w wr ∧ wr.cell? ⟨w.heap.size, 0, none⟩ = some (.int .i64 cols)) (fun _ iv _ => n - (intOf iv).toNat)
      case atStart => exact ⟨false, 0, G, by omega, rfl, rfl, HR.out, ⟨HK.out, fun _ => ⟨rfl, by simp, by simp⟩, fun h => by cases h⟩, HB.out, HBOX.out⟩
      case round =>
        obtain ⟨md, t, X, ht, rfl, rfl, hrx, hps, hbx, hbox⟩ := hrel
        have HRX := hide hrx
        have HPS := hide hps
        clear hrx hps
        by_cases hlt : t < n
        · obtain ⟨b2, e2, q1, q2, q3, q4, q5⟩ := HRX.out.at_ hlt
          obtain rfl : g = b2 := by simpa using e2
          rw [gl_at X hlt] at q3
          have hx := HPS.out.1.2.1 t hlt
          have HSZ := hide (fun W => size_any (X t) W (by omega))
          have HQ := hide (q5 0)
          have hfar : ∀ v, (wr.setCell ⟨g, t, none⟩ v).cell? ⟨w.heap.size, 0, none⟩ = some (.int .i64 cols) := fun v => by
            rw [World.cell?_setCell_other _ _ _ _ (by intro hh; injection hh with h1; omega)]
            exact hbox
          have HFAR := hide hfar
          have HBO := hide hbox
          clear e2 q5 hfar hbox
          by_cases h0 : X t = 0
          · have HP2 := hide (HPS.out.row (fun h => absurd h0 h))
            have e0 : (((X t : Nat) : Int) != 0) = false := by simp [h0]
            clear h0
            generalize X t = x at *
            go_wp2_with fail
            go_roundw
            case rel => exact ⟨md, t + 1, X, by omega, by go_num, rfl, HRX.out, HP2.out, hbx, HBO.out⟩
            case measure => simp [intOf]; omega
          · have e0 : (((X t : Nat) : Int) != 0) = true := by simp; omega
            by_cases hw : wt (X t) ≤ br
            · have HP2 := hide (HPS.out.mend (t' := t + 1) (k' := 0) (keep_row hlt HPS.out.1 HPS.out.1 hw) (zero_sum hlt h0))
              clear h0
              generalize wt (X t) = y at *
              generalize X t = x at *
              go_wp2_with (first | (go_at_call 61; refine (HSZ.out _).mono ?_; rintro e w' ⟨rfl, rfl⟩))
              go_roundw
              case rel => exact ⟨true, t + 1, _, by omega, by go_num, rfl, by have := HQ.out; rwa [gl_set0] at this, HP2.out, hbx.setCell (p := ⟨g, t, none⟩) (by dsimp only; omega) _, HFAR.out _⟩
              case measure => simp [intOf]; omega
            · have HP2 := hide (HPS.out.row (fun _ => by omega))
              clear h0
              generalize wt (X t) = y at *
              generalize X t = x at *
              go_wp2_with (first | (go_at_call 61; refine (HSZ.out _).mono ?_; rintro e w' ⟨rfl, rfl⟩))
              go_roundw
              case rel => exact ⟨md, t + 1, X, by omega, by go_num, rfl, HRX.out, HP2.out, hbx, HBO.out⟩
              case measure => simp [intOf]; omega
        · obtain rfl : t = n := by omega
          go_wp2_with fail
          go_loopw [10, 64] (fun mv iv wr => ∃ (md : Bool) (k : Nat) (X : Nat → Nat), k ≤ cols ∧ iv = .int .i64 k ∧ mv = .bool md ∧ Row wr w.heap.size (some ⟨g, 0, none⟩) t c0 (gl t X) ∧ Pass t cols br bc G0 G X md t k ∧ Below w.heap.size w wr ∧ wr.cell? ⟨w.heap.size, 0, none⟩ = some (.int .i64 cols)) (fun _ iv _ => cols - (intOf iv).toNat)
          case atStart => exact ⟨md, 0, X, by omega, rfl, rfl, HRX.out, HPS.out, hbx, hbox⟩
          case round =>
            obtain ⟨md, k, X, hk, rfl, rfl, hrx, hps, hbx2, hbox2⟩ := hrel
            obtain ⟨wi, rfl⟩ : ∃ x, x = wr := ⟨_, rfl⟩
            have HRX := hide hrx
            have HPS := hide hps
            have HBX2 := hide hbx2
            have HBO2 := hide hbox2
            clear hrx hps hbx2 hbox2 hbox
            by_cases hlk : k < cols
            · go_wp2_with fail
              go_loop [14, 69] (fun v i => ∃ s : Nat, s ≤ t ∧ i = .int .i64 s ∧ v = .int .i64 ((cnt X k s : Nat) : Int)) (fun _ i => t - (intOf i).toNat)
              case atStart => exact ⟨0, by omega, rfl, rfl⟩
              case round =>
                obtain ⟨s, hs, rfl, rfl⟩ := hrel
                have cb1 := cnt_bd (G := X) (k := k) s
                by_cases hst : s < t
                · obtain ⟨b1, e1, _, _, c1', _, _⟩ := HRX.out.at_ hst
                  obtain rfl : g = b1 := by simpa using e1
                  rw [gl_at X hst] at c1'
                  have hx := HPS.out.1.2.1 s hst
                  have f := rm7_fin (X s) k hx (by omega)
                  have hcb : cb (X s) k ≤ 1 := f.2.2.2.2.2.1
                  have hand := f.2.2.2.2.1
                  have hp0 := two_pow_pos k
                  have hp1 := two_pow_le (show k ≤ 7 by omega)
                  rw [show (2 : Int) ^ 7 = 128 by decide] at hp1
                  have HS := hide (show ((cnt X k (s + 1) : Nat) : Int) = (cnt X k s : Nat) + (cb (X s) k : Nat) by rw [cnt]; push_cast; rfl)
                  clear e1 f
                  generalize cb (X s) k = y at *
                  generalize cnt X k s = z at *
                  generalize X s = x at *
                  go_wp2_with fail
                  go_round
                  case rel => exact ⟨s + 1, by omega, by go_num, by rw [HS.out]⟩
                  case measure => simp [intOf]; omega
                · obtain rfl : s = t := by omega
                  cases hin : inR ((cnt X k s : Nat) : Int) 1 bc
                  · have HP2 := hide (HPS.out.col (fun h0 => by
                      rcases Nat.lt_or_ge bc (cnt X k s) with hh | hh
                      · exact hh
                      · rw [inR_mk (by omega) (by omega)] at hin; cases hin))
                    have HW := hide (fun W => (hin ▸ within_any ((cnt X k s : Nat) : Int) 1 bc W : Calls Try.prog 55 #[.int .i64 ((cnt X k s : Nat) : Int), .int .i64 1, .int .i64 bc] W fun e w' => e = .returned (.bool false) ∧ W = w'))
                    clear hin
                    generalize cnt X k s = cn at *
                    go_wp2_with (go_at_call 55; refine (HW.out _).mono ?_; rintro e w' ⟨rfl, rfl⟩)
                    go_roundw
                    case rel => exact ⟨md, k + 1, X, by omega, by go_num, rfl, HRX.out, HP2.out, HBX2.out, HBO2.out⟩
                    case measure => simp [intOf]; omega
                  · have hcn := inR_true.1 hin
                    have HP2 := hide (HPS.out.mend (t' := s) (k' := k + 1) (keep_col hlk hc.2 HPS.out.1 HPS.out.1 (by omega) s) (Xt_sum (by omega) HPS.out.1.2.1 (by omega)))
                    have HW := hide (fun W => (hin ▸ within_any ((cnt X k s : Nat) : Int) 1 bc W : Calls Try.prog 55 #[.int .i64 ((cnt X k s : Nat) : Int), .int .i64 1, .int .i64 bc] W fun e w' => e = .returned (.bool true) ∧ W = w'))
                    clear hin hcn
                    generalize cnt X k s = cn at *
                    go_wp2_with (go_at_call 55; refine (HW.out _).mono ?_; rintro e w' ⟨rfl, rfl⟩)
                    go_loopw [85] (fun i wr => ∃ j : Nat, j ≤ s ∧ i = .int .i64 j ∧ Row wr w.heap.size (some ⟨g, 0, none⟩) s c0 (gl s (Xt X k j)) ∧ Below w.heap.size w wr ∧ wr.cell? ⟨w.heap.size, 0, none⟩ = some (.int .i64 cols)) (fun i _ => s - (intOf i).toNat)
                    case atStart => exact ⟨0, by omega, rfl, by rw [Xt_zero]; exact HRX.out, HBX2.out, HBO2.out⟩
                    case round =>
                      obtain ⟨j, hj, rfl, hrj, hbj, hboxj⟩ := hrel
                      have HRJ := hide hrj
                      clear hrj
                      by_cases hjs : j < s
                      · obtain ⟨b2, e2, q1, q2, q3, q4, q5⟩ := HRJ.out.at_ hjs
                        obtain rfl : g = b2 := by simpa using e2
                        rw [gl_at _ hjs, Xt, if_neg (by omega)] at q3
                        have hx := HPS.out.1.2.1 j hjs
                        have f := rm7_fin (X j) k hx (by omega)
                        have hQ := q5 ((rm7 (X j) k : Nat) : Int)
                        rw [Xt_set, ← f.2.2.2.1] at hQ
                        have HQ := hide hQ
                        have hfar : ∀ v, (wr.setCell ⟨g, j, none⟩ v).cell? ⟨w.heap.size, 0, none⟩ = some (.int .i64 cols) := fun v => by
                          rw [World.cell?_setCell_other _ _ _ _ (by intro hh; injection hh with h1; omega)]
                          exact hboxj
                        have HFAR := hide hfar
                        clear e2 q5 hQ f hfar hboxj
                        have hp0 := two_pow_pos k
                        have hp1 := two_pow_le (show k ≤ 7 by omega)
                        rw [show (2 : Int) ^ 7 = 128 by decide] at hp1
                        generalize X j = x at *
                        go_wp2_with fail
                        go_region
                        go_wp2_with fail
                        go_roundw
                        case rel => exact ⟨j + 1, by omega, by go_num, by first | exact HQ.out | exact HQ.out.drew, by first | exact hbj.setCell (p := ⟨g, j, none⟩) (by dsimp only; omega) _ | exact Below.drew (hbj.setCell (p := ⟨g, j, none⟩) (by dsimp only; omega) _), HFAR.out _⟩
                        case measure => simp [intOf]; omega
                      · obtain rfl : j = s := by omega
                        have HBJ := hide hboxj
                        clear hboxj
                        go_wp2_with fail
                        go_roundw
                        case rel => exact ⟨true, k + 1, Xt X k j, by omega, by go_num, rfl, HRJ.out, HP2.out, hbj, HBJ.out⟩
                        case measure => simp [intOf]; omega
            · obtain rfl : k = cols := by omega
              cases md
              · have HST := hide HPS.out.stable
                go_wp2_with fail
                go_roundg (sumG G t)
                case measure => exact HGK.out
                case rel => exact ⟨false, X, rfl, HRX.out, HPS.out.1, .inr ⟨rfl, HST.out⟩, HBX2.out, HBO2.out⟩
              · go_wp2_with fail
                go_roundg (sumG G t)
                case measure => exact HGK.out
                case rel => exact ⟨true, X, rfl, HRX.out, HPS.out.1, .inl ⟨rfl, HPS.out.2.2 rfl⟩, HBX2.out, HBO2.out⟩
    · have HST := hide hst
      clear hst
      go_wp2_with fail
      go_ret
      exact ⟨_, c0, G, rfl, ⟨HR.out, HK.out, HST.out⟩, HB.out⟩
end Go.Proofs.Ytkalecdjcdgodaa
