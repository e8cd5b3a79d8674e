/-
  What stays lost of a grid, the reference's side. Conditions: the grid can be read, and is valid.
-/
import Derived.Test.YtkalecdjcdgodaaGrid
import Derived.Deep.LoopGhost
import Derived.Deep.RegionWith
import Derived.Deep.QuietTactic
import Derived.BigQuiet
namespace Go.Proofs.Ytkalecdjcdgodaa
open Go.RowKit

theorem listOf_gl (n : Nat) (G : Nat → Nat) : listOf n (fun i => (gl n G).getD i 0) = gl n G := by
  unfold listOf
  refine List.ext_getElem? fun t => ?_
  by_cases h : t < n
  · simp [h, gl]
  · rw [List.getElem?_eq_none (by simp; omega), List.getElem?_eq_none (by rw [gl_len]; omega)]
theorem gl_set0 {n i : Nat} (G : Nat → Nat) : (gl n G).set i 0 = gl n (fun t => if t = i then 0 else G t) := by simpa using gl_set (n := n) (i := i) G 0
/-- the rows below t without column k -/
def Xt (X : Nat → Nat) (k t : Nat) (s : Nat) : Nat := if s < t then rm7 (X s) k else X s
theorem Xt_zero (X : Nat → Nat) (k : Nat) : Xt X k 0 = X := by funext s; simp [Xt]
theorem Xt_set {n t k : Nat} (X : Nat → Nat) : (gl n (Xt X k t)).set t ((rm7 (X t) k : Nat) : Int) = gl n (Xt X k (t + 1)) := by
  rw [gl_set]
  refine gl_congr fun s _ => ?_
  unfold Xt
  by_cases e : s = t
  · subst e; simp
  · rw [if_neg e]
    by_cases h : s < t
    · rw [if_pos h, if_pos (by omega)]
    · rw [if_neg h, if_neg (by omega)]
theorem stable_of {n cols br bc : Nat} {G X : Nat → Nat} (h : ∀ i, i < n → X i = G i) (h1 : ∀ s, s < n → wt (G s) ≤ br → X s = 0) (h2 : ∀ k, k < cols → cnt G k n ≤ bc → ∀ s, s < n → cb (X s) k = 0) : Stable n cols br bc G := by
  refine ⟨fun i hi h0 => ?_, fun k hk h0 => ?_⟩
  · rcases Nat.lt_or_ge br (wt (G i)) with hh | hh
    · exact hh
    · exact absurd ((h i hi).symm.trans (h1 i hi hh)) h0
  · rcases Nat.lt_or_ge bc (cnt G k n) with hh | hh
    · exact hh
    · have h3 : cnt G k n = 0 := cnt_zero.2 (fun s hs => by rw [← h s hs]; exact h2 k hk hh s hs)
      omega
theorem quietX {P : Program} {f : FuncId} {args : Array Value} {w : World} {a n : Nat} {v : Value}
    (h : Calls P f args (w.drewN (a + n)) fun e w' => e = .returned v ∧ w.drewN (a + n) = w') :
    Calls P f args (w.drewN (a + n)) fun e w'' => e = .returned v ∧ ∃ m, w'' = w.drewN (a + m) :=
  h.mono fun _ _ ⟨he, hm⟩ => ⟨he, n, hm.symm⟩

set_option maxHeartbeats 4000000 in
set_option maxRecDepth 100000 in
theorem peelS_any (A : Option Addr) (n c : Nat) (G0 : Nat → Nat) (cols br bc : Nat) (w : World) (hn : 1 ≤ n ∧ n ≤ 6) (hc : 1 ≤ cols ∧ cols ≤ 7) (hbr : br ≤ 7) (hbc : bc ≤ 7) (hG : ∀ i, i < n → G0 i < 128) (h : Ints w w.heap.size A n (fun i => ((G0 i : Nat) : Int))) :
    Calls Try.prog 63 #[.slice A n c, .int .i64 cols, .int .i64 br, .int .i64 bc] w fun e w' => ∃ A' c' E, e = .returned (.slice A' n c') ∧ (Row w' w.heap.size A' n c' (gl n E) ∧ PeelEnd n cols br bc G0 E) ∧ Below w.heap.size w w' := by
  have HA := hide (show Ints (w.alloc (.cells #[] 3)) w.heap.size A n (fun i => ((G0 i : Nat) : Int)) from h.keep ((Below.refl _ _).alloc (Nat.le_refl _) _) (Nat.le_refl _))
  have HK0 := hide (keep_start (cols := cols) (br := br) (bc := bc) hG)
  clear h hG
  go_enter Try.func63, Try.ntmps63
  go_wp2_with (at_builtin; refine push_ints rfl _ _ rfl [] rfl (Row.lit (cs := #[]) (xs := []) (n := 0) (base := w.heap.size) rfl rfl (Nat.le_refl _)) (fun i => ((G0 i : Nat) : Int)) HA.out (by omega) rfl (by omega) (by simp) ?_; intro A1 c1 w1 hr1 hb1 hg1; rw [Nat.zero_add] at hr1; rw [List.nil_append] at hr1; rw [Nat.zero_add]; have HR1 := hide (show Row w1 w.heap.size A1 n c1 (gl n G0) from hr1); have HB1 := hide (show Below w.heap.size w w1 from ((Below.refl _ _).alloc (Nat.le_refl _) _).trans hb1); clear hr1 hb1 hg1)
  go_loopg [9] (sumG G0 n) (fun gk v wr => ∃ (A1 : Option Addr) (c1 : Nat) (G : Nat → Nat), v = .slice A1 n c1 ∧ Row wr w.heap.size A1 n c1 (gl n G) ∧ Keep n cols br bc G0 G ∧ sumG G n ≤ gk ∧ Below w.heap.size w wr)
  case atStart => exact ⟨A1, c1, G0, rfl, HR1.out, HK0.out, Nat.le_refl _, HB1.out⟩
  case round =>
    obtain ⟨A1, c1, G, rfl, hrow, hkeep, hgk, hb⟩ := hrel
    obtain ⟨wo, rfl⟩ : ∃ x, x = wr := ⟨_, rfl⟩
    obtain ⟨g1, rfl, hg1, hg1l⟩ := hrow.some_ (by omega)
    have HN := hide (fun (W : World) (hW : Below wo.heap.size wo W) => hrow.keep hW)
    have HK := hide hkeep
    have HB := hide hb
    have HGK := hide hgk
    have hz := hb.size
    have HSRC := hide (show Ints (wo.alloc (.cells #[] 3)) wo.heap.size (some ⟨g1, 0, none⟩) n (fun i => (gl n G).getD i 0) from hrow.ints.keep ((Below.refl _ _).alloc (Nat.le_refl _) _) (Nat.le_refl _))
    have G128 := hide hkeep.2.1
    clear hrow hkeep hgk hb HR1 HB1 HK0 HA
    go_wp2_with (at_builtin; refine push_ints rfl _ _ rfl [] rfl (Row.lit (cs := #[]) (xs := []) (n := 0) (base := wo.heap.size) rfl rfl (Nat.le_refl _)) (fun i => (gl n G).getD i 0) HSRC.out (by omega) rfl (by omega) (by simp) ?_; intro A2 c2 w2 hr2 hb2 hg2; rw [Nat.zero_add] at hr2; rw [List.nil_append, listOf_gl] at hr2; rw [Nat.zero_add]; have HR2 := hide (show Row w2 wo.heap.size A2 n c2 (gl n G) from hr2); have HB2 := hide (show Below wo.heap.size wo w2 from ((Below.refl _ _).alloc (Nat.le_refl _) _).trans hb2); clear hr2 hb2 hg2)
    obtain ⟨g2, rfl, hg2, hg2l⟩ := HR2.out.some_ (by omega)
    go_loopw [11] (fun i wr => ∃ (t : Nat) (X : Nat → Nat), t ≤ n ∧ i = .int .i64 t ∧ Row wr wo.heap.size (some ⟨g2, 0, none⟩) n c2 (gl n X) ∧ Keep n cols br bc G0 X ∧ Subs n X G ∧ (∀ s, s < t → wt (G s) ≤ br → X s = 0) ∧ Below wo.heap.size wo wr) (fun i _ => n - (intOf i).toNat)
    case atStart => exact ⟨0, G, by omega, rfl, HR2.out, HK.out, fun i _ => Nat.and_self _, by simp, HB2.out⟩
    case round =>
      obtain ⟨t, X, ht, rfl, hrx, hkx, hsx, hzx, hbx⟩ := hrel
      have HRX := hide hrx
      have HKX := hide hkx
      have HSX := hide hsx
      have HZX := hide hzx
      clear hrx hkx hsx hzx
      by_cases hlt : t < n
      · obtain ⟨b1, e1, _, _, c1', _, _⟩ := (HN.out _ hbx).at_ hlt
        obtain rfl : g1 = b1 := by simpa using e1
        rw [gl_at G hlt] at c1'
        obtain ⟨b2, e2, q1, q2, q3, q4, q5⟩ := HRX.out.at_ hlt
        obtain rfl : g2 = b2 := by simpa using e2
        have hg := G128.out t hlt
        have HW := hide (weightS_any (G t) wr (by omega))
        have HQ := hide (q5 0)
        clear e1 e2 q5
        by_cases hw : wt (G t) ≤ br
        · have HKX2 := hide (keep_row hlt HK.out HKX.out hw)
          have HSX2 := hide (show Subs n (fun s => if s = t then 0 else X s) G from fun s hs => by
            dsimp only; split
            · simp
            · exact HSX.out s hs)
          have HZX2 := hide (show ∀ s, s < t + 1 → wt (G s) ≤ br → (fun s => if s = t then 0 else X s) s = 0 from fun s hs hh => by
            dsimp only; split
            · rfl
            · exact HZX.out s (by omega) hh)
          generalize wt (G t) = y at *
          generalize G t = x at *
          go_wp2_with (first | (go_at_call 82; refine (HW.out).mono ?_; rintro e w' ⟨rfl, rfl⟩))
          go_roundw
          case rel => exact ⟨t + 1, _, by omega, by go_num, by have := HQ.out; rwa [gl_set0] at this, HKX2.out, HSX2.out, HZX2.out, hbx.setCell (p := ⟨g2, t, none⟩) hg2 _⟩
          case measure => simp [intOf]; omega
        · have HZX2 := hide (show ∀ s, s < t + 1 → wt (G s) ≤ br → X s = 0 from fun s hs hh => by
            by_cases e : s = t
            · subst e; exact absurd hh hw
            · exact HZX.out s (by omega) hh)
          generalize wt (G t) = y at *
          generalize G t = x at *
          go_wp2_with (first | (go_at_call 82; refine (HW.out).mono ?_; rintro e w' ⟨rfl, rfl⟩))
          go_roundw
          case rel => exact ⟨t + 1, X, by omega, by go_num, HRX.out, HKX.out, HSX.out, HZX2.out, hbx⟩
          case measure => simp [intOf]; omega
      · obtain rfl : t = n := by omega
        go_wp2_with fail
        go_loopw [12] (fun i wr => ∃ (k : Nat) (X : Nat → Nat), k ≤ cols ∧ i = .int .i64 k ∧ Row wr wo.heap.size (some ⟨g2, 0, none⟩) t c2 (gl t X) ∧ Keep t cols br bc G0 X ∧ Subs t X G ∧ (∀ s, s < t → wt (G s) ≤ br → X s = 0) ∧ (∀ k', k' < k → cnt G k' t ≤ bc → ∀ s, s < t → cb (X s) k' = 0) ∧ Below wo.heap.size wo wr) (fun i _ => cols - (intOf i).toNat)
        case atStart => exact ⟨0, X, by omega, rfl, HRX.out, HKX.out, HSX.out, HZX.out, by simp, hbx⟩
        case round =>
          obtain ⟨k, X, hk, rfl, hrx, hkx, hsx, hzx, hcx, hbx2⟩ := hrel
          obtain ⟨wi, rfl⟩ : ∃ x, x = wr := ⟨_, rfl⟩
          have HRX := hide hrx
          have HKX := hide hkx
          have HSX := hide hsx
          have HZX := hide hzx
          have HCX := hide hcx
          have HBX := hide hbx2
          clear hrx hkx hsx hzx hcx
          by_cases hlk : k < cols
          · go_wp2_with fail
            go_loop [13, 14] (fun v i => ∃ s : Nat, s ≤ t ∧ i = .int .i64 s ∧ v = .int .i64 ((cnt G k s : Nat) : Int)) (fun _ i => t - (intOf i).toNat)
            case atStart => exact ⟨0, by omega, rfl, rfl⟩
            case round =>
              obtain ⟨s, hs, rfl, rfl⟩ := hrel
              have cb1 := cnt_bd (G := G) (k := k) s
              by_cases hst : s < t
              · obtain ⟨b1, e1, _, _, c1', _, _⟩ := (HN.out _ HBX.out).at_ hst
                obtain rfl : g1 = b1 := by simpa using e1
                rw [gl_at G hst] at c1'
                have hg := G128.out s hst
                have HBT := hide (fun W => bitS_any (G s) k W (by omega) (by omega))
                have hcb : cb (G s) k ≤ 1 := by unfold cb; omega
                have HS := hide (show ((cnt G k (s + 1) : Nat) : Int) = (cnt G k s : Nat) + (cb (G s) k : Nat) by rw [cnt]; push_cast; rfl)
                rw [show G s / 2 ^ k % 2 = cb (G s) k from rfl] at HBT
                clear e1
                generalize cb (G s) k = y at *
                generalize cnt G k s = z at *
                generalize G s = x at *
                go_wp2_with (first | (go_at_call 48; refine (HBT.out _).mono ?_; rintro e w' ⟨rfl, rfl⟩))
                go_round
                case rel => exact ⟨s + 1, by omega, by go_num, by rw [HS.out]⟩
                case measure => simp [intOf]; omega
              · obtain rfl : s = t := by omega
                have HKC := hide (fun (h : cnt G k s ≤ bc) j => keep_col hlk hc.2 HK.out HKX.out h j)
                generalize hcn : cnt G k s = cn at *
                have HCN := hide hcn
                clear hcn
                go_wp2_with fail
                go_loopw [15] (fun i wr => ∃ j : Nat, j ≤ s ∧ i = .int .i64 j ∧ Row wr wo.heap.size (some ⟨g2, 0, none⟩) s c2 (gl s (Xt X k j)) ∧ (cn ≤ bc ∨ j = 0) ∧ Below wo.heap.size wo wr) (fun i _ => s - (intOf i).toNat)
                case atStart => exact ⟨0, by omega, rfl, by rw [Xt_zero]; exact HRX.out, .inr rfl, HBX.out⟩
                case round =>
                  obtain ⟨j, hj, rfl, hrj, hor, hbj⟩ := hrel
                  have HRJ := hide hrj
                  have HOR := hide hor
                  clear hrj hor
                  by_cases hcc : cn ≤ bc
                  · by_cases hjs : j < s
                    · obtain ⟨b2, e2, q1, q2, q3, q4, q5⟩ := HRJ.out.at_ hjs
                      obtain rfl : g2 = b2 := by simpa using e2
                      rw [gl_at _ hjs, Xt, if_neg (by omega)] at q3
                      have hx := HKX.out.2.1 j hjs
                      have f := rm7_fin (X j) k hx (by omega)
                      have hQ := q5 ((rm7 (X j) k : Nat) : Int)
                      rw [Xt_set, ← f.2.2.2.1] at hQ
                      have HQ := hide hQ
                      clear e2 q5 hQ f
                      have HPW := hide (fun W => powerS_any k W (by omega))
                      have hp0 := two_pow_pos k
                      have hp1 := two_pow_le (show k ≤ 7 by omega)
                      rw [show (2 : Int) ^ 7 = 128 by decide] at hp1
                      generalize (2 : Int) ^ k = pw at *
                      generalize X j = x at *
                      go_wp2_with fail
                      go_region_with (go_at_call 64; refine (HPW.out _).mono ?_; rintro e _ ⟨rfl, rfl⟩)
                      all_goals
                        go_wp2_with fail
                        go_roundw
                        case rel => exact ⟨j + 1, by omega, by go_num, by first | exact HQ.out | exact HQ.out.drew, .inl hcc, by first | exact hbj.setCell (p := ⟨g2, j, none⟩) hg2 _ | exact Below.drew (hbj.setCell (p := ⟨g2, j, none⟩) hg2 _)⟩
                        case measure => simp [intOf]; omega
                    · obtain rfl : j = s := by omega
                      have HK2 := hide (HKC.out hcc j)
                      have key := hide (show ∀ t', t' < j → Xt X k j t' = rm7 (X t') k from fun t' ht' => by rw [Xt, if_pos ht'])
                      have fin := hide (fun t' (ht' : t' < j) => rm7_fin (X t') k (HKX.out.2.1 t' ht') (by omega))
                      go_wp2_with fail
                      go_roundw
                      case rel =>
                        refine ⟨k + 1, Xt X k j, by omega, by go_num, HRJ.out, HK2.out, fun t' ht' => ?_, fun t' ht' hh => ?_, fun k' hk' hh t' ht' => ?_, hbj⟩
                        · have f := fin.out t' ht'
                          rw [key.out t' ht', ← f.2.1, Nat.and_assoc, HSX.out t' ht', f.2.1]
                        · have f := fin.out t' ht'
                          have := HZX.out t' ht' hh
                          rw [key.out t' ht', this]; simp [rm7]
                        · have f := fin.out t' ht'
                          rw [key.out t' ht']
                          by_cases e : k' = k
                          · subst e; exact f.2.2.1
                          · have h1 := HCX.out k' (by omega) hh t' ht'
                            have h2 := f.2.2.2.2.2.2.2.2 k' (by omega)
                            omega
                      case measure => simp [intOf]; omega
                  · have hj0 : j = 0 := HOR.out.resolve_left hcc
                    subst hj0
                    have hR0 := HRJ.out
                    rw [Xt_zero] at hR0
                    have HR0 := hide hR0
                    clear hR0
                    go_wp2_with fail
                    go_roundw
                    case rel =>
                      refine ⟨k + 1, X, by omega, by go_num, HR0.out, HKX.out, HSX.out, HZX.out, fun k' hk' hh t' ht' => ?_, hbj⟩
                      by_cases e : k' = k
                      · subst e; rw [HCN.out] at hh; exact absurd hh hcc
                      · exact HCX.out k' (by omega) hh t' ht'
                    case measure => simp [intOf]; omega
          · obtain rfl : k = cols := by omega
            go_wp2_with fail
            go_loopw [16, 17] (fun v i wr => ∃ s q : Nat, s ≤ t ∧ i = .int .i64 s ∧ v = .bool (decide (∀ j, j < s → X j = G j)) ∧ wr = wi.drewN q) (fun _ i _ => t - (intOf i).toNat)
            case atStart => exact ⟨0, 0, by omega, rfl, by simp, rfl⟩
            case round =>
              obtain ⟨s, q, hs, rfl, rfl, rfl⟩ := hrel
              by_cases hst : s < t
              · obtain ⟨b1, e1, _, _, c1', _, _⟩ := (HN.out _ HBX.out).at_ hst
                obtain rfl : g1 = b1 := by simpa using e1
                rw [gl_at G hst] at c1'
                obtain ⟨b2, e2, q1, q2, q3, q4, q5⟩ := HRX.out.at_ hst
                obtain rfl : g2 = b2 := by simpa using e2
                rw [gl_at X hst] at q3
                have HSTEP := hide (show decide (∀ j, j < s + 1 → X j = G j) = (decide (∀ j, j < s → X j = G j) && decide (X s = G s)) by
                  rw [Bool.eq_iff_iff]
                  simp only [decide_eq_true_eq, Bool.and_eq_true]
                  exact ⟨fun h => ⟨fun j hj => h j (by omega), h s (by omega)⟩, fun h j hj => by
                    by_cases e : j = s
                    · subst e; exact h.2
                    · exact h.1 j (by omega)⟩)
                clear e1 e2 q5
                cases hv : decide (∀ j, j < s → X j = G j)
                · rw [hv] at HSTEP
                  go_wp2_with fail
                  go_quiet (fail)
                  go_wp2_with fail
                  go_roundw
                  case rel => exact ⟨s + 1, _, by omega, by go_num, by rw [HSTEP.out]; rfl, by first | rfl | exact World.drewN_drewN _ _ _⟩
                  case measure => simp [intOf]; omega
                · rw [hv] at HSTEP
                  by_cases hxg : X s = G s
                  · have he : (((X s : Nat) : Int) == ((G s : Nat) : Int)) = true := by simp [hxg]
                    have HST := hide (show decide (∀ j, j < s + 1 → X j = G j) = true by rw [HSTEP.out, decide_eq_true hxg]; rfl)
                    clear hxg HSTEP hv
                    generalize X s = x at *
                    generalize G s = y at *
                    go_wp2_with fail
                    go_quiet (fail)
                    go_wp2_with fail
                    go_roundw
                    case rel => exact ⟨s + 1, _, by omega, by go_num, by rw [HST.out], by first | rfl | exact World.drewN_drewN _ _ _⟩
                    case measure => simp [intOf]; omega
                  · have he : (((X s : Nat) : Int) == ((G s : Nat) : Int)) = false := by rw [beq_eq_false_iff_ne]; omega
                    have HST := hide (show decide (∀ j, j < s + 1 → X j = G j) = false by rw [HSTEP.out, decide_eq_false hxg]; rfl)
                    clear hxg HSTEP hv
                    generalize X s = x at *
                    generalize G s = y at *
                    go_wp2_with fail
                    go_quiet (fail)
                    go_wp2_with fail
                    go_roundw
                    case rel => exact ⟨s + 1, _, by omega, by go_num, by rw [HST.out], by first | rfl | exact World.drewN_drewN _ _ _⟩
                    case measure => simp [intOf]; omega
              · obtain rfl : s = t := by omega
                have HBQ := hide (below_drewN (HB.out.trans (HBX.out.mono hz)) q)
                by_cases hall : ∀ j, j < s → X j = G j
                · rw [decide_eq_true hall]
                  have HEND := hide (show PeelEnd s k br bc G0 G from ⟨HK.out, stable_of hall HZX.out HCX.out⟩)
                  have HRN := hide ((HN.out _ HBX.out).drewN q)
                  clear hall
                  go_wp2_with fail
                  go_ret
                  exact ⟨_, _, G, rfl, ⟨HRN.out, HEND.out⟩, HBQ.out⟩
                · rw [decide_eq_false hall]
                  have HLT := hide (show sumG X s < sumG G s from sumG_lt (fun i hi => sub_le' (HSX.out i hi)) (by
                    refine Classical.byContradiction fun hh => hall fun j hj => ?_
                    exact Classical.byContradiction fun h2 => hh ⟨j, hj, h2⟩))
                  have HRX2 := hide ((HRX.out.mono hz).drewN q)
                  clear hall
                  go_wp2_with fail
                  go_roundg (sumG X s)
                  case measure => have := HLT.out; have := HGK.out; omega
                  case rel => exact ⟨_, _, X, rfl, HRX2.out, HKX.out, Nat.le_refl _, HBQ.out⟩
end Go.Proofs.Ytkalecdjcdgodaa
