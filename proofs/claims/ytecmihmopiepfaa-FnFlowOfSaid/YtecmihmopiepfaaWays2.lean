/-
  The first way, the reference's. Conditions: the net can be read.
-/
import Derived.Test.YtecmihmopiepfaaWays
namespace Go.Proofs.Ytecmihmopiepfaa
open Go.RowKit

theorem take_mem_succ (g : List Nat) (b i : Nat) (hi : i < g.length) : decide (b ∈ g.take (i + 1)) = (decide (b ∈ g.take i) || decide (g.getD i 0 = b)) := by
  have e : g.getD i 0 = g[i] := by simp [List.getD, hi]
  rw [List.take_succ_eq_append_getElem hi, Bool.eq_iff_iff, e]
  simp only [List.mem_append, List.mem_singleton, decide_eq_true_eq, Bool.or_eq_true]
  exact ⟨fun h => h.imp id Eq.symm, fun h => h.imp id Eq.symm⟩

set_option maxHeartbeats 2000000 in
theorem wayS_any (n to : Nat) (C : Nat → Nat → Int) (hn : 2 ≤ n ∧ n ≤ 6) : ∀ (k : Nat) (g : List Nat) (A G : Option Addr) (c j e lo : Nat) (w : World), lo ≤ w.heap.size → g.length = j + 1 → g.length + k = n + 1 → Smp n C g → Mat w w.heap.size A n (fun _ => n) C → GI w lo G (j + 1) (gF g) →
    Calls Try.prog 58 #[.slice A n c, .int .i64 to, .slice G (j + 1) e] w (WayPost (wayF n to C k g) lo w) := by
  intro k
  induction k with
  | zero => intro g A G c j e lo w h0 h1 h2 h3; have := h3.len.2; omega
  | succ k ih =>
    intro g A G c j e lo w hlw hj hk hs hA hG
    have hat := hs.at_lt (i := j) (by omega)
    have hlast : g.getD j 0 = lastN g := by rw [lastN, hj]; rfl
    rw [hlast] at hat
    have HG := hide hG.ints
    have HGI0 := hide hG
    have HA := hide hA
    have HJ := hide hj
    have HS := hide hs
    obtain ⟨bg, og, rfl, hlo, hbg, hcg⟩ := hG
    have hcj : w.cell? ⟨bg, og + j, none⟩ = some (.int .i64 (lastN g : Nat)) := by rw [hcg j (by omega), gF, hlast]
    have hjn : j < n := by have := hs.len.2; omega
    have HCG := hide hcg
    clear hcg hA hs hlast
    by_cases ht : lastN g = to
    · have HW := hide (show wayF n to C (k + 1) g = g by rw [wayF, if_pos ht])
      have HL := hide (show g ≠ [] from HS.out.ne)
      rw [ht] at hcj
      clear ih ht
      clear hj
      go_enter Try.func58, Try.ntmps58
      go_wp2_with fail
      go_ret
      rw [HW.out]
      refine ⟨_, _, by rw [HJ.out]; rfl, .inr ⟨HL.out, ⟨_, rfl⟩, ?_⟩, by go_grown⟩
      rw [HJ.out]
      exact HGI0.out
    · have hne : ((lastN g : Nat) : Int) ≠ (to : Nat) := by intro h; exact ht (by exact_mod_cast h)
      have hne' : (((lastN g : Nat) : Int) == (to : Nat)) = false := by simpa using hne
      have HW := hide (wayF_go (n := n) (k := k) (C := C) ht)
      obtain ⟨ba, oa, rfl, hba, hca⟩ := HA.out (by omega)
      obtain ⟨R1, C1, f1, f2⟩ := hca (lastN g) hat
      have F1 := hide f1
      have F2 := hide (f2)
      have HIH := hide ih
      clear hca f1 f2 ih ht hne hj
      have HNX := hide (fun b (hb : b < n) (hm : b ∉ g) (hc : 0 < C (lastN g) b) => HS.out.snoc hb hm hc)
      generalize lastN g = at_ at *
      go_enter Try.func58, Try.ntmps58
      go_wp2_with fail
      clear hcj
      go_loopw [8] (fun i wr => ∃ b : Nat, b ≤ n ∧ i = .int .i64 b ∧ (∀ x, x < b → (if x ∈ g ∨ C at_ x ≤ 0 then [] else wayF n to C k (g ++ [x])) = []) ∧ Below w.heap.size w wr) (fun i _ => n - (intOf i).toNat)
      case atStart => exact ⟨0, by omega, rfl, by simp, Below.refl _ _⟩
      case round =>
        obtain ⟨b, hb, rfl, hall, hbw⟩ := hrel
        have Hall := hide hall
        have hz := hbw.size
        clear hall
        by_cases hlt : b < n
        · go_wp2_with fail
          go_loop [9, 10] (fun v i => ∃ t : Nat, t ≤ j + 1 ∧ i = .int .i64 t ∧ v = .bool (decide (b ∈ g.take t))) (fun _ i => j + 1 - (intOf i).toNat)
          case atStart => exact ⟨0, by omega, rfl, by simp⟩
          case round =>
            obtain ⟨t, htj, rfl, rfl⟩ := hrel
            by_cases hlj : t < j + 1
            · have hct := (hbw.cell (p := ⟨bg, og + t, none⟩) hbg).trans (HCG.out t hlj)
              have HTM := hide (take_mem_succ g b t (by rw [HJ.out]; exact hlj))
              cases hu : decide (b ∈ g.take t)
              · rw [hu] at HTM
                by_cases he : g.getD t 0 = b
                · have he' : (gF g t == (b : Int)) = true := by simp [gF, ← he]
                  have HTM2 := hide (show decide (b ∈ g.take (t + 1)) = true by rw [HTM.out, decide_eq_true he]; rfl)
                  clear HTM he hu
                  generalize gF g t = y at *
                  go_wp2_with fail
                  go_round
                  case rel => exact ⟨t + 1, by omega, by go_num, by rw [HTM2.out]⟩
                  case measure => simp [intOf]; omega
                · have he' : (gF g t == (b : Int)) = false := by rw [beq_eq_false_iff_ne]; intro h; exact he (by unfold gF at h; exact_mod_cast h)
                  have HTM2 := hide (show decide (b ∈ g.take (t + 1)) = false by rw [HTM.out, decide_eq_false he]; rfl)
                  clear HTM he hu
                  generalize gF g t = y at *
                  go_wp2_with fail
                  go_round
                  case rel => exact ⟨t + 1, by omega, by go_num, by rw [HTM2.out]⟩
                  case measure => simp [intOf]; omega
              · rw [hu] at HTM
                have HTM2 := hide (show decide (b ∈ g.take (t + 1)) = true by rw [HTM.out]; simp)
                clear HTM hu
                go_wp2_with fail
                go_round
                case rel => exact ⟨t + 1, by omega, by go_num, by rw [HTM2.out]⟩
                case measure => simp [intOf]; omega
            · obtain rfl : t = j + 1 := by omega
              have hfull : decide (b ∈ g.take (j + 1)) = decide (b ∈ g) := by rw [List.take_of_length_le (by rw [HJ.out]; exact Nat.le_refl _)]
              rw [hfull]
              clear hfull
              obtain ⟨rb, ro, rfl, hrb, hrc⟩ := F2.out (by omega)
              have hcc := (hbw.cell (p := ⟨rb, ro + b, none⟩) hrb).trans (hrc b hlt)
              have f1 := (hbw.cell (p := ⟨ba, oa + at_, none⟩) hba).trans F1.out
              clear hrc
              have stay : ∀ l, Hid ((if b ∈ g ∨ C at_ b ≤ 0 then [] else wayF n to C k (g ++ [b])) = l) → l = [] → Hid (∀ x, x < b + 1 → (if x ∈ g ∨ C at_ x ≤ 0 then [] else wayF n to C k (g ++ [x])) = []) := fun l h1 h2 => hide (fun x hx => by
                by_cases e : x = b
                · subst e; exact h1.out.trans h2
                · exact Hall.out x (by omega))
              by_cases hm : b ∈ g
              · have HST := stay [] (hide (by rw [if_pos (.inl hm)])) rfl
                have hmd : decide (b ∈ g) = true := by simpa using hm
                rw [hmd]
                clear stay hm hmd
                go_wp2_with fail
                go_roundw
                case rel => exact ⟨b + 1, by omega, by go_num, HST.out, hbw⟩
                case measure => simp [intOf]; omega
              · have hmd : decide (b ∈ g) = false := by simpa using hm
                rw [hmd]
                clear hmd
                by_cases hc : C at_ b ≤ 0
                · have HST := stay [] (hide (by rw [if_pos (.inr hc)])) rfl
                  clear stay hm
                  generalize C at_ b = y at *
                  go_wp2_with fail
                  go_roundw
                  case rel => exact ⟨b + 1, by omega, by go_num, HST.out, hbw⟩
                  case measure => simp [intOf]; omega
                · have hcpos : 0 < C at_ b := by omega
                  have HSM := hide (HNX.out b hlt hm hcpos)
                  have HE := hide (show (if b ∈ g ∨ C at_ b ≤ 0 then [] else wayF n to C k (g ++ [b])) = wayF n to C k (g ++ [b]) by rw [if_neg (by rw [not_or]; exact ⟨hm, hc⟩)])
                  have HST := hide (fun h => (stay _ HE h).out)
                  have HFW := hide (fun (h : wayF n to C k (g ++ [b]) ≠ []) => (HW.out.trans (firstW_at (b := b) Hall.out (by rw [HE.out]; exact h) hlt)).trans HE.out)
                  have HGI := hide (show Ints (wr.alloc (.cells #[] 3)) wr.heap.size (some ⟨bg, og, none⟩) (j + 1) (gF g) from HG.out.keep (hbw.alloc (by omega) _) hz)
                  clear stay hm hc
                  go_wp2_with (first | (at_builtin; refine push_ints rfl _ _ rfl [] rfl (Row.lit (cs := #[]) (xs := []) (n := 0) (base := wr.heap.size) rfl rfl (Nat.le_refl _)) (gF g) HGI.out (by omega) rfl (by omega) (by simp) ?_; intro A1 c1 w1 hr1 hb1 hg1; rw [Nat.zero_add] at hr1; rw [List.nil_append] at hr1; rw [Nat.zero_add]; have hz1 : wr.heap.size + 1 ≤ w1.heap.size := (by have := hg1.size; simpa using this); have HR1 := hide (show Row w1 wr.heap.size A1 (j + 1) c1 (listOf (j + 1) (gF g)) ∧ Below wr.heap.size wr w1 from ⟨hr1, ((Below.refl _ _).alloc (Nat.le_refl _) _).trans hb1⟩); clear hr1 hb1 hg1) | (at_builtin; refine push_int rfl _ _ rfl _ rfl HR1.out.1 (b : Int) _ rfl (by omega) (by omega) ?_; intro A2 c2 w2 hr2 hb2 hg2 hat2; have hz2 := hb2.size; have HR2 := hide hr2; have HB2 := hide (show Below w.heap.size w w2 from (hbw.trans (HR1.out.2.mono hz)).trans (hb2.mono hz)); clear hr2 hb2 hg2 hat2))
                  have HII := hide (show GI w2 lo A2 (j + 1 + 1) (gF (g ++ [b])) from ((GI.of_row HR2.out (by omega)).mono (by omega)).congr (fun i hi => by
                    rw [← HJ.out]
                    exact listOf_snoc (by simp [HJ.out]; omega)))
                  refine (HIH.out (g ++ [b]) _ A2 c (j + 1) c2 lo w2 (by omega) (by simp [HJ.out]) (by simp; omega) HSM.out (HA.out.keep HB2.out HB2.out.size) HII.out).mono ?_
                  rintro e' w3 ⟨A3, c3, rfl, hor, hb3⟩
                  have HB3 := hide (HB2.out.trans (hb3.mono HB2.out.size))
                  generalize hl : wayF n to C k (g ++ [b]) = l at *
                  rcases hor with ⟨rfl, rfl, rfl⟩ | ⟨hl1, ⟨a3, rfl⟩, hi3⟩
                  · have HST2 := hide (HST.out rfl)
                    clear hb3 hl
                    go_wp2_with fail
                    go_roundw
                    case rel => exact ⟨b + 1, by omega, by go_num, HST2.out, HB3.out⟩
                    case measure => simp [intOf]; omega
                  · have HF2 := hide (HFW.out hl1)
                    have HI3 := hide hi3
                    have HL1 := hide hl1
                    have hlp : 0 < l.length := List.length_pos_iff.2 hl1
                    clear hi3 hb3 hl hl1
                    go_wp2_with fail
                    go_ret
                    rw [HF2.out]
                    exact ⟨_, _, rfl, .inr ⟨HL1.out, ⟨_, rfl⟩, HI3.out⟩, HB3.out⟩
        · obtain rfl : b = n := by omega
          have HN := hide (HW.out.trans (firstW_nil Hall.out))
          go_wp2_with fail
          go_ret
          rw [HN.out]
          exact ⟨none, 0, rfl, .inl ⟨rfl, rfl, rfl⟩, hbw⟩
end Go.Proofs.Ytecmihmopiepfaa
