/-
  SharesOf, the reference's side. Conditions: the scheme and the list can be read.
  SharesOf, the program's side. Conditions: the scheme and the list can be read.
-/
import Derived.Test.YtcalfblghblhcaaShares
namespace Go.Proofs.Ytcalfblghblhcaa
open Go.RowKit

set_option maxHeartbeats 2000000 in
set_option maxRecDepth 100000 in
theorem SharesOfI_any (p : Int) (A : Option Addr) (n c : Nat) (L : Nat → Nat) (M : Nat → Nat → Int) (O : Option Addr) (m e : Nat) (f : Nat → Int) (B : Option Addr) (n1 c1 : Nat) (g : Nat → Int) (w : World) (hn : n ≤ 1048576) (hL : ∀ i, i < n → L i ≤ 1048576) (hm : m ≤ 1048576) (h : Mat w w.heap.size A n L M) (h2 : Ints w w.heap.size O m f) (hn1 : n1 ≤ 1048576) (h3 : Ints w w.heap.size B n1 g) :
    Calls Try.prog 33 #[.agg #[.int .i64 p, .slice A n c, .slice O m e], .slice B n1 c1] w (ShPost p n L M m f n1 g w) := by
  have HV := hide (fun (W : World) (hb : Below w.heap.size w W) => knownI_any p A O n c m e L M f W (by omega) (fun i hi => Nat.le_trans (hL i hi) (by omega)) (by omega) (h.keep hb hb.size) (h2.keep hb hb.size))
  have HM := hide (fun (W : World) (hb : Below w.heap.size w W) => h.keep hb hb.size)
  have HI := hide (fun (W : World) (hb : Below w.heap.size w W) => h3.keep hb hb.size)
  clear hL h h2 h3
  cases hv : vSch p n L M m f
  · have HN := hide (fun w' hb => sh_no (w := w) (w' := w') (n1 := n1) (g := g) (show shIn p n L M m f n1 g = false by rw [shIn, hv]; rfl) hb)
    rw [hv] at HV
    clear hv
    go_enter Try.func33, Try.ntmps33
    go_wp2_with fail
    refine (HV.out _ (below_box _)).mono ?_
    rintro x w1 ⟨rfl, hb1⟩
    have BK := hide (box_plain hb1)
    clear hb1
    go_wp2_with fail
    go_ret
    exact HN.out _ BK.out.1
  obtain ⟨hp, hn6, hl0, rfl, hrows⟩ := vSch_rows hv
  obtain ⟨b, off, rfl, hbl, hc⟩ := HM.out w (Below.refl _ _) (by omega)
  obtain ⟨R0, C0, e1, _⟩ := hc 0 (by omega)
  simp only [Nat.add_zero] at e1
  have HR0 := hide e1
  clear hc e1
  by_cases hln : ¬ n1 = L 0
  · have HN := hide (fun w' hb => sh_no (w := w) (w' := w') (show shIn p m L M m f n1 g = false by rw [shIn, hv, decide_eq_false (by omega)]; rfl) hb)
    have hne : ((n1 : Int) != (L 0 : Nat)) = true := by simp; omega
    rw [hv] at HV
    clear hv hrows hln
    go_enter Try.func33, Try.ntmps33
    go_wp2_with fail
    refine (HV.out _ (below_box _)).mono ?_
    rintro x w1 ⟨rfl, hb1⟩
    obtain ⟨b1, k1⟩ := box_plain hb1
    have q0 := k1.at_ (i := 0) rfl
    have q1 := k1.at_ (i := 1) rfl
    have q2 := (b1.cell (p := ⟨b, off, none⟩) hbl).trans HR0.out
    clear hb1 k1
    go_wp2_with fail
    go_ret
    exact HN.out _ b1
  have hln' : n1 = L 0 := by omega
  have hne : ((n1 : Int) != (L 0 : Nat)) = false := by simp; omega
  have HH := hide (fun (W : World) (hb : Below w.heap.size w W) => has_any p B n1 c1 g W (by omega) (HI.out W hb) hp)
  cases hg : allR n1 g p
  · have HN := hide (fun w' hb => sh_no (w := w) (w' := w') (show shIn p m L M m f n1 g = false by rw [shIn, hg]; simp) hb)
    rw [hv] at HV
    rw [hg] at HH
    clear hv hrows hln hg hln'
    go_enter Try.func33, Try.ntmps33
    go_wp2_with fail
    refine (HV.out _ (below_box _)).mono ?_
    rintro x w1 ⟨rfl, hb1⟩
    obtain ⟨b1, k1⟩ := box_plain hb1
    have q0 := k1.at_ (i := 0) rfl
    have q1 := k1.at_ (i := 1) rfl
    have q2 := (b1.cell (p := ⟨b, off, none⟩) hbl).trans HR0.out
    clear hb1 k1
    go_wp2_with fail
    refine (HH.out _ b1).mono ?_
    rintro x w2 ⟨rfl, hb2⟩
    go_wp2_with fail
    go_ret
    exact HN.out _ (up hb2 b1 b1.size)
  have HNN := hide (show shN p m L M m f n1 g = m by rw [shN, if_pos]; rw [shIn, hv, hg, decide_eq_true (by omega)]; rfl)
  have HR := hide hrows
  have HG := hide (fun i hi => allR_bd hg i hi)
  have HN1 := hide hln'
  have hmk := run_make0 (P := Try.prog) 23 3 (.int .i64 0) 8 Try.underlying23 info_int rfl .i64 .i64 m (by omega) (by omega)
  rw [hv] at HV
  rw [hg] at HH
  clear hv hrows hln hg hln'
  go_enter Try.func33, Try.ntmps33
  go_wp2_with fail
  refine (HV.out _ (below_box _)).mono ?_
  rintro x w1 ⟨rfl, hb1⟩
  obtain ⟨b1, k1⟩ := box_plain hb1
  have q0 := k1.at_ (i := 0) rfl
  have q1 := k1.at_ (i := 1) rfl
  have q2 := (b1.cell (p := ⟨b, off, none⟩) hbl).trans HR0.out
  have K1 := hide k1
  clear hb1 k1
  go_wp2_with fail
  refine (HH.out _ b1).mono ?_
  rintro x w2 ⟨rfl, hb2⟩
  have B2 := hide (up hb2 b1 b1.size)
  have hz2 := B2.out.size
  have K2 := hide (K1.out.below hb2 K1.out.lt)
  have q3 := K2.out.at_ (i := 1) rfl
  have hlt0 : w.heap.size < w2.heap.size := K2.out.lt
  clear hb2 q0 q1 q2 b1
  go_wp2_with fail
  clear hmk q3
  go_loopw [7, 40] (fun v i wr => ∃ (k : Nat) (A' : Option Addr) (c' : Nat), k ≤ m ∧ i = .int .i64 k ∧ v = .slice A' k c' ∧ Row wr w2.heap.size A' k c' (shL p L M g k) ∧ Below w2.heap.size w2 wr) (fun _ i _ => m - (intOf i).toNat)
  case atStart => exact ⟨0, _, _, by omega, rfl, rfl, Row.emptyAt rfl m _ (Nat.le_refl _) (by omega), by go_grown⟩
  case round =>
    obtain ⟨k, A', c', hk, rfl, rfl, hrow, hb⟩ := hrel
    have HRW := hide hrow
    have hz := hb.size
    have HBW := hide (up hb B2.out hz2)
    clear hrow
    by_cases hlt : k < m
    · obtain ⟨b', off', eA, hbl', hc⟩ := HM.out _ HBW.out (by omega)
      obtain ⟨rfl, rfl⟩ : b = b' ∧ off = off' := by simpa using eA
      obtain ⟨R1, C1, e1, e2⟩ := hc k hlt
      obtain ⟨l1, l2⟩ := HR.out k hlt
      rw [l1] at e1 e2
      have HD := hide (share_any p R1 B (L 0) C1 n1 c1 (M k) g wr hp (by omega) (by have := HN1.out; omega) (fun i hi => by
        have a1 := l2 i hi
        have a2 := HG.out i (by have := HN1.out; omega)
        omega) e2 (HI.out wr HBW.out))
      have HS := hide (shL_succ p L M g k)
      have HSF := hide (show dsum (M k) g (L 0) % p = shF p L M g k from rfl)
      clear hc e2 l1 l2 eA hbl'
      generalize dsum (M k) g (L 0) % p = y at *
      go_wp2_with fail
      refine (HD.out).mono ?_
      rintro x _ ⟨rfl, rfl⟩
      go_wp2_with (at_builtin; refine push_int rfl _ _ rfl _ rfl HRW.out y _ rfl (by omega) hz ?_; intro A2 c2 w4 hr2 hb3 hg2 hat2; have HF := hide (show Row w4 w2.heap.size A2 (k + 1) c2 (shL p L M g (k + 1)) ∧ Below w2.heap.size w2 w4 from ⟨by rw [HS.out, ← HSF.out]; exact hr2, hb.trans hb3⟩); clear hr2 hb3 hg2 hat2)
      go_roundw
      case rel => first | exact ⟨k + 1, _, c2, by omega, by go_num, rfl, HF.out.1, HF.out.2⟩ | ((repeat apply Exists.intro); exact ⟨⟨k + 1, _, c2, by omega, by go_num, rfl, HF.out.1, HF.out.2⟩, rfl⟩)
      case measure => simp [intOf]; omega
    · obtain rfl : k = m := by omega
      go_wp2_with fail
      go_ret
      exact ⟨_, _, by rw [HNN.out]; rfl, by rw [HNN.out]; exact HRW.out.mono hz2, HBW.out⟩
end Go.Proofs.Ytcalfblghblhcaa
namespace Go.Proofs.Ytcalfblghblhcaa
open Go.RowKit

set_option maxRecDepth 100000 in
set_option maxHeartbeats 2000000 in
theorem SharesOfS_any (p : Int) (A : Option Addr) (n c : Nat) (L : Nat → Nat) (M : Nat → Nat → Int) (O : Option Addr) (m e : Nat) (f : Nat → Int) (B : Option Addr) (n1 c1 : Nat) (g : Nat → Int) (w : World) (hn : n ≤ 1048576) (hL : ∀ i, i < n → L i ≤ 1048576) (hm : m ≤ 1048576) (h : Mat w w.heap.size A n L M) (h2 : Ints w w.heap.size O m f) (hn1 : n1 ≤ 1048576) (h3 : Ints w w.heap.size B n1 g) :
    Calls Try.prog 32 #[.agg #[.int .i64 p, .slice A n c, .slice O m e], .slice B n1 c1] w (ShPost p n L M m f n1 g w) := by
  have HV := hide (fun (W : World) (hb : Below w.heap.size w W) => validSchemeS_any p A O n c m e L M f W (by omega) (fun i hi => Nat.le_trans (hL i hi) (by omega)) (by omega) (h.keep hb hb.size) (h2.keep hb hb.size))
  have HM := hide (fun (W : World) (hb : Below w.heap.size w W) => h.keep hb hb.size)
  have HI := hide (fun (W : World) (hb : Below w.heap.size w W) => h3.keep hb hb.size)
  clear hL h h2 h3
  go_enter Try.func32, Try.ntmps32
  go_wp2_with fail
  go_cut [21] (fun v wx => v = .bool (!shIn p n L M m f n1 g) ∧ Below w.heap.size w wx ∧ Blk wx w.heap.size 29 #[.int .i64 p, .slice A n c, .slice O m e])
  case first =>
    cases hv : vSch p n L M m f
    · rw [hv] at HV
      have HSI := hide (show shIn p n L M m f n1 g = false by rw [shIn, hv]; rfl)
      clear hv
      refine wp_region_any (by kernel_rfl) ?_
      change wpAny _ _ _ _ _ _ _ (World.drew _)
      refine wpAny_ready (rs := [0]) (by kernel_rfl) (by simp) ?_
      refine AllReady.cons rfl (fun K hK => ?_) AllReady.nil
      go_simp
      refine hK _ _ ?_
      clear hK K
      refine wpAny_ready (rs := [1]) (by kernel_rfl) (by simp) ?_
      refine AllReady.cons rfl (fun K hK => ?_) AllReady.nil
      go_simp
      go_wp2_with (go_at_call 42; refine (HV.out _ (below_box_draw _)).mono ?_; rintro x w1 ⟨rfl, hb1⟩; have BK := hide (box_draw hb1); clear hb1)
      refine wpAny_ready (rs := [2]) (by kernel_rfl) (by simp) ?_
      refine AllReady.cons rfl (fun K hK => ?_) AllReady.nil
      go_simp
      refine hK _ _ ?_
      clear hK K
      refine wpAny_ready (rs := [3]) (by kernel_rfl) (by simp) ?_
      refine AllReady.cons rfl (fun K hK => ?_) AllReady.nil
      go_simp
      refine hK _ _ ?_
      clear hK K
      refine wpAny_take (i := 4) (v := undef) rfl (by kernel_rfl) (by kernel_rfl) (by kernel_rfl) (fun _ _ _ h => h) (Or.inr ⟨by kernel_rfl, rfl⟩) ?_
      refine wpAny_take (i := 5) (v := undef) rfl (by kernel_rfl) (by kernel_rfl) (by kernel_rfl) (fun _ _ _ h => h) (Or.inr ⟨by kernel_rfl, rfl⟩) ?_
      refine wpAny_take (i := 6) (v := undef) rfl (by kernel_rfl) (by kernel_rfl) (by kernel_rfl) (fun _ _ _ h => h) (Or.inr ⟨by kernel_rfl, rfl⟩) ?_
      refine wpAny_take (i := 7) (v := undef) rfl (by kernel_rfl) (by kernel_rfl) (by kernel_rfl) (fun _ _ _ h => h) (Or.inr ⟨by kernel_rfl, rfl⟩) ?_
      refine wpAny_take (i := 8) (v := undef) rfl (by kernel_rfl) (by kernel_rfl) (by kernel_rfl) (fun _ _ _ h => h) (Or.inr ⟨by kernel_rfl, rfl⟩) ?_
      refine wpAny_take (i := 9) (v := undef) rfl (by kernel_rfl) (by kernel_rfl) (by kernel_rfl) (fun _ _ _ h => h) (Or.inr ⟨by kernel_rfl, rfl⟩) ?_
      refine wpAny_take (i := 10) (v := undef) rfl (by kernel_rfl) (by kernel_rfl) (by kernel_rfl) (fun _ _ _ h => h) (Or.inr ⟨by kernel_rfl, rfl⟩) ?_
      refine wpAny_take (i := 11) (v := undef) rfl (by kernel_rfl) (by kernel_rfl) (by kernel_rfl) (fun _ _ _ h => h) (Or.inr ⟨by kernel_rfl, rfl⟩) ?_
      refine wpAny_take (i := 12) (v := undef) rfl (by kernel_rfl) (by kernel_rfl) (by kernel_rfl) (fun _ _ _ h => h) (Or.inr ⟨by kernel_rfl, rfl⟩) ?_
      refine wpAny_take (i := 13) (v := undef) rfl (by kernel_rfl) (by kernel_rfl) (by kernel_rfl) (fun _ _ _ h => h) (Or.inr ⟨by kernel_rfl, rfl⟩) ?_
      refine wpAny_ready (rs := [14]) (by kernel_rfl) (by simp) ?_
      refine AllReady.cons rfl (fun K hK => ?_) AllReady.nil
      go_simp
      refine hK _ _ ?_
      clear hK K
      refine wpAny_done (by kernel_rfl) ?_ _
      go_wp2_with fail
      go_meet
      exact ⟨by rw [HSI.out]; rfl, BK.out⟩
    · obtain ⟨hp, hn6, hl0, rfl, hrows⟩ := vSch_rows hv
      have HSI := hide (show shIn p m L M m f n1 g = (decide ((n1 : Int) = L 0) && allR n1 g p) by rw [shIn, hv]; rfl)
      rw [hv] at HV
      clear hv hrows
      obtain ⟨b, off, rfl, hbl, hc⟩ := HM.out w (Below.refl _ _) (by omega)
      obtain ⟨R0, C0, e1, _⟩ := hc 0 (by omega)
      simp only [Nat.add_zero] at e1
      have HR0 := hide e1
      have HW := hide (fun (W : World) (hb : Below w.heap.size w W) => validWord_any p B n1 c1 (L 0 : Nat) g W hp (by omega) (HI.out W hb))
      clear hc e1
      generalize (decide ((n1 : Int) = L 0) && allR n1 g p) = v1 at *
      go_region_with (first | (go_at_call 42; refine (HV.out _ (below_box_draw _)).mono ?_; rintro x w1 ⟨rfl, hb1⟩; obtain ⟨b1, k1⟩ := box_draw hb1; have q0 := k1.at_ (i := 0) rfl; have q1 := k1.at_ (i := 1) rfl; have q2 := (b1.cell (p := ⟨b, off, none⟩) hbl).trans HR0.out; have BK := hide (show _ ∧ _ from ⟨b1, k1⟩); clear hb1 b1 k1) | (go_at_call 43; refine (HW.out _ BK.out.1).mono ?_; rintro x _ ⟨rfl, rfl⟩))
      all_goals
        go_wp2_with fail
        go_meet
        exact ⟨by rw [HSI.out], BK.out⟩
  case rest =>
    obtain ⟨w1, rfl⟩ : ∃ x, x = wc := ⟨_, rfl⟩
    obtain ⟨rfl, hb1, hk1⟩ := hcut
    cases hin : shIn p n L M m f n1 g
    · have HN := hide (fun w' hb => sh_no (w := w) (w' := w') hin hb)
      clear hin
      go_wp2_with fail
      go_ret
      exact HN.out _ hb1
    · have hin2 := hin
      simp only [shIn, Bool.and_eq_true, decide_eq_true_eq] at hin2
      obtain ⟨hv, hn1l, hg⟩ := hin2
      obtain ⟨hp, hn6, hl0, rfl, hrows⟩ := vSch_rows hv
      have HNN := hide (show shN p m L M m f n1 g = m by simp [shN, hin])
      have HR := hide hrows
      have HG := hide (fun i hi => allR_bd hg i hi)
      have hn1' : n1 = L 0 := by omega
      have HN1 := hide hn1'
      have HB1 := hide hb1
      have HK1 := hide hk1
      have hz1 := hb1.size
      clear hin hv hn1l hg hrows hn1' hb1 hk1
      go_wp2_with fail
      go_loopw [5, 6] (fun v i wr => ∃ (k : Nat) (A' : Option Addr) (c' : Nat), k ≤ m ∧ i = .int .i64 k ∧ v = .slice A' k c' ∧ Row wr w1.heap.size A' k c' (shL p L M g k) ∧ Below w1.heap.size w1 wr) (fun _ i _ => m - (intOf i).toNat)
      case atStart => exact ⟨0, _, _, by omega, rfl, rfl, Row.lit (xs := []) rfl rfl (Nat.le_refl _), by go_grown⟩
      case round =>
        obtain ⟨k, A', c', hk, rfl, rfl, hrow, hb⟩ := hrel
        have HRW := hide hrow
        have hz := hb.size
        have HBW := hide (up hb HB1.out hz1)
        clear hrow
        have kb := HK1.out.below hb HK1.out.lt
        have q0 := kb.at_ (i := 0) rfl
        have q1 := kb.at_ (i := 1) rfl
        clear kb
        by_cases hlt : k < m
        · obtain ⟨b, off, rfl, hbl, hc⟩ := HM.out _ HBW.out (by omega)
          obtain ⟨R1, C1, e1, e2⟩ := hc k hlt
          obtain ⟨l1, l2⟩ := HR.out k hlt
          rw [l1] at e1 e2
          have HD := hide (fun (W : World) (hW : Below wr.heap.size wr W) => dot_any p R1 B (L 0) C1 n1 c1 (M k) g W hp (by omega) (by have := HN1.out; omega) (fun i hi => by
            have a1 := l2 i hi
            have a2 := HG.out i (by have := HN1.out; omega)
            omega) (e2.keep hW hW.size) (HI.out W (up hW HBW.out HBW.out.size)))
          have HS := hide (shL_succ p L M g k)
          have HSF := hide (show dsum (M k) g (L 0) % p = shF p L M g k from rfl)
          clear hc e2 l1 l2
          generalize dsum (M k) g (L 0) % p = y at *
          go_wp2_with fail
          go_region_law (first | (refine step_push_int rfl (.tmp 30) (.tmp 40) rfl (shL p L M g k) rfl (Row.alloc (show Row (wr.drewN (1 + q)) w1.heap.size A' k c' (shL p L M g k) from HRW.out) _) y rfl (heap_alloc_new _ _) (by omega) (Nat.le_trans hz (Nat.le_of_lt (Blk.lt (heap_alloc_new _ _)))) ?_; intro g2 c2 w2 hr2 hb2) | (go_simp; go_at_call 59; refine (HD.out _ (Below.drew (Below.refl _ _))).mono ?_; rintro x _ ⟨rfl, q, rfl⟩))
          all_goals
            have HF := hide (show Row w2 w1.heap.size (some ⟨g2, 0, none⟩) (k + 1) c2 (shL p L M g (k + 1)) ∧ Below w1.heap.size w1 w2 from ⟨by rw [HS.out, ← HSF.out]; exact hr2, ((below_drewN hb (1 + q)).alloc hz _).trans hb2⟩)
            clear hr2 hb2
            go_wp2_with fail
            go_roundw
            case rel => first | exact ⟨k + 1, _, c2, by omega, by go_num, rfl, HF.out.1, HF.out.2⟩ | ((repeat apply Exists.intro); exact ⟨⟨k + 1, _, c2, by omega, by go_num, rfl, HF.out.1, HF.out.2⟩, rfl⟩)
            case measure => simp [intOf]; omega
        · obtain rfl : k = m := by omega
          go_wp2_with fail
          go_ret
          exact ⟨_, _, by rw [HNN.out]; rfl, by rw [HNN.out]; exact HRW.out.mono hz1, HBW.out⟩
end Go.Proofs.Ytcalfblghblhcaa
