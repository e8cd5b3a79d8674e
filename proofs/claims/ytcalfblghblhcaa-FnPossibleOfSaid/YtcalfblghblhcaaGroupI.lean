/-
  Whether a group knows, the program's. Conditions: the scheme is valid and can be read, the group is a number below 32.
-/
import Derived.Test.YtcalfblghblhcaaGroupS
namespace Go.Proofs.Ytcalfblghblhcaa
open Go.RowKit

/-- the indices of a group's rows, as numbers -/
def ownI (f : Nat → Int) (s n : Nat) : List Int := (ownL f s n).map fun i => ((i : Nat) : Int)
theorem ownI_len (f : Nat → Int) (s n : Nat) : (ownI f s n).length = (ownL f s n).length := by simp [ownI]
theorem ownI_at {f : Nat → Int} {s n j : Nat} (h : j < (ownL f s n).length) : (ownI f s n).getD j 0 = (((ownL f s n).getD j 0 : Nat) : Int) := by
  simp [ownI, List.getD, h]

set_option maxHeartbeats 1000000 in
theorem ownedI_any (p : Int) (A O : Option Addr) (n c m e s : Nat) (M : Nat → Nat → Int) (f : Nat → Int) (w : World) (hs : SchV p n m M f) (h32 : s < 32) (h2 : Ints w w.heap.size O n f) :
    Calls Try.prog 53 #[.agg #[.int .i64 p, .slice A n c, .slice O n e], .int .i64 s] w fun e w' => ∃ A' c', e = .returned (.slice A' (ownL f s n).length c') ∧ Row w' w.heap.size A' (ownL f s n).length c' (ownI f s n) ∧ Below w.heap.size w w' := by
  have hn := hs.hn
  obtain ⟨bo, oo, rfl, hbo, hco⟩ := h2 (by omega)
  have HCO := hide hco
  have HOW := hide hs.own
  clear h2 hco hs
  go_enter Try.func53, Try.ntmps53
  go_wp2_with fail
  go_loopw [5, 12] (fun v i wr => ∃ (k : Nat) (A' : Option Addr) (c' : Nat), k ≤ n ∧ i = .int .i64 k ∧ v = .slice A' (ownL f s k).length c' ∧ Row wr (w.heap.size + 1) A' (ownL f s k).length c' (ownI f s k) ∧ Below w.heap.size w wr ∧ w.heap.size + 1 ≤ wr.heap.size) (fun _ i _ => n - (intOf i).toNat)
  case atStart =>
    have hr := Row.lit (w := w.alloc (.cells #[.int .i64 p, .slice A n c, .slice (some ⟨bo, oo, none⟩) n e] 29)) (cs := #[]) (xs := []) (n := 0) (base := w.heap.size + 1) rfl rfl (by simp)
    exact ⟨0, _, _, by omega, rfl, rfl, by rw [World.size_alloc] at hr; exact hr, (below_box _).alloc (by simp) _, by simp⟩
  case round =>
    obtain ⟨k, A', c', hk, rfl, rfl, hrow, hbb, hzz⟩ := hrel
    have HROW := hide hrow
    have HBB := hide hbb
    have hol := ownL_len f s k
    clear hrow hbb
    by_cases hlt : k < n
    · have hkI : (k : Int) < (n : Int) := by omega
      have ho := HOW.out k hlt
      obtain ⟨o, ho1⟩ := Int.eq_ofNat_of_zero_le ho.1
      have x3 := (HBB.out.cell (p := ⟨bo, oo + k, none⟩) hbo).trans (HCO.out k hlt)
      rw [ho1] at x3
      have HS := hide (show ownL f s (k + 1) = ownL f s k ++ if bt s o then [k] else [] by rw [ownL_succ, ho1, Int.toNat_natCast])
      have hbl : bo < wr.heap.size := by omega
      cases hbt : bt s o
      · obtain ⟨f1, f2⟩ := bt_f (show s ≤ 9223372036854775807 by omega) hbt
        rw [hbt] at HS
        clear hbt
        have HE := hide (show ownL f s (k + 1) = ownL f s k by rw [HS.out]; simp)
        have HEI := hide (show ownI f s (k + 1) = ownI f s k by rw [ownI, HE.out]; rfl)
        go_wp2_with fail
        go_roundw
        case rel => first | exact ⟨k + 1, _, _, by omega, by go_num, by rw [HE.out], by rw [HE.out, HEI.out]; exact HROW.out, HBB.out, hzz⟩ | ((repeat apply Exists.intro); exact ⟨⟨k + 1, _, _, by omega, by go_num, by rw [HE.out], by rw [HE.out, HEI.out]; exact HROW.out, HBB.out, hzz⟩, rfl⟩)
        case measure => simp [intOf]; omega
      · obtain ⟨f1, f2⟩ := bt_t (show s ≤ 9223372036854775807 by omega) hbt
        rw [hbt] at HS
        clear hbt
        have HE := hide (show ownL f s (k + 1) = ownL f s k ++ [k] by rw [HS.out]; simp)
        have HEI := hide (show ownI f s (k + 1) = ownI f s k ++ [((k : Nat) : Int)] by rw [ownI, HE.out, List.map_append]; rfl)
        have HEL := hide (show (ownL f s (k + 1)).length = (ownL f s k).length + 1 by rw [HE.out]; simp)
        go_wp2_with (at_builtin; (refine push_int rfl _ _ rfl _ rfl HROW.out ((k : Nat) : Int) _ rfl (by omega) (by omega) ?_; intro A5 c5 w5 hr5 hb5 hg5 hat5; have hz5 := hb5.size; have HX := hide (show _ ∧ _ from ⟨hr5, HBB.out.trans (hb5.mono (by omega))⟩); clear hr5 hb5 hg5 hat5))
        go_roundw
        case rel => first | exact ⟨k + 1, _, _, by omega, by go_num, by rw [HEL.out], by rw [HEL.out, HEI.out]; exact HX.out.1, HX.out.2, by omega⟩ | ((repeat apply Exists.intro); exact ⟨⟨k + 1, _, _, by omega, by go_num, by rw [HEL.out], by rw [HEL.out, HEI.out]; exact HX.out.1, HX.out.2, by omega⟩, rfl⟩)
        case measure => simp [intOf]; omega
    · obtain rfl : k = n := by omega
      go_wp2_with fail
      go_ret
      exact ⟨_, _, rfl, HROW.out.mono (by omega), HBB.out⟩

/-- what factors gives -/
def FacPost (p : Int) (n m s : Nat) (M : Nat → Nat → Int) (f : Nat → Int) (w : World) (e : Ending) (w' : World) : Prop :=
  ∃ A' N c', e = .returned (.tuple #[.slice A' N c', .bool (knB p n m M f s)]) ∧ Below w.heap.size w w' ∧
      (knB p n m M f s = true → N = (ownL f s n).length ∧ ∃ g, solF p (ownL f s n).length m (gR M f s n) unitF = some g ∧ Good p (ownL f s n).length m (gR M f s n) unitF g ∧ Row w' w.heap.size A' (ownL f s n).length c' (listOf (ownL f s n).length g))

set_option maxRecDepth 100000 in
set_option maxHeartbeats 2000000 in
theorem factorsI_any (p : Int) (A O : Option Addr) (n c m e s : Nat) (M : Nat → Nat → Int) (f : Nat → Int) (w : World) (hs : SchV p n m M f) (h32 : s < 32) (h : Mat w w.heap.size A n (fun _ => m) M) (h2 : Ints w w.heap.size O n f) :
    Calls Try.prog 52 #[.agg #[.int .i64 p, .slice A n c, .slice O n e], .int .i64 p, .int .i64 s] w (FacPost p n m s M f w) := by
  have hn := hs.hn
  have hm := hs.hm
  have HSC := hide hs
  have HOW := hide (fun (W : World) (hb : Below w.heap.size w W) => ownedI_any p A O n c m e s M f W hs h32 (h2.keep hb hb.size))
  obtain ⟨b, off, rv, rfl, hb, hr⟩ := h.vals (by omega)
  have HR := hide hr
  have hpb := isP_pos hs.hp
  have hol := ownL_len f s n
  have hmk := run_make_row' (P := Try.prog) 23 3 (.int .i64 0) 8 Try.underlying23 info_int rfl .i64 .i64 m (by omega) (by omega)
  clear h h2 hr hs
  go_enter Try.func52, Try.ntmps52
  go_wp2_with fail
  refine (HOW.out _ ((below_box _).alloc (by simp) _)).mono ?_
  rintro x w1 ⟨A1, c1, rfl, hr1, hb1⟩
  have hsz1 := hb1.size
  simp only [World.size_alloc] at hsz1
  have hb1' : Below ((w.alloc (.cells #[.int .i64 p, .slice (some ⟨b, off, none⟩) n c, .slice O n e] 29)).alloc (.cells #[] 23)).heap.size ((w.alloc (.cells #[.int .i64 p, .slice (some ⟨b, off, none⟩) n c, .slice O n e] 29)).alloc (.cells #[] 23)) w1 := hb1
  have HBX := hide (show Blk w1 w.heap.size 29 #[.int .i64 p, .slice (some ⟨b, off, none⟩) n c, .slice O n e] from ((Blk.new w _ _).alloc _).below hb1' (by simp; omega))
  have HO1 := hide (show OutR w1 (w.heap.size + 1) (some ⟨w.heap.size + 1, 0, none⟩) 0 rv [] from by
    refine OutR.keep (w := (w.alloc (.cells #[.int .i64 p, .slice (some ⟨b, off, none⟩) n c, .slice O n e] 29)).alloc (.cells #[] 23)) ?_ hb1'
    exact ⟨rfl, .inr ⟨w.heap.size + 1, 0, #[], rfl, Nat.le_refl _, by have := heap_alloc_new (w.alloc (.cells #[.int .i64 p, .slice (some ⟨b, off, none⟩) n c, .slice O n e] 29)) (.cells #[] 23); simpa using this, Nat.le_refl _, by unfold maxLen; omega, rfl, rfl⟩⟩)
  have HBW1 := hide (show Below w.heap.size w w1 from up hb1' ((below_box _).alloc (by simp) _) (by simp; omega))
  have HR1 := hide hr1
  clear hr1 hb1 hb1'
  generalize hLL : ownL f s n = l at *
  have HLL := hide hLL
  have HLT := hide (show ∀ j, j < l.length → l.getD j 0 < n from fun j hj => by rw [← hLL] at hj ⊢; exact ownL_lt hj)
  have HAT := hide (show ∀ j, j < l.length → (ownI f s n).getD j 0 = ((l.getD j 0 : Nat) : Int) from fun j hj => by
    have := ownI_at (f := f) (s := s) (n := n) (j := j) (by rw [hLL]; exact hj)
    rwa [hLL] at this)
  clear hLL
  go_wp2_with fail
  go_loopw [8, 17] (fun v i wr => ∃ (j : Nat) (A' : Option Addr) (c' : Nat), j ≤ l.length ∧ i = .int .i64 j ∧ v = .slice A' j c' ∧ OutR wr (w.heap.size + 1) A' c' rv (l.take j) ∧ Below (w.heap.size + 1) w1 wr ∧ Row wr (w.heap.size + 1) A1 l.length c1 (ownI f s n)) (fun _ i _ => l.length - (intOf i).toNat)
  case atStart => exact ⟨0, _, _, by omega, rfl, rfl, by simpa using HO1.out, Below.refl _ _, HR1.out.mono (by simp)⟩
  case round =>
    obtain ⟨j, A', c', hj, rfl, rfl, hout, hbb, hrow⟩ := hrel
    have HOUT := hide hout
    have HBB := hide hbb
    have HROW := hide hrow
    have hzz := hbb.size
    have HBW := hide (show Below w.heap.size w wr from HBW1.out.trans (hbb.mono (by omega)))
    have hbx := HBX.out.below hbb (by omega)
    have x1 := hbx.at_ (i := 1) rfl
    have hbxl := hbx.lt
    have htl : (l.take j).length = j := by rw [List.length_take]; omega
    clear hout hbb hbx
    by_cases hlt : j < l.length
    · obtain ⟨gA, eA, _, _, q3, _, _⟩ := hrow.at_ (i := j) hlt
      subst eA
      rw [HAT.out j hlt] at q3
      have hi := HLT.out j hlt
      have HTK := hide (show l.take (j + 1) = l.take j ++ [l.getD j 0] by rw [List.take_add_one]; simp [List.getD, hlt])
      generalize l.getD j 0 = i at *
      obtain ⟨R1, C1, r1, r2, r3⟩ := HR.out i hi
      have x4 := (HBW.out.cell (p := ⟨b, off + i, none⟩) hb).trans r2
      rw [r1] at x4
      have HR1' := hide r1
      have hiI : (i : Int) < (n : Int) := by omega
      have hiI0 : (0 : Int) ≤ (i : Int) := by omega
      have hjI : (j : Int) < (l.length : Int) := by omega
      have hbl : b < wr.heap.size := by have := HBW.out.size; omega
      clear r1 r2 r3 hrow
      go_wp2_with (at_builtin; (refine push_out rfl _ _ rfl j htl rfl HOUT.out i HR1'.out _ rfl (by omega) (by omega) ?_; intro A5 c5 w5 ho5 hb5 hg5; have HX := hide (show _ ∧ _ ∧ _ from ⟨ho5, HBB.out.trans hb5, HROW.out.kept hg5 (by have := own_ne HROW.out.2 HOUT.out (by decide); rwa [htl] at this)⟩); clear ho5 hb5 hg5))
      go_roundw
      case rel => first | exact ⟨j + 1, _, _, by omega, by go_num, rfl, by rw [HTK.out]; exact HX.out.1, HX.out.2.1, HX.out.2.2⟩ | ((repeat apply Exists.intro); exact ⟨⟨j + 1, _, _, by omega, by go_num, rfl, by rw [HTK.out]; exact HX.out.1, HX.out.2.1, HX.out.2.2⟩, rfl⟩)
      case measure => simp [intOf]; omega
    · have hjl : j = l.length := by omega
      have hge : ¬ (j : Int) < (l.length : Int) := by omega
      have hout2 : OutR wr (w.heap.size + 1) A' c' rv l := by have := HOUT.out; rwa [List.take_of_length_le (by omega)] at this
      have hmat := hout2.mat (b := b) (off := off) (n := n) HBW.out HR.out HLT.out
      obtain ⟨R0, C0, r1, r2, r3⟩ := HR.out 0 (by omega)
      have x4 := (HBW.out.cell (p := ⟨b, off + 0, none⟩) hb).trans r2
      rw [r1] at x4
      simp only [Nat.add_zero] at x4
      have hbl : b < wr.heap.size := by have := HBW.out.size; omega
      have hz := Row.zeros (w := wr) (base := wr.heap.size) m (Nat.le_refl _) (by omega)
      rw [← listOf_zero] at hz
      obtain ⟨b0, e0, _, _, q3, q4, q5⟩ := hz.at_ (i := 0) (by omega)
      obtain rfl : wr.heap.size = b0 := by simpa using e0
      rw [listOf_getD _ (by omega)] at q3
      have hst := q5 1
      rw [listOf_set, World.setCell_alloc_at _ _ _ _ _ rfl] at hst
      have HSL := hide (fun (W : World) (hb : Below wr.heap.size wr W) (hi : Ints W W.heap.size (some ⟨wr.heap.size, 0, none⟩) m unitF) => solveI_any p HSC.out.hp A' (some ⟨wr.heap.size, 0, none⟩) l.length c' m m (gR M f s n) unitF W (by omega) hm (by have := HSC.out.grng s; rwa [HLL.out] at this) (fun k _ => unit_rng HSC.out.hp k) (by have := hmat.keep hb hb.size; rw [show gR M f s n = fun j => M (l.getD j 0) from by funext j; rw [gR, HLL.out]]; exact this) hi)
      have HIN := hide (show Ints (wr.alloc (.cells ((madeCells #[.int .i64 0] m).setIfInBounds 0 (.int .i64 1)) 3)) (wr.heap.size + 1) (some ⟨wr.heap.size, 0, none⟩) m unitF from by
        have := hst.ints.congr (g := unitF) (fun i hi => listOf_getD _ hi)
        simpa using this)
      rw [← hjl] at HSL
      have HJL := hide hjl
      clear hst q5 e0 hz hout2 hmat r1 r2 r3 hrow hjl
      go_wp2_with fail
      with_reducible refine (HSL.out _ ?hb1 ?hb2).mono ?_
      case hb1 => go_grown
      case hb2 => have := HIN.out; simpa using this
      rintro x w2 hsol
      rw [HJL.out, ← HLL.out] at hsol
      obtain ⟨A5, N5, c5, rfl, hb5, h5⟩ := sol_kn HSC.out.hp hsol
      have HF := hide (show Below w.heap.size w w2 from up hb5 (HBW.out.alloc HBW.out.size _) (by simp; have := HBW.out.size; omega))
      have H5 := hide h5
      have hz5 : w.heap.size ≤ (wr.alloc (.cells ((madeCells #[.int .i64 0] m).setIfInBounds 0 (.int .i64 1)) 3)).heap.size := by simp; have := HBW.out.size; omega
      clear hb5 h5
      go_wp2_with fail
      go_ret2
      refine ⟨_, _, _, rfl, HF.out, fun hk => ?_⟩
      obtain ⟨k1, g, k2, k3, k4⟩ := H5.out hk
      exact ⟨k1, g, k2, k3, k4.mono hz5⟩
end Go.Proofs.Ytcalfblghblhcaa
