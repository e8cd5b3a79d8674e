/-
  Whether a group knows, the reference's. Conditions: the scheme is valid and can be read, the group is a number below 32.
-/
import Derived.Test.YtcalfblghblhcaaGroup
import Derived.Deep.RegionHeld3
namespace Go.Proofs.Ytcalfblghblhcaa
open Go.RowKit

/-- what holds of a valid scheme -/
structure SchV (p : Int) (n m : Nat) (M : Nat → Nat → Int) (f : Nat → Int) : Prop where
  hp : isP p = true
  hn : 1 ≤ n ∧ n ≤ 6
  hm : 1 ≤ m ∧ m ≤ 7
  rng : ∀ i, i < n → ∀ k, k < m → 0 ≤ M i k ∧ M i k < p
  own : ∀ i, i < n → 0 ≤ f i ∧ f i ≤ 4
theorem SchV.grng {p : Int} {n m : Nat} {M : Nat → Nat → Int} {f : Nat → Int} (h : SchV p n m M f) (s : Nat) : ∀ j, j < (ownL f s n).length → ∀ k, k < m → 0 ≤ gR M f s n j k ∧ gR M f s n j k < p := fun j hj k hk => h.rng _ (ownL_lt hj) k hk
theorem unit_rng {p : Int} (hp : isP p = true) (k : Nat) : 0 ≤ unitF k ∧ unitF k < p := by
  have := isP_pos hp
  unfold unitF; split <;> omega

set_option maxHeartbeats 1000000 in
theorem ownedS_any (p : Int) (A O : Option Addr) (n c m e s : Nat) (M : Nat → Nat → Int) (f : Nat → Int) (w : World) (hs : SchV p n m M f) (h32 : s < 32) (h : Mat w w.heap.size A n (fun _ => m) M) (h2 : Ints w w.heap.size O n f) :
    Calls Try.prog 47 #[.agg #[.int .i64 p, .slice A n c, .slice O n e], .int .i64 s] w fun e w' => ∃ A' c', e = .returned (.slice A' (ownL f s n).length c') ∧ Mat w' w'.heap.size A' (ownL f s n).length (fun _ => m) (gR M f s n) ∧ Below w.heap.size w w' := by
  have hn := hs.hn
  obtain ⟨b, off, rv, rfl, hb, hr⟩ := h.vals (by omega)
  obtain ⟨bo, oo, rfl, hbo, hco⟩ := h2 (by omega)
  have HR := hide hr
  have HCO := hide hco
  have HOW := hide hs.own
  clear h h2 hr hco hs
  go_enter Try.func47, Try.ntmps47
  go_wp2_with fail
  go_loopw [5, 6] (fun v i wr => ∃ (k : Nat) (A' : Option Addr) (c' : Nat), k ≤ n ∧ i = .int .i64 k ∧ v = .slice A' (ownL f s k).length c' ∧ OutR wr (w.heap.size + 1) A' c' rv (ownL f s k) ∧ Below (w.heap.size + 1) (w.alloc (.cells #[.int .i64 p, .slice (some ⟨b, off, none⟩) n c, .slice (some ⟨bo, oo, none⟩) n e] 29)) wr) (fun _ i _ => n - (intOf i).toNat)
  case atStart =>
    refine ⟨0, _, _, by omega, rfl, rfl, ?_, (Below.refl _ _).alloc (by simp) _⟩
    exact ⟨rfl, .inr ⟨w.heap.size + 1, 0, #[], rfl, Nat.le_refl _, by have := heap_alloc_new (w.alloc (.cells #[.int .i64 p, .slice (some ⟨b, off, none⟩) n c, .slice (some ⟨bo, oo, none⟩) n e] 29)) (.cells #[] 23); simpa using this, Nat.le_refl _, by unfold maxLen; omega, rfl, rfl⟩⟩
  case round =>
    obtain ⟨k, A', c', hk, rfl, rfl, hout, hbb⟩ := hrel
    have HOUT := hide hout
    have HBB := hide hbb
    have hzz := hbb.size
    simp only [World.size_alloc] at hzz
    have HBW := hide (show Below w.heap.size w wr from (below_box (w := w) _).trans (hbb.mono (by omega)))
    have x1 := (hbb.cell (p := ⟨w.heap.size, 1, none⟩) (by simp)).trans (show _ = some (.slice (some ⟨b, off, none⟩) n c) by simp)
    have x2 := (hbb.cell (p := ⟨w.heap.size, 2, none⟩) (by simp)).trans (show _ = some (.slice (some ⟨bo, oo, none⟩) n e) by simp)
    have hol := ownL_len f s k
    clear hout hbb
    by_cases hlt : k < n
    · have hkI : (k : Int) < (n : Int) := by omega
      obtain ⟨R1, C1, r1, r2, r3⟩ := HR.out k hlt
      have ho := HOW.out k hlt
      obtain ⟨o, ho1⟩ := Int.eq_ofNat_of_zero_le ho.1
      have x3 := (HBW.out.cell (p := ⟨bo, oo + k, none⟩) hbo).trans (HCO.out k hlt)
      have x4 := (HBW.out.cell (p := ⟨b, off + k, none⟩) hb).trans r2
      rw [ho1] at x3
      rw [r1] at x4
      have HS := hide (show ownL f s (k + 1) = ownL f s k ++ if bt s o then [k] else [] by rw [ownL_succ, ho1, Int.toNat_natCast])
      have HR1 := hide r1
      have hbl : b < wr.heap.size := by omega
      clear r2 r3
      cases hbt : bt s o
      · have HBT := hide (fun W => bitS_f s o W (by omega) (by omega) hbt)
        rw [hbt] at HS
        clear hbt r1
        have HE := hide (show ownL f s (k + 1) = ownL f s k by rw [HS.out]; simp)
        go_wp2_with fail
        refine (HBT.out _).mono ?_
        rintro e _ ⟨rfl, rfl⟩
        go_wp2_with fail
        go_roundw
        case rel => first | exact ⟨k + 1, _, _, by omega, by go_num, by rw [HE.out], by rw [HE.out]; exact HOUT.out, HBB.out⟩ | ((repeat apply Exists.intro); exact ⟨⟨k + 1, _, _, by omega, by go_num, by rw [HE.out], by rw [HE.out]; exact HOUT.out, HBB.out⟩, rfl⟩)
        case measure => simp [intOf]; omega
      · have HBT := hide (fun W => bitS_t s o W (by omega) (by omega) hbt)
        rw [hbt] at HS
        clear hbt r1
        have HE := hide (show ownL f s (k + 1) = ownL f s k ++ [k] by rw [HS.out]; simp)
        have HEL := hide (show (ownL f s (k + 1)).length = (ownL f s k).length + 1 by rw [HE.out]; simp)
        go_wp2_with fail
        refine (HBT.out _).mono ?_
        rintro e _ ⟨rfl, rfl⟩
        go_wp2_with (at_builtin; (refine push_out rfl _ _ rfl _ rfl rfl HOUT.out k HR1.out _ rfl (by omega) (by omega) ?_; intro A5 c5 w5 ho5 hb5 hg5; have HX := hide (show _ ∧ _ from ⟨ho5, HBB.out.trans hb5⟩); clear ho5 hb5 hg5))
        go_roundw
        case rel => first | exact ⟨k + 1, _, _, by omega, by go_num, by rw [HEL.out], by rw [HE.out]; exact HX.out.1, HX.out.2⟩ | ((repeat apply Exists.intro); exact ⟨⟨k + 1, _, _, by omega, by go_num, by rw [HEL.out], by rw [HE.out]; exact HX.out.1, HX.out.2⟩, rfl⟩)
        case measure => simp [intOf]; omega
    · obtain rfl : k = n := by omega
      have HMM := hide (HOUT.out.mat (b := b) (off := off) (n := k) HBW.out HR.out (fun j hj => ownL_lt hj))
      go_wp2_with fail
      go_ret
      exact ⟨_, _, rfl, HMM.out, HBW.out⟩

theorem unit_any (n : Nat) (w : World) (hn : 1 ≤ n ∧ n ≤ 7) :
    Calls Try.prog 49 #[.int .i64 n] w fun e w' => e = .returned (.slice (some ⟨w.heap.size, 0, none⟩) n n) ∧ Ints w' w'.heap.size (some ⟨w.heap.size, 0, none⟩) n unitF ∧ Below w.heap.size w w' := by
  have hmk := run_make_row' (P := Try.prog) 23 3 (.int .i64 0) 8 Try.underlying23 info_int rfl .i64 .i64 n (by omega) (by omega)
  have hz := Row.zeros (w := w) (base := w.heap.size) n (Nat.le_refl _) (by omega)
  rw [← listOf_zero] at hz
  obtain ⟨b0, e0, _, _, q3, q4, q5⟩ := hz.at_ (i := 0) (by omega)
  obtain rfl : w.heap.size = b0 := by simpa using e0
  rw [listOf_getD _ (by omega)] at q3
  have hs := q5 1
  rw [listOf_set] at hs
  have HS := hide (show Row ((w.alloc (.cells (madeCells #[.int .i64 0] n) 3)).setCell ⟨w.heap.size, 0, none⟩ (.int .i64 1)) w.heap.size (some ⟨w.heap.size, 0, none⟩) n n (listOf n unitF) from hs)
  clear hs q5 e0 hz
  have hst := HS.out
  rw [World.setCell_alloc_at _ _ _ _ _ rfl] at hst
  have HST := hide hst
  clear hst
  go_enter Try.func49, Try.ntmps49
  go_wp2_with fail
  go_ret
  exact ⟨rfl, HST.out.ints.congr (fun i hi => listOf_getD _ hi), below_box _⟩

set_option maxRecDepth 100000 in
set_option maxHeartbeats 1000000 in
theorem knowsS_any (p : Int) (A O : Option Addr) (n c m e s : Nat) (M : Nat → Nat → Int) (f : Nat → Int) (w : World) (hs : SchV p n m M f) (h32 : s < 32) (h : Mat w w.heap.size A n (fun _ => m) M) (h2 : Ints w w.heap.size O n f) :
    Calls Try.prog 46 #[.agg #[.int .i64 p, .slice A n c, .slice O n e], .int .i64 s] w fun e w' => e = .returned (.bool (knB p n m M f s)) ∧ Below w.heap.size w w' := by
  have HSC := hide hs
  have hm := hs.hm
  have hn := hs.hn
  have HOW := hide (fun (W : World) (hb : Below w.heap.size w W) => ownedS_any p A O n c m e s M f W hs h32 (h.keep hb hb.size) (h2.keep hb hb.size))
  have hpb := isP_pos hs.hp
  clear h h2 hs
  go_enter Try.func46, Try.ntmps46
  go_wp2_with fail
  refine (HOW.out _ (below_box _)).mono ?_
  rintro e w1 ⟨A1, c1, rfl, hm1, hb1⟩
  obtain ⟨hbw, hbox⟩ := box_plain hb1
  have x0 := hbox.at_ (i := 0) rfl
  have HM1 := hide hm1
  have HBW := hide hbw
  have hgl := ownL_len f s n
  have hbl := hbox.lt
  clear hm1 hb1 hbw hbox
  by_cases h0 : (ownL f s n).length = 0
  · have HK := hide (kn_zero (M := M) HSC.out.hp hm.1 h0)
    rw [h0]
    go_wp2_with fail
    go_ret
    exact ⟨ret_bool HK.out.symm, HBW.out⟩
  obtain ⟨g1, og, rfl, hg1, hcg⟩ := HM1.out (by omega)
  obtain ⟨R0, C0, r0, _⟩ := hcg 0 (by omega)
  simp only [Nat.add_zero] at r0
  have HUN := hide (fun (W : World) => unit_any m W hm)
  have HSL := hide (fun (W : World) (B : Option Addr) (d : Nat) (hb : Below w1.heap.size w1 W) (hi : Ints W W.heap.size B m unitF) => solveS_any p HSC.out.hp (some ⟨g1, og, none⟩) B (ownL f s n).length c1 m d (gR M f s n) unitF W ⟨by omega, by omega⟩ hm (HSC.out.grng s) (fun k _ => unit_rng HSC.out.hp k) (HM1.out.keep hb hb.size) hi)
  have hne : (((ownL f s n).length : Int) == 0) = false := by simp; exact fun h => h0 (by rw [h]; rfl)
  have h0p : 0 < (ownL f s n).length := by omega
  have h0I : (0 : Int) < ((ownL f s n).length : Int) := by omega
  clear hcg h0
  generalize hLL : (ownL f s n).length = q at *
  have HLL := hide hLL
  clear hLL
  go_wp2_with fail
  go_region_held3 (fun w' => w'.cell? ⟨w.heap.size, 0, none⟩ = some (.int .i64 p) ∧ w'.cell? ⟨g1, og, none⟩ = some (.slice R0 m C0)) (first | exact ⟨x0, r0⟩ | exact ⟨y0, y1⟩ | exact ⟨z0, z1⟩) (first | (go_at_call 49; refine (HUN.out _).mono ?_; rintro e wu ⟨rfl, hiu, hbu⟩; have hbu1 : Below w1.heap.size w1 wu := (by first | exact hbu | exact up hbu (Below.refl w1.heap.size w1).drew (Nat.le_refl _)); have y0 := (hbu1.cell (p := ⟨w.heap.size, 0, none⟩) hbl).trans x0; have y1 := (hbu1.cell (p := ⟨g1, og, none⟩) hg1).trans r0) | (go_at_call 48; refine (HSL.out _ _ _ hbu1 hiu).mono ?_; rintro e wv hsol; rw [← HLL.out] at hsol; obtain ⟨A5, N5, c5, rfl, hb5, _⟩ := sol_kn HSC.out.hp hsol; have z0 := (hb5.cell (p := ⟨w.heap.size, 0, none⟩) (show w.heap.size < wu.heap.size by have := hbu1.size; omega)).trans y0; have z1 := (hb5.cell (p := ⟨g1, og, none⟩) (show g1 < wu.heap.size by have := hbu1.size; omega)).trans y1))
  have HF := hide (up hb5 (up hbu1 HBW.out HBW.out.size) (by have := (up hbu1 HBW.out HBW.out.size).size; exact this))
  go_wp2_with fail
  go_ret
  exact ⟨rfl, HF.out⟩

/-- a valid scheme, by what is asked of it -/
theorem vSch_sch {p : Int} {n m : Nat} {L : Nat → Nat} {M : Nat → Nat → Int} {f : Nat → Int} (h : vSch p n L M m f = true) : SchV p n (L 0) M f ∧ m = n ∧ ∀ i, i < n → L i = L 0 := by
  obtain ⟨h1, h2, h3⟩ := vSch_true.1 h
  obtain ⟨hp, hn, hl, hr⟩ := vTab_rows h1
  refine ⟨⟨hp, hn, hl, fun i hi k hk => (hr i hi).2 k hk, fun i hi => ?_⟩, h2, fun i hi => (hr i hi).1⟩
  have := noneB_true.1 h3 i (by omega)
  simp only [badO, Bool.not_eq_false', inR_true] at this
  omega
/-- DoesKnow -/
noncomputable def dkV (p : Int) (n : Nat) (L : Nat → Nat) (M : Nat → Nat → Int) (m : Nat) (f : Nat → Int) (s : Int) : Bool := vSch p n L M m f && (inR s 0 31 && knB p n (L 0) M f s.toNat)

set_option maxHeartbeats 1000000 in
theorem DoesKnowS_any (p : Int) (A : Option Addr) (n c : Nat) (L : Nat → Nat) (M : Nat → Nat → Int) (O : Option Addr) (m e : Nat) (f : Nat → Int) (s : Int) (w : World) (hn : n ≤ 1048576) (hL : ∀ i, i < n → L i ≤ 1048576) (hm : m ≤ 1048576) (h : Mat w w.heap.size A n L M) (h2 : Ints w w.heap.size O m f) :
    Calls Try.prog 28 #[.agg #[.int .i64 p, .slice A n c, .slice O m e], .int .i64 s] w fun e w' => e = .returned (.bool (dkV p n L M m f s)) ∧ Below w.heap.size w w' := by
  have HV := hide (fun (W : World) (hb : Below w.heap.size w W) => validSchemeS_any p A O n c m e L M f W (by omega) (fun i hi => Nat.le_trans (hL i hi) (by omega)) (by omega) (h.keep hb hb.size) (h2.keep hb hb.size))
  cases hv : vSch p n L M m f
  · refine calls_bool (a := false) (by simp [dkV, hv]) ?_
    rw [hv] at HV
    clear hL h h2 hv
    go_enter Try.func28, Try.ntmps28
    go_wp2_with fail
    refine (HV.out _ (below_box _)).mono ?_
    rintro x w1 ⟨rfl, hb1⟩
    have HB := hide (box_plain hb1).1
    clear hb1
    go_wp2_with fail
    go_ret
    exact ⟨rfl, HB.out⟩
  obtain ⟨hsc, rfl, hle⟩ := vSch_sch hv
  have HPW := hide (fun (W : World) => powerS_any 5 W (by omega))
  have HIN := hide (fun (W : World) => inRange_any s 0 31 W)
  cases hi : inR s 0 31
  · refine calls_bool (a := false) (by simp [dkV, hi]) ?_
    rw [hv] at HV
    rw [hi] at HIN
    clear hL h h2 hv hi hsc hle
    go_enter Try.func28, Try.ntmps28
    go_wp2_with fail
    refine (HV.out _ (below_box _)).mono ?_
    rintro x w1 ⟨rfl, hb1⟩
    have HB := hide (box_plain hb1).1
    clear hb1
    go_wp2_with fail
    refine (HPW.out _).mono ?_
    rintro x _ ⟨rfl, rfl⟩
    go_wp2_with fail
    refine (HIN.out _).mono ?_
    rintro x _ ⟨rfl, rfl⟩
    go_wp2_with fail
    go_ret
    exact ⟨rfl, HB.out⟩
  have hir := inR_true.1 hi
  obtain ⟨t, rfl⟩ := Int.eq_ofNat_of_zero_le hir.1
  have hm2 := h.const hle
  have HKN := hide (fun (W : World) (hb : Below w.heap.size w W) => knowsS_any p A O m c (L 0) e t M f W hsc (by omega) (hm2.keep hb hb.size) (h2.keep hb hb.size))
  refine calls_bool (a := knB p m (L 0) M f t) (by simp [dkV, hv, hi]) ?_
  rw [hv] at HV
  rw [hi] at HIN
  clear hL h h2 hv hi hsc hle hm2
  go_enter Try.func28, Try.ntmps28
  go_wp2_with fail
  refine (HV.out _ (below_box _)).mono ?_
  rintro x w1 ⟨rfl, hb1⟩
  obtain ⟨hbw, hbox⟩ := box_plain hb1
  have x0 := hbox.at_ (i := 0) rfl
  have x1 := hbox.at_ (i := 1) rfl
  have x2 := hbox.at_ (i := 2) rfl
  have HB := hide hbw
  have hbl := hbox.lt
  clear hb1 hbw hbox
  go_wp2_with fail
  refine (HPW.out _).mono ?_
  rintro x _ ⟨rfl, rfl⟩
  go_wp2_with fail
  refine (HIN.out _).mono ?_
  rintro x _ ⟨rfl, rfl⟩
  go_wp2_with fail
  refine (HKN.out _ HB.out).mono ?_
  rintro x w2 ⟨rfl, hb2⟩
  have HF := hide (up hb2 HB.out HB.out.size)
  clear hb2
  go_wp2_with fail
  go_ret
  exact ⟨rfl, HF.out⟩
end Go.Proofs.Ytcalfblghblhcaa
