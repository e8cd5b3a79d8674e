/-
  FnSharesOf returns true for all arguments. Conditions: none.
  FnSharesOf returns true for every code: the walk. Conditions: none.
-/
import Derived.Test.YtcalfblghblhcaaShDraw
import Derived.Test.YtcalfblghblhcaaGroups
import Derived.Test.YtcalfblghblhcaaSecLaw
import Derived.Test.YtcalfblghblhcaaSecretI
import Derived.Test.YtcalfblghblhcaaSharesS
import Derived.Test.YtcalfblghblhcaaLawHelp
namespace Go.Proofs.Ytcalfblghblhcaa
open Go.RowKit

theorem shL_at {p : Int} {L : Nat → Nat} {M : Nat → Nat → Int} {g : Nat → Int} {k i : Nat} (h : i < k) : (shL p L M g k).getD i 0 = shF p L M g i := by simp [shL, List.getD, h]
set_option maxHeartbeats 2000000 in
theorem fnSharesOf_walk (a : Option Addr) (len cap : Nat) (zs : List Int) (w : World) (h : IsRow .u8 w a len cap zs) :
    Calls Try.prog 9 #[.slice a len cap] w fun e w' => e = .returned (.bool true) ∧ Below w.heap.size w w' := by
  have hlen : len ≤ 9223372036854775807 := by obtain ⟨h1, h2, _⟩ := bytes_in h; unfold maxLen at h2; omega
  have Hh := hide h
  clear h
  by_cases hl : 1048576 < len
  · go_enter Try.func9, Try.ntmps9
    go_wp2_with fail
    go_ret
    exact ⟨rfl, by go_grown⟩
  go_enter Try.func9, Try.ntmps9
  go_wp2_with fail
  refine (DrawSharesOf_any a len cap zs w _ Hh.out (by go_grown)).mono ?_
  rintro e w1 ⟨p, A, n, c, O, m, d, L, M, f, B, nB, cB, xs, rfl, ⟨⟨hn1, hnm⟩, ⟨⟨hp, hn6, hm7, hL⟩, _, hmat, hint⟩, B1⟩, hrow, hnB⟩
  have HM := hide (fun (W : World) (hb : Below w1.heap.size w1 W) => hmat.mat.keep hb hb.size)
  have HI := hide (fun (W : World) (hb : Below w1.heap.size w1 W) => hint.ints.keep hb hb.size)
  have HLI := hide (fun (W : World) (hb : Below w1.heap.size w1 W) => (hrow.keep hb).ints)
  have HL := hide (fun i (hi : i < n) => Nat.le_trans (hL i hi).2 (show 4 ≤ 1048576 by omega))
  have HL1 := hide (fun i (hi : i < n) => (hL i hi).1)
  clear hmat hint hL hp hrow
  generalize (fun i => xs.getD i 0) = g at HLI
  have I := hide (fun W hb => SharesOfI_any p A n c L M O m d f B nB cB g W (by omega) HL.out (by omega) (HM.out W hb) (HI.out W hb) (by omega) (HLI.out W hb))
  have S := hide (fun W hb => SharesOfS_any p A n c L M O m d f B nB cB g W (by omega) HL.out (by omega) (HM.out W hb) (HI.out W hb) (by omega) (HLI.out W hb))
  have G := hide (fun W hb => GroupsOfI_any p A n c L M O m d f W (by omega) HL.out (by omega) (HM.out W hb) (HI.out W hb))
  have SEC := hide (fun W hb (sh : Nat → Int) (D : Option Addr) (nd cd : Nat) (s : Int) (hnd : nd ≤ 1048576) (hd : Ints W W.heap.size D nd sh) => SecretOfI_any p A n c L M O m d f D nd cd sh s W (by omega) HL.out (by omega) (HM.out W hb) (HI.out W hb) hnd hd)
  have HB1 := hide B1
  have z1 := B1.size
  clear B1
  have BX := hide (fun (W : World) (hb : Below (w1.alloc (.cells #[.int .i64 p, .slice A n c, .slice O m d] 29)).heap.size (w1.alloc (.cells #[.int .i64 p, .slice A n c, .slice O m d] 29)) W) => box_plain hb)
  have HNN := hide (show shIn p n L M m f nB g = true ∧ shN p n L M m f nB g = n ∨ shIn p n L M m f nB g = false ∧ shN p n L M m f nB g = 0 by
    cases h : shIn p n L M m f nB g
    · exact .inr ⟨rfl, by simp [shN, h]⟩
    · exact .inl ⟨rfl, by simp [shN, h]⟩)
  have hNb : shN p n L M m f nB g ≤ 6 := by rcases HNN.out with h | h <;> omega
  generalize hNe : shN p n L M m f nB g = N at *
  have HNe := hide hNe
  clear hNe
  go_wp2_with fail
  refine (I.out _ (below_box _)).mono ?_
  rintro e w2 ⟨R1, k1, rfl, t1, hb2⟩
  rw [HNe.out] at t1 ⊢
  obtain ⟨b2, k2⟩ := BX.out _ hb2
  have x0 := k2.at_ (i := 0) rfl
  have x1 := k2.at_ (i := 1) rfl
  have x2 := k2.at_ (i := 2) rfl
  have K2 := hide k2
  have B2 := hide b2
  have T2 := hide t1
  clear k2 b2 hb2 t1
  go_wp2_with fail
  refine (S.out _ B2.out).mono ?_
  rintro e w3 ⟨R2, c2, rfl, t3, hb3⟩
  rw [HNe.out] at t3 ⊢
  clear x0 x1 x2
  have k3 := K2.out.below hb3 K2.out.lt
  have x0 := k3.at_ (i := 0) rfl
  have x1 := k3.at_ (i := 1) rfl
  have x2 := k3.at_ (i := 2) rfl
  have K3 := hide k3
  have B3 := hide (up hb3 B2.out B2.out.size)
  have T3 := hide (T2.out.keep hb3)
  have E1 := hide (equalInts_b R1 R2 N k1 c2 (fun i => (shL p L M g N).getD i 0) w3 (by omega) T3.out.ints t3.ints)
  clear k3 hb3 t3 T2
  go_wp2_with fail
  refine (E1.out).mono ?_
  rintro e w4 ⟨rfl, hb4⟩
  clear x0 x1 x2
  have k4 := K3.out.below hb4 K3.out.lt
  have x0 := k4.at_ (i := 0) rfl
  have x1 := k4.at_ (i := 1) rfl
  have x2 := k4.at_ (i := 2) rfl
  have K4 := hide k4
  have B4 := hide (up hb4 B3.out B3.out.size)
  have T4 := hide (T3.out.keep hb4)
  clear k4 hb4 T3 E1
  by_cases h0 : N = 0
  · subst h0
    go_wp2_with fail
    refine (S.out _ B4.out).mono ?_
    rintro e w5 ⟨R3, c3, rfl, t5, hb5⟩
    rw [HNe.out] at t5 ⊢
    have E2 := hide (equalInts_b R1 R3 0 k1 c3 (fun i => (shL p L M g 0).getD i 0) w5 (by omega) (T4.out.keep hb5).ints t5.ints)
    have B5 := hide (up hb5 B4.out B4.out.size)
    clear t5 hb5
    go_wp2_with fail
    refine (E2.out).mono ?_
    rintro e w6 ⟨rfl, hb6⟩
    go_wp2_with fail
    go_ret
    exact ⟨rfl, up (up hb6 B5.out B5.out.size) HB1.out z1⟩
  obtain ⟨hin, rfl⟩ : shIn p n L M m f nB g = true ∧ N = n := by
    rcases HNN.out with h | h
    · exact h
    · exact absurd h.2 h0
  have hN0 : ((N : Int) == 0) = false := by simp; omega
  simp only [shIn, Bool.and_eq_true, decide_eq_true_eq] at hin
  obtain ⟨hv, hnb, hgall⟩ := hin
  have hg := fun i (hi : i < L 0) => allR_bd hgall i (by omega)
  have hL0 := HL1.out 0 (by omega)
  have hnB1 : 0 < nB := by omega
  have HV := hide hv
  have HSS := hide (fun (s : Nat) (hs : s < 32) (hk : knB p N (L 0) M f s = true) => sec_share (sh := fun i => (shL p L M g N).getD i 0) hv (fun i hi => by have := hg i hi; omega) (fun i hi => shL_at hi) hs hk)
  clear hv hnb hgall hg HNe HNN
  go_wp2_with fail
  refine (G.out _ B4.out).mono ?_
  rintro e w5 ⟨GA, GN, GC, rfl, hb5, hgr⟩
  clear x0 x1 x2
  have k5 := K4.out.below hb5 K4.out.lt
  have K5 := hide k5
  have B5 := hide (up hb5 B4.out B4.out.size)
  have T5 := hide (T4.out.keep hb5)
  obtain ⟨hGN, hGI⟩ := hgr HV.out
  have hlt0 := fun j (hj : j < (lst (knB p N (L 0) M f) 192).length) => lst_mem (lst_at hj)
  have hGL := lst_len (knB p N (L 0) M f) 192
  rw [← hGN] at hlt0 hGL
  obtain ⟨LT, hLT⟩ : ∃ LT : Nat → Nat, ∀ j, LT j = (lst (knB p N (L 0) M f) 192).getD j 0 := ⟨_, fun _ => rfl⟩
  simp only [← hLT] at hlt0 hGI
  have HLT2 := hide hlt0
  have HGI2 := hide hGI
  clear k5 hb5 hgr hGN hGI hlt0 hLT
  go_wp2_with fail
  go_loopw [7] (fun i wr => ∃ j : Nat, j ≤ GN ∧ i = .int .i64 j ∧ Below w5.heap.size w5 wr) (fun i _ => GN - (intOf i).toNat)
  case atStart => exact ⟨0, by omega, rfl, Below.refl _ _⟩
  case round =>
    obtain ⟨j, hj, rfl, hb⟩ := hrel
    obtain ⟨wo, rfl⟩ : ∃ q, q = wr := ⟨_, rfl⟩
    have HB := hide hb
    have hzo := hb.size
    have kx := K5.out.below hb K5.out.lt
    have x0 := kx.at_ (i := 0) rfl
    have x1 := kx.at_ (i := 1) rfl
    have x2 := kx.at_ (i := 2) rfl
    have lx := kx.lt
    have KX := hide kx
    clear kx hb
    by_cases hlt : j < GN
    · obtain ⟨bg, og, rfl, hbg, hcg⟩ := HGI2.out (by omega)
      have x3 : wo.cell? ⟨bg, og + j, none⟩ = some (.int .i64 ((LT j : Nat) : Int)) := (HB.out.cell (p := ⟨bg, og + j, none⟩) hbg).trans (hcg j hlt)
      obtain ⟨hs32, hsk⟩ := HLT2.out j hlt
      obtain ⟨e1, e2⟩ := HSS.out _ hs32 hsk
      have hjI : (j : Int) < (GN : Int) := by omega
      have hjI0 : (0 : Int) ≤ (j : Int) := by omega
      have hbgl : bg < wo.heap.size := by omega
      have HSC := hide (fun (W : World) (hb : Below wo.heap.size wo W) => (show Calls Try.prog 15 #[.agg #[.int .i64 p, .slice A N c, .slice O m d], .slice R1 N k1, .int .i64 ((LT j : Nat) : Int)] W fun e w' => e = .returned (.tuple #[.int .i64 (g 0), .bool true]) ∧ Below W.heap.size W w' from by
        have h1 := SEC.out W (up hb (up HB.out B5.out B5.out.size) (up HB.out B5.out B5.out.size).size) (fun i => (shL p L M g N).getD i 0) R1 N k1 ((LT j : Nat) : Int) (by omega) ((T5.out.keep HB.out).keep hb).ints
        rw [← e2, ← e1]
        exact h1))
      obtain ⟨bl, ol, rfl, hbl, hcl⟩ := HLI.out wo (up HB.out B5.out B5.out.size) hnB1
      have x4 := hcl 0 hnB1
      simp only [Nat.add_zero] at x4
      clear hcg hcl e1 e2 hsk
      generalize LT j = y at *
      generalize hg0 : g 0 = g0 at *
      have HG0 := hide hg0
      clear hg0
      have hgg : (g0 != g0) = false := by simp
      go_wp2_with fail
      go_region_held3 (fun w' => w'.cell? ⟨w1.heap.size, 0, none⟩ = some (.int .i64 p) ∧ w'.cell? ⟨w1.heap.size, 1, none⟩ = some (.slice A N c) ∧ w'.cell? ⟨w1.heap.size, 2, none⟩ = some (.slice O m d) ∧ w'.cell? ⟨bg, og + j, none⟩ = some (.int .i64 (y : Nat))) (first | exact ⟨x0, x1, x2, x3⟩ | exact ⟨y0, y1, y2, y3⟩) (first | (go_at_call 15; refine (HSC.out _ (by first | exact Below.refl _ _ | exact (Below.refl _ _).drew | exact below_drewN (Below.refl _ _) _)).mono ?_; rintro e w7 ⟨rfl, hb7⟩; have hb67 : Below wo.heap.size wo w7 := (by first | exact hb7 | exact up hb7 (Below.refl wo.heap.size wo).drew (Nat.le_refl _) | exact up hb7 (below_drewN (Below.refl wo.heap.size wo) _) (Nat.le_refl _)); have y0 := (hb67.cell (p := ⟨w1.heap.size, 0, none⟩) lx).trans x0; have y1 := (hb67.cell (p := ⟨w1.heap.size, 1, none⟩) lx).trans x1; have y2 := (hb67.cell (p := ⟨w1.heap.size, 2, none⟩) lx).trans x2; have y3 := (hb67.cell (p := ⟨bg, og + j, none⟩) hbgl).trans x3))
      have HF7 := hide (up hb67 HB.out hzo)
      have y4 := (hb67.cell (p := ⟨bl, ol, none⟩) hbl).trans x4
      have hbl7 : bl < w7.heap.size := by have := hb67.size; omega
      clear x0 x1 x2 x3 x4 y0 y1 y2 y3 hb67 hb7
      go_wp2_with fail
      go_roundw
      case rel => first | exact ⟨j + 1, by omega, by go_num, HF7.out⟩ | ((repeat apply Exists.intro); exact ⟨⟨j + 1, by omega, by go_num, HF7.out⟩, rfl⟩)
      case measure => simp [intOf]; omega
    · have hge : ¬ (j : Int) < (GN : Int) := by omega
      have hNN : ((N : Int) == (N : Int)) = true := by simp
      go_wp2_with fail
      go_ret
      exact ⟨rfl, up (up HB.out B5.out B5.out.size) HB1.out z1⟩
end Go.Proofs.Ytcalfblghblhcaa
namespace Go.Proofs.Ytcalfblghblhcaa
open Go.ChangeShapes Go.WideShapes Go.ChangeAt Go.RowKit
theorem laidOut : laidOutB Try.prog = true := by kernel_rfl

set_option maxRecDepth 100000 in
theorem fnSharesOf_lifted (os : Os) (started : os.Started) (H : Type) (enc : TypeId × Value → H) :
    ReturnsInHanded {} Try.checked os 9 .any (Rows.fnSharesOfSpec.pre6 enc Try.prog Try.f9 Rows.fnSharesOfRow.domain false) (Rows.fnSharesOfSpec.post enc Try.prog Try.f9 false true false false) := by
  refine returnsInHanded_of_change (C := Try.checked) (by kernel_rfl : ownKnob Try.prog.godebug = none) started (by kernel_rfl) Try.func9
    (ChangeSpec.witness6 (enc := enc) (C := Try.checked) false ⟨#[], #[.slice none 0 0], []⟩ 8 (by kernel_rfl) (by kernel_rfl) (by kernel_rfl) (by kernel_rfl)) ?_
  intro W base args ds gs before hval0 hW hcnd _
  have hval : ∀ (j : Nat) t v, Try.f9.params[j]? = some t → args[j]? = some v → Value.okWide Try.prog W .any base t v := hval0
  have hW' := hW
  obtain ⟨p, q, hA0, hV, rfl, hfz, hnd⟩ := hW
  have hA : DataW.TrodAll enc Try.prog W 0 (fun _ => true) true Try.f9.params.toList args.toList ds p := hA0
  rw [Try.params9] at hA hval
  obtain ⟨v0, vs0, d0, ds0, p0, q0, hargs, rfl, rfl, h0, r0⟩ := trodAll_cons hA
  obtain ⟨rfl, rfl, rfl⟩ := trodAll_nil r0
  obtain rfl : args = #[v0] := by cases args; simp_all
  obtain ⟨rfl, rfl⟩ := trodVars_none hV
  have k0 := h0
  have lt0 : ∀ x ∈ p0, x.block < W.heap.size := by obtain ⟨m, hm⟩ := k0; exact DataW.trod_lt m _ _ _ hm
  obtain ⟨a0, len0, cap0, rfl⟩ := okWide_slice Try.underlying35 (hval 0 35 v0 rfl rfl)
  obtain ⟨z0, w0⟩ : ∃ zs, IsRow .u8 W a0 len0 cap0 zs := isRow_of Try.underlying35 Try.underlying5 (by kernel_rfl) h0 lt0
  clear hA0 hval0
  refine (fnSharesOf_walk a0 len0 cap0 z0 W w0).mono fun e W' ⟨he, bel⟩ => ?_
  subst he
  exact ⟨_, rfl, _, _, _, [], _, [], hW', trodAll_mk1 (shut_bool Try.underlying4 _), (trodAll_cons_mk (Below.trod laidOut (by kernel_rfl) (of_decide_eq_true (by kernel_rfl)) k0 bel lt0) trodAll_mk0), rfl, bel.frame _, fun h => by cases h⟩

theorem fnSharesOf_over : Rows.fnSharesOfRow.holds Try.pinned (OpenSpec.ofChange Rows.fnSharesOfSpec) :=
  OpenClaim.holds_of_wide 9 Try.f9 rfl rfl rfl rfl rfl rfl rfl ⟨rfl, rfl, rfl, rfl, rfl⟩ rfl rfl rfl rfl rfl (by kernel_rfl) Try.func9 (by kernel_rfl)
    (of_decide_eq_true (by kernel_rfl)) (by unfold Func.isWrapper; first | (rw [if_pos (by decide +kernel)]; kernel_rfl) | (rw [if_neg (by decide +kernel)]; exact ⟨rfl, rfl⟩))
    (fun os started H enc _ => fnSharesOf_lifted os started H enc)

theorem fnSharesOf_holds : Rows.FnSharesOfSaid := fnSharesOf_over
#print axioms fnSharesOf_holds
end Go.Proofs.Ytcalfblghblhcaa
