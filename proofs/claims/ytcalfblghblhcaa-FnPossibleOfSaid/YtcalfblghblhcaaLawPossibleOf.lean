/-
  FnPossibleOf returns true for all arguments. Conditions: none.
  FnPossibleOf returns true for every code: the walk.
-/
import Derived.Test.YtcalfblghblhcaaPossDraw
import Derived.Test.YtcalfblghblhcaaPossS
import Derived.Test.YtcalfblghblhcaaPossI
import Derived.Test.YtcalfblghblhcaaLawHelp
namespace Go.Proofs.Ytcalfblghblhcaa
open Go.RowKit

/-- the greatest of the first n numbers, at least 0 -/
def mxN (f : Nat → Int) : Nat → Int | 0 => 0 | n + 1 => max (mxN f n) (f n)
theorem mx_tot {f : Nat → Int} {x0 : Nat} (h0 : ∀ x, 0 ≤ f x) : ∀ n, (∀ x, x < n → x ≠ x0 → f x = 0) → mxN f n = totN f n ∧ (n ≤ x0 → totN f n = 0) ∧ 0 ≤ totN f n
  | 0, _ => ⟨rfl, fun _ => rfl, Int.le_refl _⟩
  | n + 1, h => by
    obtain ⟨h1, h2, h3⟩ := mx_tot h0 n (fun x hx => h x (by omega))
    have hf := h0 n
    rw [mxN, totN, h1]
    by_cases e : n = x0
    · have := h2 (by omega)
      rw [this]
      refine ⟨by omega, by omega, by omega⟩
    · have e2 := h n (by omega) e
      rw [e2]
      exact ⟨by omega, fun hx => by rw [h2 (by omega)]; rfl, by omega⟩
theorem mx_bd {f : Nat → Int} {T : Int} (hT : 0 ≤ T) : ∀ n, (∀ x, x < n → 0 ≤ f x ∧ f x ≤ T) → 0 ≤ mxN f n ∧ mxN f n ≤ T
  | 0, _ => ⟨Int.le_refl _, hT⟩
  | n + 1, h => by
    have h1 := mx_bd hT n (fun x hx => h x (by omega))
    have h2 := h n (by omega)
    rw [mxN]; omega
theorem tot_bd2 {f : Nat → Int} {T : Nat} : ∀ n, (∀ x, x < n → 0 ≤ f x ∧ f x ≤ (T : Int)) → 0 ≤ totN f n ∧ totN f n ≤ (T * n : Nat)
  | 0, _ => ⟨Int.le_refl _, by simp [totN]⟩
  | n + 1, h => by
    have h1 := tot_bd2 n (fun x hx => h x (by omega))
    have h2 := h n (by omega)
    rw [totN, Nat.mul_add]; push_cast at h1 ⊢; omega
theorem ct_ps {P n k : Nat} {M : Nat → Nat → Int} {f g : Nat → Int} {s x : Nat} : ctF P n k M f s g (P ^ k) x = ((psN P n k M f s g x : Nat) : Int) := rfl

theorem ps_bd {P n k : Nat} {M : Nat → Nat → Int} {f g : Nat → Int} {s x : Nat} : 0 ≤ ctF P n k M f s g (P ^ k) x ∧ ctF P n k M f s g (P ^ k) x ≤ ((P ^ k : Nat) : Int) := ct_bd _
/-- what the law says of the answer -/
structure PsLaw (p : Int) (N : Nat) (G : Nat → Int) (k : Bool) : Prop where
  hp : (N : Int) = p
  hN : 2 ≤ N ∧ N ≤ 7
  bd : ∀ i, i < N → 0 ≤ G i ∧ G i ≤ 2401
  yes : k = true → mxN G N = totN G N
  no : k = false → ∀ i, i < N → G i = G 0
theorem ps_law {p : Int} {n m nB : Nat} {L : Nat → Nat} {M : Nat → Nat → Int} {f g : Nat → Int} {v : Int} (h : posB p n L M m f nB g v = true) : PsLaw p (posN p n L M m f nB g v) (fun i => (listOf (posN p n L M m f nB g v) (posF p n L M f g v)).getD i 0) (dkV p n L M m f v) := by
  have hN : posN p n L M m f nB g v = p.toNat := by simp [posN, h]
  rw [hN]
  simp only [posB, askB, Bool.and_eq_true, decide_eq_true_eq] at h
  obtain ⟨⟨hv, hi, _⟩, h4⟩ := h
  have hr := vSch_rows hv
  obtain ⟨hsc, _, _⟩ := vSch_sch hv
  have hdk : dkV p n L M m f v = knB p n (L 0) M f v.toNat := by simp [dkV, hv, hi]
  rw [hdk]
  have hP := hsc.hp
  have hp2 := hr.1
  have hL := hr.2.2.1.1
  obtain ⟨P, rfl⟩ := Int.eq_ofNat_of_zero_le (show 0 ≤ p by omega)
  rw [Int.toNat_natCast]
  have hP2 : 2 ≤ P ∧ P ≤ 7 := by omega
  have hG : ∀ i, i < P → (listOf P (posF P n L M f g v)).getD i 0 = ((psN P n (L 0) M f v.toNat g i : Nat) : Int) := fun i hi => by
    rw [listOf_getD _ hi, posF, Int.toNat_natCast]; exact ct_ps
  have hB : ∀ i, i < P → 0 ≤ (listOf P (posF P n L M f g v)).getD i 0 ∧ (listOf P (posF P n L M f g v)).getD i 0 ≤ 2401 := fun i hi => by
    rw [listOf_getD _ hi, posF, Int.toNat_natCast]
    have h1 := @ps_bd P n (L 0) M f g v.toNat i
    have h2 : P ^ L 0 ≤ 7 ^ 4 := Nat.le_trans (Nat.pow_le_pow_left hP2.2 _) (Nat.pow_le_pow_right (by omega) h4)
    have h3 : (7 : Nat) ^ 4 = 2401 := by decide
    omega
  refine ⟨rfl, hP2, hB, fun hk => ?_, fun hk i hi => ?_⟩
  · obtain ⟨x0, hx⟩ := ps_known (h := g) hP hL hk
    refine (mx_tot (x0 := x0) (fun x => ?_) P (fun x hx1 hx2 => ?_)).1
    · by_cases hx1 : x < P
      · exact (hB x hx1).1
      · rw [List.getD, List.getElem?_eq_none (by rw [listOf_len]; omega)]; exact Int.le_refl _
    · rw [hG x hx1, hx x hx1 hx2]; rfl
  · rw [hG i hi, hG 0 (by omega), ps_same hP hL hk i hi]

set_option maxHeartbeats 2000000 in
theorem fnPossibleOf_walk (a : Option Addr) (len cap : Nat) (zs : List Int) (w : World) (h : IsRow .u8 w a len cap zs) :
    Calls Try.prog 4 #[.slice a len cap] w fun e w' => e = .returned (.bool true) ∧ Below w.heap.size w w' := by
  have hlen : len ≤ 9223372036854775807 := by obtain ⟨h1, h2, _⟩ := bytes_in h; unfold maxLen at h2; omega
  have Hh := hide h
  clear h
  by_cases hl : 1048576 < len
  · go_enter Try.func4, Try.ntmps4
    go_wp2_with fail
    go_ret
    exact ⟨rfl, by go_grown⟩
  go_enter Try.func4, Try.ntmps4
  go_wp2_with fail
  refine (DrawPossibleOf_any a len cap zs w _ Hh.out (by go_grown)).mono ?_
  rintro e w1 ⟨p, A, n, c, O, m, d, L, M, f, B, nB, cB, xs, v, rfl, ⟨⟨hn1, hnm⟩, ⟨⟨hp, hn6, hm7, hL⟩, _, hmat, hint⟩, B1⟩, hrow, hnB⟩
  have HM := hide (fun (W : World) (hb : Below w1.heap.size w1 W) => hmat.mat.keep hb hb.size)
  have HI := hide (fun (W : World) (hb : Below w1.heap.size w1 W) => hint.ints.keep hb hb.size)
  have HLI := hide (fun (W : World) (hb : Below w1.heap.size w1 W) => (hrow.keep hb).ints)
  have HL := hide (fun i (hi : i < n) => Nat.le_trans (hL i hi).2 (show 4 ≤ 1048576 by omega))
  clear hmat hint hL hp hrow
  generalize (fun i => xs.getD i 0) = g at HLI
  have I := hide (fun W hb => PossibleOfI_any p A n c L M O m d f B nB cB g v W (by omega) HL.out (by omega) (HM.out W hb) (HI.out W hb) (by omega) (HLI.out W hb))
  have S := hide (fun W hb => PossibleOfS_any p A n c L M O m d f B nB cB g v W (by omega) HL.out (by omega) (HM.out W hb) (HI.out W hb) (by omega) (HLI.out W hb))
  have D := hide (fun W hb => DoesKnowI_any p A n c L M O m d f v W (by omega) HL.out (by omega) (HM.out W hb) (HI.out W hb))
  have HB1 := hide B1
  have z1 := B1.size
  clear B1
  have BX := hide (fun (W : World) (hb : Below (w1.alloc (.cells #[.int .i64 p, .slice A n c, .slice O m d] 29)).heap.size (w1.alloc (.cells #[.int .i64 p, .slice A n c, .slice O m d] 29)) W) => box_plain hb)
  have HNN := hide (show PsLaw p (posN p n L M m f nB g v) (fun i => (listOf (posN p n L M m f nB g v) (posF p n L M f g v)).getD i 0) (dkV p n L M m f v) ∨ posN p n L M m f nB g v = 0 by
    cases h : posB p n L M m f nB g v
    · exact .inr (by simp [posN, h])
    · exact .inl (ps_law h))
  have hNb : posN p n L M m f nB g v ≤ 7 := by
    rcases HNN.out with h | h
    · exact h.hN.2
    · omega
  unfold PsPost at I S
  generalize listOf (posN p n L M m f nB g v) (posF p n L M f g v) = ys at *
  generalize posN p n L M m f nB g v = N at *
  generalize dkV p n L M m f v = kn at *
  go_wp2_with fail
  refine (I.out _ (below_box _)).mono ?_
  rintro e w2 ⟨R1, k1, rfl, t1, hb2⟩
  obtain ⟨b2, k2⟩ := BX.out _ hb2
  have x0 := k2.at_ (i := 0) rfl
  have x1 := k2.at_ (i := 1) rfl
  have x2 := k2.at_ (i := 2) rfl
  have K2 := hide k2
  have B2 := hide b2
  have T2 := hide t1
  clear k2 b2 hb2 t1
  go_wp2_with fail
  refine (S.out _ B2.out).mono ?_
  rintro e w3 ⟨R2, c2, rfl, t3, hb3⟩
  clear x0 x1 x2
  have k3 := K2.out.below hb3 K2.out.lt
  have x0 := k3.at_ (i := 0) rfl
  have x1 := k3.at_ (i := 1) rfl
  have x2 := k3.at_ (i := 2) rfl
  have K3 := hide k3
  have B3 := hide (up hb3 B2.out B2.out.size)
  have T3 := hide (T2.out.keep hb3)
  have E1 := hide (equalInts_b R1 R2 N k1 c2 (fun i => ys.getD i 0) w3 (by omega) T3.out.ints t3.ints)
  clear k3 hb3 t3 T2
  go_wp2_with fail
  refine (E1.out).mono ?_
  rintro e w4 ⟨rfl, hb4⟩
  clear x0 x1 x2
  have k4 := K3.out.below hb4 K3.out.lt
  have x0 := k4.at_ (i := 0) rfl
  have x1 := k4.at_ (i := 1) rfl
  have x2 := k4.at_ (i := 2) rfl
  have K4 := hide k4
  have B4 := hide (up hb4 B3.out B3.out.size)
  have T4 := hide (T3.out.keep hb4)
  clear k4 hb4 T3 E1
  by_cases h0 : N = 0
  · subst h0
    go_wp2_with fail
    refine (S.out _ B4.out).mono ?_
    rintro e w5 ⟨R3, c3, rfl, t5, hb5⟩
    have E2 := hide (equalInts_b R1 R3 0 k1 c3 (fun i => ys.getD i 0) w5 (by omega) (T4.out.keep hb5).ints t5.ints)
    have B5 := hide (up hb5 B4.out B4.out.size)
    clear t5 hb5
    go_wp2_with fail
    refine (E2.out).mono ?_
    rintro e w6 ⟨rfl, hb6⟩
    go_wp2_with fail
    go_ret
    exact ⟨rfl, up (up hb6 B5.out B5.out.size) HB1.out z1⟩
  have hlaw : PsLaw p N (fun i => ys.getD i 0) kn := by
    rcases HNN.out with h | h
    · exact h
    · exact absurd h h0
  have hN0 : ((N : Int) == 0) = false := by simp; omega
  have hN2 := hlaw.hN
  have hpN := hlaw.hp
  have HLW := hide hlaw
  generalize hG : (fun i => ys.getD i 0) = G at *
  clear hlaw HNN h0
  go_wp2_with fail
  refine (D.out _ B4.out).mono ?_
  rintro e w5 ⟨rfl, hb5⟩
  clear x0 x1 x2
  have k5 := K4.out.below hb5 K4.out.lt
  have K5 := hide k5
  have x0 := k5.at_ (i := 0) rfl
  have B5 := hide (up hb5 B4.out B4.out.size)
  have T5 := hide (show Ints w5 w5.heap.size R1 N G from hG ▸ (T4.out.keep hb5).ints)
  clear k5 hb5 hG
  obtain ⟨br, orr, rfl, hbr, hcr⟩ := T5.out (by omega)
  have HC := hide hcr
  have hf0 := HLW.out.bd 0 (by omega)
  have y0 := hcr 0 (by omega)
  clear hcr
  cases kn
  · have HNO := hide (fun i (hi : i < N) => HLW.out.no rfl i hi)
    go_wp2_with fail
    go_loopw [9] (fun i wr => ∃ j : Nat, j ≤ N ∧ i = .int .i64 j ∧ Below w5.heap.size w5 wr) (fun i _ => N - (intOf i).toNat)
    case atStart => exact ⟨0, by omega, rfl, Below.refl _ _⟩
    case round =>
      obtain ⟨j, hj, rfl, hb⟩ := hrel
      obtain ⟨wo, rfl⟩ : ∃ q, q = wr := ⟨_, rfl⟩
      have HB := hide hb
      have hzo := hb.size
      have kx := K5.out.below hb K5.out.lt
      have x0' := kx.at_ (i := 0) rfl
      have lx := kx.lt
      clear kx hb
      by_cases hlt : j < N
      · have z0 : wo.cell? ⟨br, orr + 0, none⟩ = some (.int .i64 (G 0)) := (HB.out.cell (p := ⟨br, orr + 0, none⟩) hbr).trans y0
        have zj : wo.cell? ⟨br, orr + j, none⟩ = some (.int .i64 (G j)) := (HB.out.cell (p := ⟨br, orr + j, none⟩) hbr).trans (HC.out j hlt)
        rw [HNO.out j hlt] at zj
        have hjI : (j : Int) < (N : Int) := by omega
        simp only [Nat.add_zero] at z0
        have hbl : br < wo.heap.size := by omega
        clear x0 x0' y0
        generalize G 0 = g0 at *
        have hgg : (g0 != g0) = false := by simp
        have hNp : 0 < N := by omega
        go_wp2_with fail
        go_quiet (fail)
        go_wp2_with fail
        go_roundw
        case rel => first | exact ⟨j + 1, by omega, by go_num, below_drewN HB.out _⟩ | ((repeat apply Exists.intro); exact ⟨⟨j + 1, by omega, by go_num, below_drewN HB.out _⟩, rfl⟩)
        case measure => simp [intOf]; omega
      · obtain rfl : j = N := by omega
        have hge : ¬ (j : Int) < (j : Int) := by omega
        have hpe : ((j : Int) == p) = true := by simp [hpN]
        clear x0 y0
        go_wp2_with fail
        go_ret
        exact ⟨rfl, up (up HB.out B5.out B5.out.size) HB1.out z1⟩
  · have HY := hide (HLW.out.yes rfl)
    have HMX := hide (fun i (hi : i ≤ N) => mx_bd (f := G) (T := 2401) (by omega) i (fun x hx => HLW.out.bd x (by omega)))
    have HTB := hide (fun i (hi : i ≤ N) => tot_bd2 (f := G) (T := 2401) i (fun x hx => HLW.out.bd x (by omega)))
    have HTT := hide (total_any (some ⟨br, orr, none⟩) N k1 G w5 (by omega) T5.out (fun j hj => by have := HTB.out j hj; omega))
    clear y0 x0
    go_wp2_with fail
    go_loop [7, 8] (fun v i => ∃ j : Nat, j ≤ N ∧ i = .int .i64 j ∧ v = .int .i64 (mxN G j)) (fun _ i => N - (intOf i).toNat)
    case atStart => exact ⟨0, by omega, rfl, rfl⟩
    case round =>
      obtain ⟨j, hj, rfl, rfl⟩ := hrel
      have b1 := HMX.out j hj
      by_cases hlt : j < N
      · have zj := HC.out j hlt
        have b2 := HLW.out.bd j hlt
        have HS := hide (show mxN G (j + 1) = max (mxN G j) (G j) from rfl)
        generalize mxN G j = y at *
        generalize G j = z at *
        go_wp2_with fail
        go_round
        case rel => exact ⟨j + 1, by omega, by go_num, by rw [HS.out]; exact congrArg _ (by split <;> omega)⟩
        case measure => simp [intOf]; omega
      · obtain rfl : j = N := by omega
        have hee : (totN G j == mxN G j) = true := by rw [HY.out]; simp
        generalize mxN G j = y at *
        go_wp2_with fail
        refine HTT.out.mono ?_
        rintro e w6 ⟨rfl, rfl⟩
        go_wp2_with fail
        go_ret
        exact ⟨rfl, up B5.out HB1.out z1⟩
end Go.Proofs.Ytcalfblghblhcaa
namespace Go.Proofs.Ytcalfblghblhcaa
open Go.ChangeShapes Go.WideShapes Go.ChangeAt Go.RowKit
theorem laidOut : laidOutB Try.prog = true := by kernel_rfl

set_option maxRecDepth 100000 in
theorem fnPossibleOf_lifted (os : Os) (started : os.Started) (H : Type) (enc : TypeId × Value → H) :
    ReturnsInHanded {} Try.checked os 4 .any (Rows.fnPossibleOfSpec.pre6 enc Try.prog Try.f4 Rows.fnPossibleOfRow.domain false) (Rows.fnPossibleOfSpec.post enc Try.prog Try.f4 false true false false) := by
  refine returnsInHanded_of_change (C := Try.checked) (by kernel_rfl : ownKnob Try.prog.godebug = none) started (by kernel_rfl) Try.func4
    (ChangeSpec.witness6 (enc := enc) (C := Try.checked) false ⟨#[], #[.slice none 0 0], []⟩ 8 (by kernel_rfl) (by kernel_rfl) (by kernel_rfl) (by kernel_rfl)) ?_
  intro W base args ds gs before hval0 hW hcnd _
  have hval : ∀ (j : Nat) t v, Try.f4.params[j]? = some t → args[j]? = some v → Value.okWide Try.prog W .any base t v := hval0
  have hW' := hW
  obtain ⟨p, q, hA0, hV, rfl, hfz, hnd⟩ := hW
  have hA : DataW.TrodAll enc Try.prog W 0 (fun _ => true) true Try.f4.params.toList args.toList ds p := hA0
  rw [Try.params4] at hA hval
  obtain ⟨v0, vs0, d0, ds0, p0, q0, hargs, rfl, rfl, h0, r0⟩ := trodAll_cons hA
  obtain ⟨rfl, rfl, rfl⟩ := trodAll_nil r0
  obtain rfl : args = #[v0] := by cases args; simp_all
  obtain ⟨rfl, rfl⟩ := trodVars_none hV
  have k0 := h0
  have lt0 : ∀ x ∈ p0, x.block < W.heap.size := by obtain ⟨m, hm⟩ := k0; exact DataW.trod_lt m _ _ _ hm
  obtain ⟨a0, len0, cap0, rfl⟩ := okWide_slice Try.underlying35 (hval 0 35 v0 rfl rfl)
  obtain ⟨z0, w0⟩ : ∃ zs, IsRow .u8 W a0 len0 cap0 zs := isRow_of Try.underlying35 Try.underlying5 (by kernel_rfl) h0 lt0
  clear hA0 hval0
  refine (fnPossibleOf_walk a0 len0 cap0 z0 W w0).mono fun e W' ⟨he, bel⟩ => ?_
  subst he
  exact ⟨_, rfl, _, _, _, [], _, [], hW', trodAll_mk1 (shut_bool Try.underlying4 _), (trodAll_cons_mk (Below.trod laidOut (by kernel_rfl) (of_decide_eq_true (by kernel_rfl)) k0 bel lt0) trodAll_mk0), rfl, bel.frame _, fun h => by cases h⟩

theorem fnPossibleOf_over : Rows.fnPossibleOfRow.holds Try.pinned (OpenSpec.ofChange Rows.fnPossibleOfSpec) :=
  OpenClaim.holds_of_wide 4 Try.f4 rfl rfl rfl rfl rfl rfl rfl ⟨rfl, rfl, rfl, rfl, rfl⟩ rfl rfl rfl rfl rfl (by kernel_rfl) Try.func4 (by kernel_rfl)
    (of_decide_eq_true (by kernel_rfl)) (by unfold Func.isWrapper; first | (rw [if_pos (by decide +kernel)]; kernel_rfl) | (rw [if_neg (by decide +kernel)]; exact ⟨rfl, rfl⟩))
    (fun os started H enc _ => fnPossibleOf_lifted os started H enc)

theorem fnPossibleOf_holds : Rows.FnPossibleOfSaid := fnPossibleOf_over
#print axioms fnPossibleOf_holds
end Go.Proofs.Ytcalfblghblhcaa
