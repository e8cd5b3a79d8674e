/-
  FnDoesKnow returns true for every code: the walk. Conditions: none.
-/
import Derived.Test.YtcalfblghblhcaaGroups
import Derived.Test.YtcalfblghblhcaaSchDraw
import Derived.Deep.RegionHeld3
namespace Go.Proofs.Ytcalfblghblhcaa
open Go.RowKit

theorem own5 {p : Int} {n m : Nat} {M : Nat → Nat → Int} {f : Nat → Int} (h : SchV p n m M f) {i : Nat} (hi : i < n) : (f i).toNat < 5 := by have := h.own i hi; omega
theorem kn_part {p : Int} {n m : Nat} {M : Nat → Nat → Int} {f : Nat → Int} (h : SchV p n m M f) {x s : Nat} (hx : x < 32) (hs : s < 32) (hp : x &&& s = x) (hk : knB p n m M f x = true) : knB p n m M f s = true :=
  kn_mono h.hp (fun _ hi hb => bt_sub hx hs (own5 h hi) hp hb) hk
theorem or_part (s x : Nat) : s &&& (s ||| x) = s := by
  refine Nat.eq_of_testBit_eq fun i => ?_
  simp only [Nat.testBit_and, Nat.testBit_or]
  cases s.testBit i <;> cases x.testBit i <;> rfl
theorem gp_met {p : Int} {n m : Nat} {M : Nat → Nat → Int} {f : Nat → Int} (h : SchV p n m M f) {s : Nat} (hs : s < 32) : (∃ j, j < (lst (knB p n m M f) 192).length ∧ (lst (knB p n m M f) 192).getD j 0 &&& s = (lst (knB p n m M f) 192).getD j 0) ↔ knB p n m M f s = true := by
  constructor
  · rintro ⟨j, hj, e⟩
    obtain ⟨h1, h2⟩ := lst_mem (lst_at hj)
    exact kn_part h h1 hs e h2
  · intro hk
    obtain ⟨x, hx, e⟩ := lst_all hs hk
    obtain ⟨j, hj, ej⟩ := List.mem_iff_getElem.1 hx
    refine ⟨j, hj, ?_⟩
    simp only [List.getD, List.getElem?_eq_getElem hj, Option.getD_some, ej]
    exact e
theorem kn_none {p : Int} {n m : Nat} {M : Nat → Nat → Int} {f : Nat → Int} (h : SchV p n m M f) : knB p n m M f 0 = false := by
  refine kn_zero h.hp h.hm.1 ?_
  have : ownL f 0 n = [] := by
    rw [ownL, List.filter_eq_nil_iff]
    intro i _
    simp [bt]
  rw [this]; rfl
theorem kn_more {p : Int} {n m : Nat} {M : Nat → Nat → Int} {f : Nat → Int} (h : SchV p n m M f) {s x : Nat} (hs : s < 32) (hx : x < 5) (hk : knB p n m M f s = true) : s ||| 2 ^ x < 32 ∧ knB p n m M f (s ||| 2 ^ x) = true := by
  have h1 : (2 : Nat) ^ x < 2 ^ 5 := Nat.pow_lt_pow_right (by omega) hx
  have h2 : s ||| 2 ^ x < 2 ^ 5 := Nat.or_lt_two_pow (by omega) h1
  exact ⟨h2, kn_part h hs h2 (or_part s _) hk⟩
theorem dk_no {p s : Int} {n m : Nat} {L : Nat → Nat} {M : Nat → Nat → Int} {f : Nat → Int} (h : vSch p n L M m f = false) : dkV p n L M m f s = false := by simp [dkV, h]
theorem dk_out {p s : Int} {n m : Nat} {L : Nat → Nat} {M : Nat → Nat → Int} {f : Nat → Int} (h : inR s 0 31 = false) : dkV p n L M m f s = false := by simp [dkV, h]
theorem dk_in {p : Int} {n m s : Nat} {L : Nat → Nat} {M : Nat → Nat → Int} {f : Nat → Int} (h : vSch p n L M m f = true) (hs : s < 32) : dkV p n L M m f s = knB p n (L 0) M f s := by
  have : inR (s : Int) 0 31 = true := inR_mk (by omega) (by omega)
  simp [dkV, h, this]

set_option maxHeartbeats 2000000 in
theorem fnDoesKnow_walk (a : Option Addr) (len cap : Nat) (zs : List Int) (w : World) (h : IsRow .u8 w a len cap zs) :
    Calls Try.prog 6 #[.slice a len cap] w fun e w' => e = .returned (.bool true) ∧ Below w.heap.size w w' := by
  have hlen : len ≤ 9223372036854775807 := by obtain ⟨h1, h2, _⟩ := bytes_in h; unfold maxLen at h2; omega
  have Hh := hide h
  clear h
  by_cases hl : 1048576 < len
  · go_enter Try.func6, Try.ntmps6
    go_wp2_with fail
    go_ret
    exact ⟨rfl, by go_grown⟩
  go_enter Try.func6, Try.ntmps6
  go_wp2_with fail
  refine (DrawDoesKnow_any a len cap zs w _ Hh.out (by go_grown)).mono ?_
  rintro e w1 ⟨p, A, n, c, O, m, d, L, M, f, v, rfl, ⟨hn1, hnm⟩, ⟨⟨hp, hn6, hm7, hL⟩, _, hmat, hint⟩, B1⟩
  have HM := hide (fun (W : World) (hb : Below w1.heap.size w1 W) => hmat.mat.keep hb hb.size)
  have HI := hide (fun (W : World) (hb : Below w1.heap.size w1 W) => hint.ints.keep hb hb.size)
  have HL := hide (fun i (hi : i < n) => Nat.le_trans (hL i hi).2 (show 4 ≤ 1048576 by omega))
  have I := hide (fun W s hb => DoesKnowI_any p A n c L M O m d f s W (by omega) HL.out (by omega) (HM.out W hb) (HI.out W hb))
  have S := hide (fun W s hb => DoesKnowS_any p A n c L M O m d f s W (by omega) HL.out (by omega) (HM.out W hb) (HI.out W hb))
  have V := hide (fun W hb => ValidSchemeI_any p A n c L M O m d f W (by omega) HL.out (by omega) (HM.out W hb) (HI.out W hb))
  have G := hide (fun W hb => GroupsOfI_any p A n c L M O m d f W (by omega) HL.out (by omega) (HM.out W hb) (HI.out W hb))
  have HB1 := hide B1
  have z1 := B1.size
  clear hmat hint hL hp B1
  have HPW := hide (fun W => powerL_any 5 W (by omega))
  have BX := hide (fun (W : World) (hb : Below (w1.alloc (.cells #[.int .i64 p, .slice A n c, .slice O m d] 29)).heap.size (w1.alloc (.cells #[.int .i64 p, .slice A n c, .slice O m d] 29)) W) => box_plain hb)
  obtain ⟨D, hD⟩ : ∃ D, dkV p n L M m f v = D := ⟨_, rfl⟩
  have hDD : (D != D) = false := by simp
  have hDE : (D == D) = true := by simp
  have I1 := hide (fun W hb => I.out W v hb)
  have S1 := hide (fun W hb => S.out W v hb)
  rw [hD] at I1 S1
  cases hv : vSch p n L M m f
  · rw [hv] at V
    clear hv hD
    go_wp2_with fail
    refine (I1.out _ (below_box _)).mono ?_
    rintro e w2 ⟨rfl, hb2⟩
    obtain ⟨b2, k2⟩ := BX.out _ hb2
    have x0 := k2.at_ (i := 0) rfl
    have x1 := k2.at_ (i := 1) rfl
    have x2 := k2.at_ (i := 2) rfl
    have K2 := hide k2
    have B2 := hide b2
    clear k2 b2 hb2
    go_wp2_with fail
    refine (S1.out _ B2.out).mono ?_
    rintro e w3 ⟨rfl, hb3⟩
    clear x0 x1 x2
    have k3 := K2.out.below hb3 K2.out.lt
    have x0 := k3.at_ (i := 0) rfl
    have x1 := k3.at_ (i := 1) rfl
    have x2 := k3.at_ (i := 2) rfl
    have l3 := k3.lt
    have K3 := hide k3
    have B3 := hide (up hb3 B2.out B2.out.size)
    clear k3 hb3
    go_wp2_with fail
    refine (V.out _ B3.out).mono ?_
    rintro e w4 ⟨rfl, hb4⟩
    clear x0 x1 x2
    have k4 := K3.out.below hb4 K3.out.lt
    have x0 := k4.at_ (i := 0) rfl
    have x1 := k4.at_ (i := 1) rfl
    have x2 := k4.at_ (i := 2) rfl
    have l4 := k4.lt
    have K4 := hide k4
    have B4 := hide (up hb4 B3.out B3.out.size)
    clear k4 hb4
    go_wp2_with fail
    refine (S1.out _ B4.out).mono ?_
    rintro e w5 ⟨rfl, hb5⟩
    go_wp2_with fail
    go_ret
    exact ⟨rfl, up (up hb5 B4.out B4.out.size) HB1.out z1⟩
  rw [hv] at V
  by_cases hv0 : v < 0
  · clear hv hD
    go_wp2_with fail
    refine (I1.out _ (below_box _)).mono ?_
    rintro e w2 ⟨rfl, hb2⟩
    obtain ⟨b2, k2⟩ := BX.out _ hb2
    have x0 := k2.at_ (i := 0) rfl
    have x1 := k2.at_ (i := 1) rfl
    have x2 := k2.at_ (i := 2) rfl
    have K2 := hide k2
    have B2 := hide b2
    clear k2 b2 hb2
    go_wp2_with fail
    refine (S1.out _ B2.out).mono ?_
    rintro e w3 ⟨rfl, hb3⟩
    clear x0 x1 x2
    have k3 := K2.out.below hb3 K2.out.lt
    have x0 := k3.at_ (i := 0) rfl
    have x1 := k3.at_ (i := 1) rfl
    have x2 := k3.at_ (i := 2) rfl
    have l3 := k3.lt
    have K3 := hide k3
    have B3 := hide (up hb3 B2.out B2.out.size)
    clear k3 hb3
    go_wp2_with fail
    refine (V.out _ B3.out).mono ?_
    rintro e w4 ⟨rfl, hb4⟩
    clear x0 x1 x2
    have k4 := K3.out.below hb4 K3.out.lt
    have x0 := k4.at_ (i := 0) rfl
    have x1 := k4.at_ (i := 1) rfl
    have x2 := k4.at_ (i := 2) rfl
    have l4 := k4.lt
    have K4 := hide k4
    have B4 := hide (up hb4 B3.out B3.out.size)
    clear k4 hb4
    go_wp2_with fail
    refine (S1.out _ B4.out).mono ?_
    rintro e w5 ⟨rfl, hb5⟩
    go_wp2_with fail
    go_ret
    exact ⟨rfl, up (up hb5 B4.out B4.out.size) HB1.out z1⟩
  by_cases hv32 : 32 ≤ v
  · clear hv hD
    go_wp2_with fail
    refine (I1.out _ (below_box _)).mono ?_
    rintro e w2 ⟨rfl, hb2⟩
    obtain ⟨b2, k2⟩ := BX.out _ hb2
    have x0 := k2.at_ (i := 0) rfl
    have x1 := k2.at_ (i := 1) rfl
    have x2 := k2.at_ (i := 2) rfl
    have K2 := hide k2
    have B2 := hide b2
    clear k2 b2 hb2
    go_wp2_with fail
    refine (S1.out _ B2.out).mono ?_
    rintro e w3 ⟨rfl, hb3⟩
    clear x0 x1 x2
    have k3 := K2.out.below hb3 K2.out.lt
    have x0 := k3.at_ (i := 0) rfl
    have x1 := k3.at_ (i := 1) rfl
    have x2 := k3.at_ (i := 2) rfl
    have l3 := k3.lt
    have K3 := hide k3
    have B3 := hide (up hb3 B2.out B2.out.size)
    clear k3 hb3
    go_wp2_with fail
    refine (V.out _ B3.out).mono ?_
    rintro e w4 ⟨rfl, hb4⟩
    clear x0 x1 x2
    have k4 := K3.out.below hb4 K3.out.lt
    have x0 := k4.at_ (i := 0) rfl
    have x1 := k4.at_ (i := 1) rfl
    have x2 := k4.at_ (i := 2) rfl
    have l4 := k4.lt
    have K4 := hide k4
    have B4 := hide (up hb4 B3.out B3.out.size)
    clear k4 hb4
    go_wp2_with fail
    refine (HPW.out _).mono ?_
    rintro e _ ⟨rfl, rfl⟩
    go_wp2_with fail
    refine (S1.out _ B4.out).mono ?_
    rintro e w5 ⟨rfl, hb5⟩
    go_wp2_with fail
    go_ret
    exact ⟨rfl, up (up hb5 B4.out B4.out.size) HB1.out z1⟩
  obtain ⟨s, rfl⟩ := Int.eq_ofNat_of_zero_le (show 0 ≤ v by omega)
  have hs32 : s < 32 := by omega
  obtain ⟨hsc, rfl, hle⟩ := vSch_sch hv
  have hDk : knB p m (L 0) M f s = D := by rw [← hD, dk_in hv hs32]
  have HMET := hide (gp_met hsc hs32)
  have HMORE := hide (fun (hd : D = true) (x : Nat) (hx : x < 5) => kn_more hsc hs32 hx (hDk.trans hd))
  have HNONE := hide (show dkV p m L M m f 0 = false from (dk_in (s := 0) hv (by omega)).trans (kn_none hsc))
  have HDK := hide hDk
  have HV := hide hv
  clear hv hD hDk hle hsc
  go_wp2_with fail
  refine (I1.out _ (below_box _)).mono ?_
  rintro e w2 ⟨rfl, hb2⟩
  obtain ⟨b2, k2⟩ := BX.out _ hb2
  have x0 := k2.at_ (i := 0) rfl
  have x1 := k2.at_ (i := 1) rfl
  have x2 := k2.at_ (i := 2) rfl
  have K2 := hide k2
  have B2 := hide b2
  clear k2 b2 hb2
  go_wp2_with fail
  refine (S1.out _ B2.out).mono ?_
  rintro e w3 ⟨rfl, hb3⟩
  clear x0 x1 x2
  have k3 := K2.out.below hb3 K2.out.lt
  have x0 := k3.at_ (i := 0) rfl
  have x1 := k3.at_ (i := 1) rfl
  have x2 := k3.at_ (i := 2) rfl
  have l3 := k3.lt
  have K3 := hide k3
  have B3 := hide (up hb3 B2.out B2.out.size)
  clear k3 hb3
  go_wp2_with fail
  refine (V.out _ B3.out).mono ?_
  rintro e w4 ⟨rfl, hb4⟩
  clear x0 x1 x2
  have k4 := K3.out.below hb4 K3.out.lt
  have x0 := k4.at_ (i := 0) rfl
  have x1 := k4.at_ (i := 1) rfl
  have x2 := k4.at_ (i := 2) rfl
  have l4 := k4.lt
  have K4 := hide k4
  have B4 := hide (up hb4 B3.out B3.out.size)
  clear k4 hb4

  go_wp2_with fail
  refine (HPW.out _).mono ?_
  rintro e _ ⟨rfl, rfl⟩
  go_wp2_with fail
  refine (G.out _ B4.out).mono ?_
  rintro e w5 ⟨GA, GN, GC, rfl, hb5, hgr⟩
  clear x0 x1 x2
  have k5 := K4.out.below hb5 K4.out.lt
  have K5 := hide k5
  have B5 := hide (up hb5 B4.out B4.out.size)
  obtain ⟨hGN, hGI⟩ := hgr HV.out
  have HGN := hide hGN
  have HGI := hide hGI
  clear k5 hb5 hgr hGN hGI
  have hlt0 := fun j (hj : j < (lst (knB p m (L 0) M f) 192).length) => (lst_mem (lst_at hj)).1
  have hGL := lst_len (knB p m (L 0) M f) 192
  have hmet0 := HMET.out
  have hgi0 := HGI.out
  rw [HDK.out] at hmet0
  rw [← HGN.out] at hmet0 hlt0 hGL
  obtain ⟨LT, hLT⟩ : ∃ LT : Nat → Nat, ∀ j, LT j = (lst (knB p m (L 0) M f) 192).getD j 0 := ⟨_, fun _ => rfl⟩
  simp only [← hLT] at hmet0 hlt0 hgi0
  have HMET2 := hide hmet0
  have HLT2 := hide hlt0
  have HGI2 := hide hgi0
  clear HMET HGI hmet0 hlt0 hgi0 hLT
  have l5 := K5.out.lt
  go_wp2_with fail
  go_loopw [7, 8] (fun v i wr => ∃ (j : Nat) (b : Bool) (q : Nat), j ≤ GN ∧ i = .int .i64 j ∧ v = .bool b ∧ (b = true ↔ ∃ t, t < j ∧ LT t &&& s = LT t) ∧ wr = w5.drewN q) (fun _ i _ => GN - (intOf i).toNat)
  case atStart => exact ⟨0, false, 0, by omega, rfl, rfl, ⟨fun h => (by cases h), fun ⟨t, ht, _⟩ => absurd ht (by omega)⟩, rfl⟩
  case round =>
    obtain ⟨j, b, q, hj, rfl, rfl, hb, rfl⟩ := hrel
    have HBB := hide hb
    clear hb
    by_cases hlt : j < GN
    · obtain ⟨bg, og, rfl, hbg, hcg⟩ := HGI2.out (by omega)
      have hck : w5.cell? ⟨bg, og + j, none⟩ = some (.int .i64 ((LT j : Nat) : Int)) := hcg j hlt
      have hy := HLT2.out j hlt
      have HSTEP := hide (show ∀ b' : Bool, (b' = true ↔ (b = true ∨ LT j &&& s = LT j)) → (b' = true ↔ ∃ t, t < j + 1 ∧ LT t &&& s = LT t) from fun b' hb' => by
        rw [hb', HBB.out]
        constructor
        · rintro (⟨t, ht, e⟩ | e)
          · exact ⟨t, by omega, e⟩
          · exact ⟨j, by omega, e⟩
        · rintro ⟨t, ht, e⟩
          by_cases e2 : t = j
          · subst e2; exact .inr e
          · exact .inl ⟨t, by omega, e⟩)
      have hand := and_nat (LT j) s (by omega) (by omega)
      have hjI : (j : Int) < (GN : Int) := by omega
      clear hcg
      cases b
      · cases he : decide (LT j &&& s = LT j)
        · have HE := hide (show ¬ ∃ t, t < j + 1 ∧ LT t &&& s = LT t from fun hx => by
            have h1 := (HSTEP.out true ⟨fun _ => (by
              have := (HSTEP.out false ⟨fun h => (by cases h), fun h => (by
                rcases h with h | h
                · cases h
                · rw [decide_eq_false_iff_not] at he; exact absurd h he)⟩).2 hx
              cases this), fun _ => rfl⟩).2 hx
            have := (HSTEP.out false ⟨fun h => (by cases h), fun h => (by
                rcases h with h | h
                · cases h
                · rw [decide_eq_false_iff_not] at he; exact absurd h he)⟩).2 hx
            cases this)
          have hne : ¬ LT j &&& s = LT j := by simpa using he
          clear HSTEP he
          generalize LT j &&& s = u at *
          generalize LT j = y at *
          have hne2 : ((u : Int) == (y : Int)) = false := by simp; omega
          go_wp2_with fail
          go_quiet (fail)
          go_wp2_with fail
          go_roundw
          case rel => first | exact ⟨j + 1, false, _, by omega, by go_num, rfl, ⟨fun h => (by cases h), fun h => absurd h HE.out⟩, by first | rfl | exact World.drewN_drewN _ _ _⟩ | ((repeat apply Exists.intro); exact ⟨⟨j + 1, false, _, by omega, by go_num, rfl, ⟨fun h => (by cases h), fun h => absurd h HE.out⟩, by first | rfl | exact World.drewN_drewN _ _ _⟩, rfl⟩)
          case measure => simp [intOf]; omega
        · have HE := hide ((HSTEP.out true ⟨fun _ => .inr (by simpa using he), fun _ => rfl⟩).1 rfl)
          have hne : LT j &&& s = LT j := by simpa using he
          rw [hne] at hand
          clear HSTEP he hne
          generalize LT j = y at *
          have hne2 : ((y : Int) == (y : Int)) = true := by simp
          go_wp2_with fail
          go_quiet (fail)
          go_wp2_with fail
          go_roundw
          case rel => first | exact ⟨j + 1, true, _, by omega, by go_num, rfl, ⟨fun _ => HE.out, fun _ => rfl⟩, by first | rfl | exact World.drewN_drewN _ _ _⟩ | ((repeat apply Exists.intro); exact ⟨⟨j + 1, true, _, by omega, by go_num, rfl, ⟨fun _ => HE.out, fun _ => rfl⟩, by first | rfl | exact World.drewN_drewN _ _ _⟩, rfl⟩)
          case measure => simp [intOf]; omega
      · have HE := hide ((HSTEP.out true ⟨fun _ => .inl rfl, fun _ => rfl⟩).1 rfl)
        clear HSTEP hand
        generalize LT j = y at *
        go_wp2_with fail
        go_quiet (fail)
        go_wp2_with fail
        go_roundw
        case rel => first | exact ⟨j + 1, true, _, by omega, by go_num, rfl, ⟨fun _ => HE.out, fun _ => rfl⟩, by first | rfl | exact World.drewN_drewN _ _ _⟩ | ((repeat apply Exists.intro); exact ⟨⟨j + 1, true, _, by omega, by go_num, rfl, ⟨fun _ => HE.out, fun _ => rfl⟩, by first | rfl | exact World.drewN_drewN _ _ _⟩, rfl⟩)
        case measure => simp [intOf]; omega
    · obtain rfl : j = GN := by omega
      have hbD : b = D := by rw [Bool.eq_iff_iff, HBB.out, HMET2.out]
      subst hbD
      clear HBB HMET2
      have B6 := hide (below_drewN B5.out q)
      have K6 := hide (show Blk (w5.drewN q) w1.heap.size 29 #[.int .i64 p, .slice A m c, .slice O m d] from K5.out)
      obtain ⟨w6, hw6⟩ : ∃ x, x = w5.drewN q := ⟨_, rfl⟩
      rw [← hw6] at B6 K6
      rw [← hw6]
      clear hw6
      go_wp2_with fail
      go_loopw [9] (fun i wr => ∃ x : Nat, x ≤ 5 ∧ i = .int .i64 x ∧ Below w1.heap.size w1 wr ∧ Blk wr w1.heap.size 29 #[.int .i64 p, .slice A m c, .slice O m d]) (fun i _ => 5 - (intOf i).toNat)
      case atStart => exact ⟨0, by omega, rfl, B6.out, K6.out⟩
      case round =>
        obtain ⟨x, hx, rfl, hbx, hkx⟩ := hrel
        obtain ⟨wo, rfl⟩ : ∃ q, q = wr := ⟨_, rfl⟩
        have x0 := hkx.at_ (i := 0) rfl
        have x1 := hkx.at_ (i := 1) rfl
        have x2 := hkx.at_ (i := 2) rfl
        have lx := hkx.lt
        have KX := hide hkx
        have BXX := hide hbx
        clear hkx hbx
        by_cases hx5 : x < 5
        · have hxI : (x : Int) < 5 := by omega
          cases b
          · go_wp2_with fail
            go_quiet (fail)
            go_wp2_with fail
            go_roundw
            case rel => first | exact ⟨x + 1, by omega, by go_num, by first | exact BXX.out | exact below_drewN BXX.out _, KX.out⟩ | ((repeat apply Exists.intro); exact ⟨⟨x + 1, by omega, by go_num, by first | exact BXX.out | exact below_drewN BXX.out _, KX.out⟩, rfl⟩)
            case measure => simp [intOf]; omega
          · obtain ⟨ht32, hkt⟩ := HMORE.out rfl x hx5
            have hp0 := two_pow_pos x
            have hp1 := two_pow_le (show x ≤ 5 by omega)
            rw [show (2 : Int) ^ 5 = 32 by decide] at hp1
            have hor : bits .or .i64 (s : Int) ((2 : Int) ^ x) = ((s ||| 2 ^ x : Nat) : Int) := by
              have := or_nat s (2 ^ x) (by omega) (by have := Nat.pow_lt_pow_right (show 1 < 2 by omega) hx5; omega)
              rw [← this]; push_cast; rfl
            have HPX := hide (fun W => powerL_any x W (by omega))
            have HDT := hide (fun (W : World) (hb : Below w1.heap.size w1 W) => (show Calls Try.prog 22 #[.agg #[.int .i64 p, .slice A m c, .slice O m d], .int .i64 ((s ||| 2 ^ x : Nat) : Int)] W fun e w' => e = .returned (.bool true) ∧ Below W.heap.size W w' from by
              have h1 := I.out W ((s ||| 2 ^ x : Nat) : Int) hb
              rwa [dk_in HV.out ht32, hkt] at h1))
            clear hkt
            generalize (s ||| 2 ^ x : Nat) = t at *
            generalize (2 : Int) ^ x = px at *
            go_wp2_with fail
            go_region_held3 (fun w' => w'.cell? ⟨w1.heap.size, 0, none⟩ = some (.int .i64 p) ∧ w'.cell? ⟨w1.heap.size, 1, none⟩ = some (.slice A m c) ∧ w'.cell? ⟨w1.heap.size, 2, none⟩ = some (.slice O m d)) (first | exact ⟨x0, x1, x2⟩ | exact ⟨y0, y1, y2⟩) (first | (go_at_call 30; refine (HPX.out _).mono ?_; rintro e _ ⟨rfl, rfl⟩) | (go_at_call 22; refine (HDT.out _ (by first | exact BXX.out | exact BXX.out.drew | exact below_drewN BXX.out _)).mono ?_; rintro e w7 ⟨rfl, hb7⟩; have hb67 : Below wo.heap.size wo w7 := (by first | exact hb7 | exact up hb7 (Below.refl wo.heap.size wo).drew (Nat.le_refl _) | exact up hb7 (below_drewN (Below.refl wo.heap.size wo) _) (Nat.le_refl _)); have y0 := (hb67.cell (p := ⟨w1.heap.size, 0, none⟩) lx).trans x0; have y1 := (hb67.cell (p := ⟨w1.heap.size, 1, none⟩) lx).trans x1; have y2 := (hb67.cell (p := ⟨w1.heap.size, 2, none⟩) lx).trans x2))
            have HF7 := hide (show _ ∧ _ from ⟨up hb67 BXX.out BXX.out.size, KX.out.below hb67 KX.out.lt⟩)
            clear x0 x1 x2 y0 y1 y2 hb67 hb7
            go_wp2_with fail
            go_roundw
            case rel => first | exact ⟨x + 1, by omega, by go_num, HF7.out.1, HF7.out.2⟩ | ((repeat apply Exists.intro); exact ⟨⟨x + 1, by omega, by go_num, HF7.out.1, HF7.out.2⟩, rfl⟩)
            case measure => simp [intOf]; omega
        · obtain rfl : x = 5 := by omega
          have HI0 := hide (fun (W : World) (hb : Below w1.heap.size w1 W) => (show Calls Try.prog 22 #[.agg #[.int .i64 p, .slice A m c, .slice O m d], .int .i64 0] W fun e w' => e = .returned (.bool false) ∧ Below W.heap.size W w' from by
              have h1 := I.out W 0 hb
              rwa [HNONE.out] at h1))
          go_wp2_with fail
          refine (HI0.out _ BXX.out).mono ?_
          rintro e w8 ⟨rfl, hb8⟩
          go_wp2_with fail
          go_ret
          exact ⟨rfl, up (up hb8 BXX.out BXX.out.size) HB1.out z1⟩
end Go.Proofs.Ytcalfblghblhcaa
