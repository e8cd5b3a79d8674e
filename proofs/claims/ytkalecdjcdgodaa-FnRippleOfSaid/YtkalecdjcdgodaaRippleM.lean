/-
  What ripples tell, the program's, whole. Conditions: the sets and the sums can be read.
-/
import Derived.Test.YtkalecdjcdgodaaRippleI
import Derived.Deep.RegionWith
namespace Go.Proofs.Ytkalecdjcdgodaa
open Go.RowKit

theorem lo_set (n : Nat) (f : Nat → Int) (j : Nat) (v : Int) : (listOf n f).set j v = listOf n (fun i => if i = j then v else f i) := by
  refine List.ext_getElem (by simp [listOf]) fun i h1 h2 => ?_
  simp only [listOf, List.length_set, List.length_map, List.length_range] at h1
  simp only [listOf, List.getElem_set, List.getElem_map, List.getElem_range]
  by_cases e : j = i
  · subst e; simp
  · rw [if_neg e, if_neg (fun h => e h.symm)]
theorem lo_congr {n : Nat} {f g : Nat → Int} (h : ∀ i, i < n → f i = g i) : listOf n f = listOf n g := by
  unfold listOf
  exact List.map_congr_left fun i hi => h i (List.mem_range.1 hi)

set_option maxHeartbeats 4000000 in
set_option maxRecDepth 100000 in
theorem RippleOfI_any (n : Int) (A : Option Addr) (m c : Nat) (g : Nat → Int) (B : Option Addr) (m2 d : Nat) (h : Nat → Int) (w : World) (hm : m ≤ 1048576) (h1 : Ints w w.heap.size A m g) (hm2 : m2 ≤ 1048576) (h2 : Ints w w.heap.size B m2 h) :
    Calls Try.prog 43 #[.int .i64 n, .slice A m c, .slice B m2 d] w (RpX n m g m2 h w) := by
  have HI1 := hide (fun (W : World) (hb : Below w.heap.size w W) => h1.keep hb hb.size)
  have HI2 := hide (fun (W : World) (hb : Below w.heap.size w W) => h2.keep hb hb.size)
  have HSO := hide (fun (q : Nat) (hq : q ≤ 7) => setsOk_any A m c q g w (by omega) hq h1)
  have HDG := hide (fun (W : World) (hb : Below w.heap.size w W) => digitsOk_any B m2 d h W (by omega) (h2.keep hb hb.size))
  have HWI := hide (fun (W : World) => within_any n 0 7 W)
  clear h1 h2
  cases hi : inR n 0 7
  · have HN := hide (fun w' hb => rpx_no (w := w) (w' := w') (rp_bad (n := n) (m := m) (g := g) (m2 := m2) (h := h) (by rw [rpOk, hi]; rfl)) hb)
    rw [hi] at HWI
    clear hi
    go_enter Try.func43, Try.ntmps43
    go_wp2_with fail
    refine (HWI.out _).mono ?_
    rintro e _ ⟨rfl, rfl⟩
    go_wp2_with fail
    go_ret2
    exact HN.out _ (Below.refl _ _)
  have hn7 := inR_true.1 hi
  obtain ⟨n, rfl⟩ := Int.eq_ofNat_of_zero_le hn7.1
  have HSO := hide (HSO.out n (by omega))
  rw [hi] at HWI
  cases hs : (decide (m ≤ 12) && noneB m g (badS n))
  · have HN := hide (fun w' hb => rpx_no (w := w) (w' := w') (rp_bad (n := (n : Int)) (m := m) (g := g) (m2 := m2) (h := h) (by rw [rpOk, Int.toNat_natCast, hs]; simp)) hb)
    rw [hs] at HSO
    clear hi hs
    go_enter Try.func43, Try.ntmps43
    go_wp2_with fail
    refine (HWI.out _).mono ?_
    rintro e _ ⟨rfl, rfl⟩
    go_wp2_with fail
    refine (HSO.out).mono ?_
    rintro e w1 ⟨rfl, hb1⟩
    go_wp2_with fail
    go_ret2
    exact HN.out _ hb1
  rw [hs] at HSO
  by_cases he : ¬ m2 = m
  · have HN := hide (fun w' hb => rpx_no (w := w) (w' := w') (rp_bad (n := (n : Int)) (m := m) (g := g) (m2 := m2) (h := h) (by rw [rpOk, decide_eq_false he]; simp)) hb)
    have hne : ((m2 : Int) != (m : Int)) = true := by simp; omega
    clear hi hs he
    go_enter Try.func43, Try.ntmps43
    go_wp2_with fail
    refine (HWI.out _).mono ?_
    rintro e _ ⟨rfl, rfl⟩
    go_wp2_with fail
    refine (HSO.out).mono ?_
    rintro e w1 ⟨rfl, hb1⟩
    go_wp2_with fail
    go_ret2
    exact HN.out _ hb1
  obtain rfl : m2 = m := by omega
  have hne : ((m2 : Int) != (m2 : Int)) = false := by simp
  cases hd : noneB m2 h badD
  · have HN := hide (fun w' hb => rpx_no (w := w) (w' := w') (rp_bad (n := (n : Int)) (m := m2) (g := g) (m2 := m2) (h := h) (by rw [rpOk, hd]; simp)) hb)
    rw [hd] at HDG
    clear hi hs he hd
    go_enter Try.func43, Try.ntmps43
    go_wp2_with fail
    refine (HWI.out _).mono ?_
    rintro e _ ⟨rfl, rfl⟩
    go_wp2_with fail
    refine (HSO.out).mono ?_
    rintro e w1 ⟨rfl, hb1⟩
    go_wp2_with fail
    refine (HDG.out _ hb1).mono ?_
    rintro e _ ⟨rfl, rfl⟩
    go_wp2_with fail
    go_ret2
    exact HN.out _ hb1
  have hok : rpOk n m2 g m2 h = true := by rw [rpOk, hi, Int.toNat_natCast, hs, hd]; simp
  rw [hd] at HDG
  have HOK := hide hok
  have HIN := hide (rp_in hok)
  have hm12 := (rp_in hok).hm
  have hn7' : n ≤ 7 := by omega
  clear hi hs he hd hok
  go_enter Try.func43, Try.ntmps43
  go_wp2_with fail
  refine (HWI.out _).mono ?_
  rintro e _ ⟨rfl, rfl⟩
  go_wp2_with fail
  refine (HSO.out).mono ?_
  rintro e w1 ⟨rfl, hb1⟩
  go_wp2_with fail
  refine (HDG.out _ hb1).mono ?_
  rintro e _ ⟨rfl, rfl⟩
  have HB1 := hide hb1
  have z1 := hb1.size
  clear hb1
  go_wp2_with fail
  refine (slRepeat_any (-1) w1.heap.size 0 1 n _ hn7' (by simp) (by simp) (by omega)).mono ?_
  rintro e w2 ⟨rfl, hbl, hb2⟩
  rw [rpt_full] at hbl
  have hr2 : Row w2 w.heap.size (some ⟨w1.heap.size + 1, 0, none⟩) n n (listOf n (rp n g m2 h 0)) := by
    have h0 : w2.heap[w1.heap.size + 1]? = some (.cells ((listOf n fun _ => (-1 : Int)).map (Value.int .i64)).toArray 3 (0, 0)) := by simpa using hbl.out
    have h3 := Row.of_blk h0 (show w.heap.size ≤ w1.heap.size + 1 by omega) (by rw [listOf_len]; omega)
    rw [listOf_len] at h3
    exact h3
  have HR2 := hide hr2
  have hgl : w1.heap.size + 1 < w2.heap.size := (hr2.blk _ rfl).2
  have HB2 := hide (show Below w.heap.size w w2 from up hb2 (HB1.out.alloc z1 _) (by simp; omega))
  clear hr2 hbl hb2
  simp only [World.size_alloc]
  generalize hg0 : w1.heap.size + 1 = g0 at *
  have hgw : w.heap.size ≤ g0 := by omega
  clear hg0
  go_wp2_with fail
  go_loopg [10] (n + 2) (fun gk v wr => ∃ (told : Bool) (t : Nat), v = .bool told ∧ Row wr w.heap.size (some ⟨g0, 0, none⟩) n n (listOf n (rp n g m2 h t)) ∧ Dg n (rp n g m2 h t) ∧ ((told = true ∧ cu (rp n g m2 h t) n < gk) ∨ (told = false ∧ Stl n g m2 (rp n g m2 h t))) ∧ Below w.heap.size w wr ∧ wr.cell? ⟨w2.heap.size, 0, none⟩ = some (.slice (some ⟨g0, 0, none⟩) n n) ∧ w2.heap.size < wr.heap.size)
  case atStart => exact ⟨true, 0, rfl, HR2.out.alloc _, rp_zero, .inl ⟨rfl, by have : ∀ (l : Nat → Int) k, cu l k ≤ k := (fun l k => by induction k with | zero => exact Nat.le_refl _ | succ k ih => rw [cu]; split <;> omega); have := this (rp n g m2 h 0) n; omega⟩, HB2.out.alloc HB2.out.size _, by simp, by simp⟩
  case round =>
    obtain ⟨told, t, rfl, hrow, hdg, hmd, hb, hbox, hzx⟩ := hrel
    obtain ⟨wo, rfl⟩ : ∃ x, x = wr := ⟨_, rfl⟩
    have HR := hide hrow
    have HD := hide hdg
    have HB := hide hb
    have HBOX := hide hbox
    clear hrow hdg hb HR2 HB2
    have HOPEN := hide (fun (s : Nat) (hs : s < 128) => open_any w2.heap.size n n (some ⟨g0, 0, none⟩) (rp n g m2 h t) s wo hn7' hs HD.out HBOX.out (HR.out.ints.congr (fun i hi => listOf_getD _ hi)))
    rcases hmd with ⟨rfl, hgk⟩ | ⟨rfl, hst⟩
    · have HGK := hide hgk
      have HNEXT := hide (fun (j : Nat) => rp_next (t := t) (j := j) HIN.out HD.out)
      have HTOL := hide (fun (j : Nat) => (show tol n (rp n g m2 h t) g h j = kn (rp n g m2 h t) (g j).toNat n ^^^ (h j).toNat from rfl))
      clear hgk
      have HRPN := hide (show ∀ l' : Nat → Int, rp n g m2 h (t + 1) = l' → Row wo w.heap.size (some ⟨g0, 0, none⟩) n n (listOf n (rp n g m2 h t)) from fun _ _ => HR.out)
      clear HRPN
      go_wp2_with fail
      go_loopw [10, 48] (fun v i wr => ∃ j : Nat, j ≤ m2 ∧ i = .int .i64 j ∧ v = .bool false ∧ (∀ q, q < j → one1 n (rp n g m2 h t) g q = false) ∧ wr = wo) (fun _ i _ => m2 - (intOf i).toNat)
      case atStart => exact ⟨0, by omega, rfl, rfl, by simp, rfl⟩
      case round =>
        obtain ⟨j, hj, rfl, rfl, hall, rfl⟩ := hrel
        have HALL := hide hall
        clear hall
        by_cases hlt : j < m2
        · obtain ⟨bs, os, eA, hbs, hcs⟩ := HI1.out _ HB.out (by omega)
          obtain ⟨s, hs1, hs2, hs3, _⟩ := HIN.out.set j hlt
          have hck := hcs j hlt
          rw [hs1] at hck
          subst eA
          have HOP := hide (HOPEN.out s hs2)
          have hum := um_7 (rp n g m2 h t) s hn7'
          have hkn := kn_lt s HD.out n (Nat.le_refl n)
          have h256 : (2 : Nat) ^ 8 = 256 := rfl
          have HSZ := hide (fun W => size_any (um (rp n g m2 h t) s n) W (by omega))
          have hwt := um_wt (rp n g m2 h t) s n hn7'
          have hul := unk_le (rp n g m2 h t) s n
          rw [hwt] at HSZ
          clear hcs hwt
          cases ho : one1 n (rp n g m2 h t) g j
          · have hu1 : ¬ unk (rp n g m2 h t) s n = 1 := by simpa [one1, hs3] using ho
            have HNX := hide (show ∀ q, q < j + 1 → one1 n (rp n g m2 h t) g q = false from fun q hq => by
              by_cases e : q = j
              · subst e; exact ho
              · exact HALL.out q (by omega))
            have hu1' : (((unk (rp n g m2 h t) s n : Nat) : Int) != 1) = true := by simp; omega
            clear ho
            generalize um (rp n g m2 h t) s n = uu at *
            generalize kn (rp n g m2 h t) s n = kk at *
            generalize unk (rp n g m2 h t) s n = un at *
            go_wp2_with fail
            refine (HOP.out).mono ?_
            rintro e _ ⟨rfl, rfl⟩
            go_wp2_with fail
            refine (HSZ.out _).mono ?_
            rintro e _ ⟨rfl, rfl⟩
            go_wp2_with fail
            go_roundw
            case rel => exact ⟨j + 1, by omega, by go_num, rfl, HNX.out, by first | rfl | trivial⟩
            case measure => simp [intOf]; omega
          · have hu1 : unk (rp n g m2 h t) s n = 1 := by simpa [one1, hs3] using ho
            have hu1' : (((unk (rp n g m2 h t) s n : Nat) : Int) != 1) = false := by rw [hu1]; rfl
            obtain ⟨x1, x2, x3⟩ := HNEXT.out j hlt HALL.out ho
            rw [hs3] at x1
            obtain ⟨dj, d1, d2, d3⟩ := HIN.out.dig j hlt
            rw [HTOL.out j, hs3, d3] at x1
            have hxo : bits .xor .i64 ((kn (rp n g m2 h t) s n : Nat) : Int) (dj : Int) = ((kn (rp n g m2 h t) s n ^^^ dj : Nat) : Int) := xor_nat _ _ (by omega) (by omega)
            have HUB := hide (fun (q : Nat) (hq : q < n) => (show bt (um (rp n g m2 h t) s n) q = un1 (rp n g m2 h t) s q from by rw [um_bt _ s n hn7' q (by omega), decide_eq_true hq, Bool.true_and]))
            have HX1 := hide x1
            have HX2 := hide x2
            have HX3 := hide x3
            clear x1 x2 x3 ho hu1
            generalize kn (rp n g m2 h t) s n ^^^ dj = xx at *
            generalize hum2 : um (rp n g m2 h t) s n = uu at *
            generalize kn (rp n g m2 h t) s n = kk at *
            generalize unk (rp n g m2 h t) s n = un at *
            go_wp2_with fail
            refine (HOP.out).mono ?_
            rintro e _ ⟨rfl, rfl⟩
            go_wp2_with fail
            refine (HSZ.out _).mono ?_
            rintro e _ ⟨rfl, rfl⟩
            have hbx0 := HBOX.out
            go_wp2_with fail
            go_loopw [64] (fun i wr => ∃ q : Nat, q ≤ n ∧ i = .int .i64 q ∧ Row wr w.heap.size (some ⟨g0, 0, none⟩) n n (listOf n (fun i' => if i' < q then stp (rp n g m2 h t) s (xx : Nat) i' else rp n g m2 h t i')) ∧ Below w.heap.size w wr ∧ wr.cell? ⟨w2.heap.size, 0, none⟩ = some (.slice (some ⟨g0, 0, none⟩) n n) ∧ w2.heap.size < wr.heap.size) (fun i _ => n - (intOf i).toNat)
            case atStart => exact ⟨0, by omega, rfl, by rw [lo_congr (g := rp n g m2 h t) (fun i _ => by simp)]; exact HR.out, HB.out, HBOX.out, hzx⟩
            case round =>
              obtain ⟨q, hq, rfl, hrow, hbq, hboxq, hzq⟩ := hrel
              have HRQ := hide hrow
              have HBQ := hide hbq
              have HBXQ := hide hboxq
              clear hrow hbq
              by_cases hqn : q < n
              · have hqI : (q : Int) < (n : Int) := by omega
                have hub := HUB.out q hqn
                cases hbt : bt uu q
                · obtain ⟨f1, f2⟩ := bt_f (show uu ≤ 9223372036854775807 by omega) hbt
                  rw [hbt] at hub
                  have HNXT := hide (show Row wr w.heap.size (some ⟨g0, 0, none⟩) n n (listOf n (fun i' => if i' < q + 1 then stp (rp n g m2 h t) s (xx : Nat) i' else rp n g m2 h t i')) by
                    rw [lo_congr (g := fun i' => if i' < q then stp (rp n g m2 h t) s (xx : Nat) i' else rp n g m2 h t i') (fun i _ => by
                      by_cases e : i = q
                      · subst e; rw [if_pos (by omega), if_neg (by omega), stp, ← hub]; rfl
                      · by_cases h1 : i < q
                        · rw [if_pos (by omega), if_pos h1]
                        · rw [if_neg (by omega), if_neg h1])]
                    exact HRQ.out)
                  clear hbt hub
                  go_wp2_with fail
                  go_roundw
                  case rel => first | exact ⟨q + 1, by omega, by go_num, HNXT.out, HBQ.out, HBXQ.out, hzq⟩ | ((repeat apply Exists.intro); exact ⟨⟨q + 1, by omega, by go_num, HNXT.out, HBQ.out, HBXQ.out, hzq⟩, rfl⟩)
                  case measure => simp [intOf]; omega
                · obtain ⟨f1, f2⟩ := bt_t (show uu ≤ 9223372036854775807 by omega) hbt
                  rw [hbt] at hub
                  obtain ⟨bq, eq, _, _, q3, q4, q5⟩ := HRQ.out.at_ hqn
                  obtain rfl : g0 = bq := by simpa using eq
                  obtain ⟨bh, oh, eB, hbh, hch⟩ := HI2.out _ HBQ.out (by omega)
                  have hcj := hch j hlt
                  rw [d1] at hcj
                  subst eB
                  have hST := q5 (xx : Nat)
                  rw [lo_set] at hST
                  have HST := hide (show Row (wr.setCell ⟨g0, q, none⟩ (.int .i64 (xx : Nat))) w.heap.size (some ⟨g0, 0, none⟩) n n (listOf n (fun i' => if i' < q + 1 then stp (rp n g m2 h t) s (xx : Nat) i' else rp n g m2 h t i')) by
                    rw [lo_congr (g := fun i => if i = q then ((xx : Nat) : Int) else (if i < q then stp (rp n g m2 h t) s (xx : Nat) i else rp n g m2 h t i)) (fun i _ => by
                      by_cases e : i = q
                      · subst e; rw [if_pos (by omega), if_pos rfl, stp, ← hub]; rfl
                      · rw [if_neg e]
                        by_cases h1 : i < q
                        · rw [if_pos (by omega), if_pos h1]
                        · rw [if_neg (by omega), if_neg h1])]
                    exact hST)
                  have hjI : (j : Int) < (m2 : Int) := by omega
                  have hne1 : g0 ≠ w2.heap.size := by omega
                  have hbl1 : bh < wr.heap.size := by have := HBQ.out.size; omega
                  have o1 := (World.cell?_setCell_other wr ⟨g0, q, none⟩ ⟨w2.heap.size, 0, none⟩ (.int .i64 (xx : Nat)) (fun h => hne1 (by injection h))).trans hboxq
                  have HO1 := hide o1
                  clear hbt hub q5 eq hST hch o1
                  go_wp2_with fail
                  go_region
                  all_goals
                    go_wp2_with fail
                    go_roundw
                    case rel => first | exact ⟨q + 1, by omega, by go_num, by first | exact HST.out | exact HST.out.drew, by first | exact HBQ.out.setCell (p := ⟨g0, q, none⟩) hgw _ | exact (HBQ.out.setCell (p := ⟨g0, q, none⟩) hgw _).drew, HO1.out, by simpa [World.setCell] using hzq⟩ | ((repeat apply Exists.intro); exact ⟨⟨q + 1, by omega, by go_num, by first | exact HST.out | exact HST.out.drew, by first | exact HBQ.out.setCell (p := ⟨g0, q, none⟩) hgw _ | exact (HBQ.out.setCell (p := ⟨g0, q, none⟩) hgw _).drew, HO1.out, by simpa [World.setCell] using hzq⟩, rfl⟩)
                    case measure => simp [intOf]; omega
              · obtain rfl : q = n := by omega
                have HRF := hide (show Row wr w.heap.size (some ⟨g0, 0, none⟩) q q (listOf q (rp q g m2 h (t + 1))) by
                  rw [HX1.out, lo_congr (g := fun i' => if i' < q then stp (rp q g m2 h t) s (xx : Nat) i' else rp q g m2 h t i') (fun i hi => by rw [if_pos hi])]
                  exact HRQ.out)
                go_wp2_with fail
                go_roundg (cu (rp q g m2 h t) q)
                case measure => exact HGK.out
                case rel => exact ⟨true, t + 1, rfl, HRF.out, HX2.out, .inl ⟨rfl, HX3.out⟩, HBQ.out, HBXQ.out, hzq⟩
        · obtain rfl : j = m2 := by omega
          have HST := hide (stl_of HALL.out)
          go_wp2_with fail
          go_roundg (cu (rp n g j h t) n)
          case measure => exact HGK.out
          case rel => exact ⟨false, t, rfl, HR.out, HD.out, .inr ⟨rfl, HST.out⟩, HB.out, HBOX.out, hzx⟩
    · have HEQ := hide (rpE_eq hst)
      go_wp2_with fail
      go_loop [85] (fun i => ∃ j : Nat, j ≤ m2 ∧ i = .int .i64 j ∧ (∀ q, q < j → unk (rp n g m2 h t) (g q).toNat n = 0 → kn (rp n g m2 h t) (g q).toNat n = (h q).toNat)) (fun i => m2 - (intOf i).toNat)
      case atStart => exact ⟨0, by omega, rfl, by simp⟩
      case round =>
        obtain ⟨j, hj, rfl, hall⟩ := hrel
        have HALL := hide hall
        clear hall
        by_cases hlt : j < m2
        · obtain ⟨bs, os, eA, hbs, hcs⟩ := HI1.out _ HB.out (by omega)
          obtain ⟨s, hs1, hs2, hs3, _⟩ := HIN.out.set j hlt
          have hck := hcs j hlt
          rw [hs1] at hck
          subst eA
          obtain ⟨bh, oh, eB, hbh, hch⟩ := HI2.out _ HB.out (by omega)
          obtain ⟨dj, d1, d2, d3⟩ := HIN.out.dig j hlt
          have hcj := hch j hlt
          rw [d1] at hcj
          subst eB
          have HOP := hide (HOPEN.out s hs2)
          have hum := um_7 (rp n g m2 h t) s hn7'
          have hkn := kn_lt s HD.out n (Nat.le_refl n)
          have h256 : (2 : Nat) ^ 8 = 256 := rfl
          have hjI : (j : Int) < (m2 : Int) := by omega
          have hbl1 : bh < wo.heap.size := by have := HB.out.size; omega
          have hbl2 : bs < wo.heap.size := by have := HB.out.size; omega
          clear hcs hch
          have HNX := hide (show (unk (rp n g m2 h t) s n = 0 → kn (rp n g m2 h t) s n = dj) → ∀ q, q < j + 1 → unk (rp n g m2 h t) (g q).toNat n = 0 → kn (rp n g m2 h t) (g q).toNat n = (h q).toNat from fun hh q hq => by
            by_cases e : q = j
            · subst e; rw [hs3, d3]; exact hh
            · exact HALL.out q (by omega))
          by_cases h0 : um (rp n g m2 h t) s n = 0
          · have hu0 := (um_unk (rp n g m2 h t) s n).1 h0
            by_cases hk : kn (rp n g m2 h t) s n = dj
            · have HNY := hide (HNX.out (fun _ => hk))
              rw [h0] at HOP
              rw [hk] at HOP
              have hdd : ((dj : Int) != (dj : Int)) = false := by simp
              clear HNX h0 hu0 hk
              go_wp2_with fail
              refine (HOP.out).mono ?_
              rintro e _ ⟨rfl, rfl⟩
              go_wp2_with fail
              go_round
              case rel => first | exact ⟨j + 1, by omega, by go_num, HNY.out⟩ | ((repeat apply Exists.intro); exact ⟨⟨j + 1, by omega, by go_num, HNY.out⟩, rfl⟩)
              case measure => simp [intOf]; omega
            · have HBAD := hide (show rpB n m2 g m2 h = false by
                rw [rpB, Int.toNat_natCast, HEQ.out]
                have : rpFine n g m2 h (rp n g m2 h t) = false := by
                  rw [rpFine, decide_eq_false_iff_not]
                  intro hh
                  have := hh j hlt
                  rw [hs3, d3] at this
                  exact hk (this hu0)
                rw [this]; simp)
              rw [h0] at HOP
              have hdd : (((kn (rp n g m2 h t) s n : Nat) : Int) != (dj : Int)) = true := by simp; omega
              clear HNX h0 hu0 hk
              generalize kn (rp n g m2 h t) s n = kk at *
              go_wp2_with fail
              refine (HOP.out).mono ?_
              rintro e _ ⟨rfl, rfl⟩
              go_wp2_with fail
              go_ret2
              exact rpx_no HBAD.out HB.out
          · have hu0 : ¬ unk (rp n g m2 h t) s n = 0 := fun hz => h0 ((um_unk (rp n g m2 h t) s n).2 hz)
            have HNY := hide (HNX.out (fun hz => absurd hz hu0))
            have h00 : (((um (rp n g m2 h t) s n : Nat) : Int) == 0) = false := by simp; omega
            clear HNX h0 hu0
            generalize um (rp n g m2 h t) s n = uu at *
            generalize kn (rp n g m2 h t) s n = kk at *
            go_wp2_with fail
            refine (HOP.out).mono ?_
            rintro e _ ⟨rfl, rfl⟩
            go_wp2_with fail
            go_round
            case rel => first | exact ⟨j + 1, by omega, by go_num, HNY.out⟩ | ((repeat apply Exists.intro); exact ⟨⟨j + 1, by omega, by go_num, HNY.out⟩, rfl⟩)
            case measure => simp [intOf]; omega
        · obtain rfl : j = m2 := by omega
          have HFIN := hide (show RpX n j g j h w (.returned (.tuple #[.slice (some ⟨g0, 0, none⟩) n n, .bool true])) wo from rpx_yes HOK.out HEQ.out (by rw [rpFine, decide_eq_true_eq]; exact HALL.out) HR.out HB.out n)
          have hbx0 := HBOX.out
          have HCL := hide (fun W => clip_any (some ⟨g0, 0, none⟩) n n W (Nat.le_refl _) (by omega))
          go_wp2_with fail
          refine (HCL.out _).mono ?_
          rintro e _ ⟨rfl, rfl⟩
          go_wp2_with fail
          go_ret2
          exact HFIN.out
end Go.Proofs.Ytkalecdjcdgodaa
