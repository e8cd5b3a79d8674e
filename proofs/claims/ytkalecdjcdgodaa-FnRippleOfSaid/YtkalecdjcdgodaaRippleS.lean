/-
  What ripples tell, the reference's. Conditions: the sets and the sums can be read.
-/
import Derived.Test.YtkalecdjcdgodaaRippleM
namespace Go.Proofs.Ytkalecdjcdgodaa
open Go.RowKit

theorem unknownS_any (A : Option Addr) (n c : Nat) (l : Nat → Int) (s : Nat) (w : World) (hn : n ≤ 7) (hs : s < 128) (h : Ints w w.heap.size A n l) :
    Calls Try.prog 73 #[.slice A n c, .int .i64 s] w fun e w' => e = .returned (.int .i64 (unk l s n : Nat)) ∧ w = w' := by
  have H := hide h
  clear h
  go_enter Try.func73, Try.ntmps73
  go_wp2_with fail
  go_loop [5, 6] (fun v i => ∃ j : Nat, j ≤ n ∧ i = .int .i64 j ∧ v = .int .i64 (unk l s j : Nat)) (fun _ i => n - (intOf i).toNat)
  case atStart => exact ⟨0, by omega, rfl, rfl⟩
  case round =>
    obtain ⟨j, hj, rfl, rfl⟩ := hrel
    have hul := unk_le l s j
    by_cases hlt : j < n
    · obtain ⟨b, off, rfl, hbl, hc⟩ := H.out (by omega)
      have hck := hc j hlt
      have HU := hide (show unk l s (j + 1) = unk l s j + if un1 l s j then 1 else 0 from rfl)
      have hjI : (j : Int) < (n : Int) := by omega
      clear hc
      cases hbt : bt s j
      · have e1 : un1 l s j = false := by simp [un1, hbt]
        rw [e1] at HU
        have HU' := hide (show unk l s (j + 1) = unk l s j from HU.out)
        have HBT := hide (fun W => bitS_f s j W (by omega) (by omega) hbt)
        clear hbt e1 HU
        generalize l j = x at *
        generalize unk l s j = u at *
        go_wp2_with fail
        refine (HBT.out _).mono ?_
        rintro e _ ⟨rfl, rfl⟩
        go_wp2_with fail
        go_round
        case rel => exact ⟨j + 1, by omega, by go_num, by rw [HU'.out]⟩
        case measure => simp [intOf]; omega
      · have HBT := hide (fun W => bitS_t s j W (by omega) (by omega) hbt)
        by_cases hx : l j < 0
        · have e1 : un1 l s j = true := by simp [un1, hbt, hx]
          rw [e1] at HU
          have HU' := hide (show unk l s (j + 1) = unk l s j + 1 from HU.out)
          clear hbt e1 HU
          generalize l j = x at *
          generalize unk l s j = u at *
          go_wp2_with fail
          refine (HBT.out _).mono ?_
          rintro e _ ⟨rfl, rfl⟩
          go_wp2_with fail
          go_round
          case rel => exact ⟨j + 1, by omega, by go_num, by rw [HU'.out]; go_num⟩
          case measure => simp [intOf]; omega
        · have e1 : un1 l s j = false := by simp [un1, hx]
          rw [e1] at HU
          have HU' := hide (show unk l s (j + 1) = unk l s j from HU.out)
          clear hbt e1 HU
          generalize l j = x at *
          generalize unk l s j = u at *
          go_wp2_with fail
          refine (HBT.out _).mono ?_
          rintro e _ ⟨rfl, rfl⟩
          go_wp2_with fail
          go_round
          case rel => exact ⟨j + 1, by omega, by go_num, by rw [HU'.out]⟩
          case measure => simp [intOf]; omega
    · obtain rfl : j = n := by omega
      go_wp2_with fail
      go_ret
      exact ⟨rfl, rfl⟩

/-- the last unknown number among the first -/
def atF (l : Nat → Int) (s : Nat) : Nat → Nat | 0 => 0 | i + 1 => if un1 l s i then i else atF l s i
theorem unk_no {l : Nat → Int} {s : Nat} : ∀ {n}, unk l s n = 0 → ∀ i, i < n → un1 l s i = false
  | 0, _, i, hi => absurd hi (by omega)
  | n + 1, h, i, hi => by
    rw [unk] at h
    by_cases e : i = n
    · subst e
      cases hu : un1 l s i
      · rfl
      · rw [hu, if_pos rfl] at h; omega
    · exact unk_no (n := n) (by omega) i (by omega)
theorem atF_one {l : Nat → Int} {s : Nat} : ∀ {n}, unk l s n = 1 → atF l s n < n ∧ ∀ i, i < n → (un1 l s i = true ↔ i = atF l s n)
  | 0, h => by simp [unk] at h
  | n + 1, h => by
    rw [unk] at h
    cases hu : un1 l s n
    · rw [hu] at h
      obtain ⟨h1, h2⟩ := atF_one (l := l) (s := s) (n := n) (by simpa using h)
      rw [atF, hu]
      refine ⟨by simp; omega, fun i hi => ?_⟩
      simp only [Bool.false_eq_true, if_false]
      by_cases e : i = n
      · subst e
        rw [hu]
        constructor
        · intro h; cases h
        · intro h; omega
      · exact h2 i (by omega)
    · rw [hu, if_pos rfl] at h
      have h0 := unk_no (n := n) (by omega : unk l s n = 0)
      rw [atF, hu, if_pos rfl]
      refine ⟨by omega, fun i hi => ?_⟩
      by_cases e : i = n
      · subst e; rw [hu]; simp
      · rw [h0 i (by omega)]
        constructor
        · intro h; cases h
        · intro h; exact absurd h e
theorem xor_zero_iff {a b : Nat} : a ^^^ b = 0 ↔ a = b := by
  constructor
  · intro h
    refine Nat.eq_of_testBit_eq fun i => ?_
    have := congrArg (fun z => z.testBit i) h
    simp only [Nat.testBit_xor, Nat.zero_testBit] at this
    cases h1 : a.testBit i <;> cases h2 : b.testBit i <;> simp_all
  · rintro rfl; exact Nat.xor_self a

set_option maxHeartbeats 4000000 in
set_option maxRecDepth 100000 in
theorem RippleOfS_any (n : Int) (A : Option Addr) (m c : Nat) (g : Nat → Int) (B : Option Addr) (m2 d : Nat) (h : Nat → Int) (w : World) (hm : m ≤ 1048576) (h1 : Ints w w.heap.size A m g) (hm2 : m2 ≤ 1048576) (h2 : Ints w w.heap.size B m2 h) :
    Calls Try.prog 42 #[.int .i64 n, .slice A m c, .slice B m2 d] w (RpX n m g m2 h w) := by
  have HI1 := hide (fun (W : World) (hb : Below w.heap.size w W) => h1.keep hb hb.size)
  have HI2 := hide (fun (W : World) (hb : Below w.heap.size w W) => h2.keep hb hb.size)
  have HWI := hide (fun (W : World) => inRange_any n 0 7 W)
  clear h1 h2
  cases hi : inR n 0 7
  · have HN := hide (fun w' hb => rpx_no (w := w) (w' := w') (rp_bad (n := n) (m := m) (g := g) (m2 := m2) (h := h) (by rw [rpOk, hi]; rfl)) hb)
    rw [hi] at HWI
    clear hi
    go_enter Try.func42, Try.ntmps42
    go_wp2_with fail
    refine (HWI.out _).mono ?_
    rintro e _ ⟨rfl, rfl⟩
    go_wp2_with fail
    go_ret2
    exact HN.out _ (Below.refl _ _)
  have hn7 := inR_true.1 hi
  obtain ⟨n, rfl⟩ := Int.eq_ofNat_of_zero_le hn7.1
  rw [hi] at HWI
  by_cases he : ¬ m2 = m
  · have HN := hide (fun w' hb => rpx_no (w := w) (w' := w') (rp_bad (n := (n : Int)) (m := m) (g := g) (m2 := m2) (h := h) (by rw [rpOk, decide_eq_false he]; simp)) hb)
    have hne : ((m : Int) != (m2 : Int)) = true := by simp; omega
    clear hi he
    go_enter Try.func42, Try.ntmps42
    go_wp2_with fail
    refine (HWI.out _).mono ?_
    rintro e _ ⟨rfl, rfl⟩
    go_wp2_with fail
    go_ret2
    exact HN.out _ (Below.refl _ _)
  obtain rfl : m2 = m := by omega
  have hne : ((m2 : Int) != (m2 : Int)) = false := by simp
  by_cases h12 : ¬ m2 ≤ 12
  · have HN := hide (fun w' hb => rpx_no (w := w) (w' := w') (rp_bad (n := (n : Int)) (m := m2) (g := g) (m2 := m2) (h := h) (by rw [rpOk, decide_eq_false h12]; simp)) hb)
    have h12' : (12 : Int) < (m2 : Int) := by omega
    clear hi he h12
    go_enter Try.func42, Try.ntmps42
    go_wp2_with fail
    refine (HWI.out _).mono ?_
    rintro e _ ⟨rfl, rfl⟩
    go_wp2_with fail
    go_ret2
    exact HN.out _ (Below.refl _ _)
  have hm12 : m2 ≤ 12 := by omega
  have hn7' : n ≤ 7 := by omega
  have HOKX := hide (show (∀ q, q < m2 → inR (g q) 0 (2 ^ n - 1) = true ∧ inR (h q) 0 255 = true) → rpOk n m2 g m2 h = true from fun hall => by
    have a1 : noneB m2 g (badS n) = true := noneB_true.2 fun i hi => by rw [badS, (hall i hi).1]; rfl
    have a2 : noneB m2 h badD = true := noneB_true.2 fun i hi => by rw [badD, (hall i hi).2]; rfl
    rw [rpOk, hi, Int.toNat_natCast, a1, a2, decide_eq_true hm12]; simp)
  have HBADX := hide (show ∀ q, q < m2 → (inR (g q) 0 (2 ^ n - 1) && inR (h q) 0 255) = false → rpB n m2 g m2 h = false from fun q hq hh => rp_bad (by
    rw [Bool.and_eq_false_iff] at hh
    rcases hh with hh | hh
    · have : noneB m2 g (badS n) = false := noneB_false ⟨q, hq, by rw [badS, hh]; rfl⟩
      rw [rpOk, Int.toNat_natCast, this]; simp
    · have : noneB m2 h badD = false := noneB_false ⟨q, hq, by rw [badD, hh]; rfl⟩
      rw [rpOk, this]; simp))
  have HPW := hide (fun W => powerS_any n W (by omega))
  have hp0 := two_pow_pos n
  have hp1 := two_pow_le hn7'
  rw [show (2 : Int) ^ 7 = 128 by decide] at hp1
  clear hi he h12
  go_enter Try.func42, Try.ntmps42
  go_wp2_with fail
  refine (HWI.out _).mono ?_
  rintro e _ ⟨rfl, rfl⟩
  go_wp2_with fail
  go_loopw [8] (fun v wr => ∃ (k : Nat) (A' : Option Addr) (c' : Nat), k ≤ n ∧ v = .slice A' k c' ∧ Row wr w.heap.size A' k c' (listOf k fun _ => -1) ∧ Below w.heap.size w wr) (fun v _ => match v with | .slice _ k _ => n - k | _ => 0)
  case atStart => exact ⟨0, _, _, by omega, rfl, Row.lit (n := 0) (xs := []) rfl rfl (Nat.le_refl _), by go_grown⟩
  case round =>
    obtain ⟨k, A', c', hk, rfl, hrow, hb⟩ := hrel
    have HR := hide hrow
    have HB := hide hb
    have hz := hb.size
    clear hrow hb
    by_cases hkn : k < n
    · have HLS := hide (show (listOf (k + 1) fun _ => (-1 : Int)) = (listOf k fun _ => -1) ++ [-1] by simp [listOf, List.range_succ])
      have hkI : (k : Int) < (n : Int) := by omega
      go_wp2_with (at_builtin; refine push_int rfl _ _ rfl _ rfl HR.out (-1) _ rfl (by omega) hz ?_; intro A3 c3 w3 hr3 hb3 hg3 hat3; have HF := hide (show _ ∧ _ from ⟨hr3, HB.out.trans hb3⟩); clear hr3 hb3 hg3 hat3)
      go_roundw
      case rel => first | exact ⟨k + 1, A3, c3, by omega, rfl, by rw [HLS.out]; exact HF.out.1, HF.out.2⟩ | ((repeat apply Exists.intro); exact ⟨⟨k + 1, A3, c3, by omega, rfl, by rw [HLS.out]; exact HF.out.1, HF.out.2⟩, rfl⟩)
      case measure => simp; omega
    · obtain rfl : k = n := by omega
      obtain ⟨wo, rfl⟩ : ∃ x, x = wr := ⟨_, rfl⟩
      have hwu : IntKind.i64.wrap ((2 : Int) ^ k - 1) = (2 : Int) ^ k - 1 := IntWalk.i64_in _ (by omega)
      generalize (2 : Int) ^ k = pk at *
      go_wp2_with fail
      go_loopw [9] (fun i wr => ∃ j : Nat, j ≤ m2 ∧ i = .int .i64 j ∧ (∀ q, q < j → inR (g q) 0 (pk - 1) = true ∧ inR (h q) 0 255 = true) ∧ ∃ z, wr = wo.drewN z) (fun i _ => m2 - (intOf i).toNat)
      case atStart => exact ⟨0, Nat.zero_le _, rfl, by simp, 0, rfl⟩
      case round =>
        obtain ⟨j, hj, rfl, hall, z, rfl⟩ := hrel
        have HALL := hide hall
        clear hall
        by_cases hlt : j < m2
        · obtain ⟨bs, os, eA, hbs, hcs⟩ := HI1.out wo HB.out (by omega)
          have hck : wo.cell? ⟨bs, os + j, none⟩ = some (.int .i64 (g j)) := hcs j hlt
          subst eA
          obtain ⟨bh, oh, eB, hbh, hch⟩ := HI2.out wo HB.out (by omega)
          have hcj : wo.cell? ⟨bh, oh + j, none⟩ = some (.int .i64 (h j)) := hch j hlt
          subst eB
          have HR1 := hide (fun W => inRange_any (g j) 0 (pk - 1) W)
          have HR2 := hide (fun W => inRange_any (h j) 0 255 W)
          have HBJ := hide (HBADX.out j hlt)
          have HNX := hide (show inR (g j) 0 (pk - 1) = true → inR (h j) 0 255 = true → ∀ q, q < j + 1 → inR (g q) 0 (pk - 1) = true ∧ inR (h q) 0 255 = true from fun a1 a2 q hq => by
            by_cases e : q = j
            · subst e; exact ⟨a1, a2⟩
            · exact HALL.out q (by omega))
          have hjI : (j : Int) < (m2 : Int) := by omega
          clear hcs hch
          generalize g j = x at *
          generalize h j = y at *
          cases hx : inR x 0 (pk - 1)
          · have HX := hide (HBJ.out (by rw [hx]; rfl))
            rw [hx] at HR1
            clear hx HBJ HNX
            go_wp2_with fail
            go_quiet ((first | (go_at_call 64; with_reducible exact quietL (HPW.out _)) | (go_at_call 56; with_reducible exact quietL (HR1.out _)) | (go_at_call 56; with_reducible exact quietL (HR2.out _))))
            go_wp2_with fail
            go_ret2
            exact rpx_no HX.out (by first | exact below_drewN HB.out _ | exact below_drewN (below_drewN HB.out _) _)
          · cases hy : inR y 0 255
            · have HX := hide (HBJ.out (by rw [hy]; simp))
              rw [hx] at HR1
              rw [hy] at HR2
              clear hx hy HBJ HNX
              go_wp2_with fail
              go_quiet ((first | (go_at_call 64; with_reducible exact quietL (HPW.out _)) | (go_at_call 56; with_reducible exact quietL (HR1.out _)) | (go_at_call 56; with_reducible exact quietL (HR2.out _))))
              go_wp2_with fail
              go_ret2
              exact rpx_no HX.out (by first | exact below_drewN HB.out _ | exact below_drewN (below_drewN HB.out _) _)
            · have HX := hide (HNX.out hx hy)
              rw [hx] at HR1
              rw [hy] at HR2
              clear hx hy HBJ HNX
              go_wp2_with fail
              go_quiet ((first | (go_at_call 64; with_reducible exact quietL (HPW.out _)) | (go_at_call 56; with_reducible exact quietL (HR1.out _)) | (go_at_call 56; with_reducible exact quietL (HR2.out _))))
              go_wp2_with fail
              clear hwu
              go_roundw
              case rel => first | exact ⟨j + 1, by omega, by go_num, HX.out, by first | exact ⟨_, rfl⟩ | exact ⟨_, World.drewN_drewN _ _ _⟩⟩ | ((repeat apply Exists.intro); exact ⟨⟨j + 1, by omega, by go_num, HX.out, by first | exact ⟨_, rfl⟩ | exact ⟨_, World.drewN_drewN _ _ _⟩⟩, rfl⟩)
              case measure => simp [intOf]; omega
        · obtain rfl : j = m2 := by omega
          have HOK := hide (HOKX.out HALL.out)
          have HIN := hide (rp_in HOK.out)
          have HRZ := hide (show Row (wo.drewN z) w.heap.size A' k c' (listOf k (rp k g j h 0)) from HR.out)
          have HBZ := hide (below_drewN HB.out z)
          obtain ⟨wz, hwz⟩ : ∃ x, x = wo.drewN z := ⟨_, rfl⟩
          rw [← hwz] at HRZ HBZ
          rw [← hwz]
          clear hwz HR HB HALL HBADX HOKX HPW HWI hwu
          go_wp2_with fail
          go_loopg [10] (k + 2) (fun gk v wr => ∃ (nx t : Nat), nx ≤ j ∧ (nx < j ∨ j = 0) ∧ v = .int .i64 nx ∧ Row wr w.heap.size A' k c' (listOf k (rp k g j h t)) ∧ Dg k (rp k g j h t) ∧ cu (rp k g j h t) k < gk ∧ Below w.heap.size w wr)
          case atStart => exact ⟨0, 0, by omega, by omega, rfl, HRZ.out, rp_zero, by have : ∀ (l : Nat → Int) q, cu l q ≤ q := (fun l q => by induction q with | zero => exact Nat.le_refl _ | succ q ih => rw [cu]; split <;> omega); have := this (rp k g j h 0) k; omega, HBZ.out⟩
          case round =>
            obtain ⟨nx0, t, hnx, hnx2, rfl, hrow, hdg, hgk, hb⟩ := hrel
            obtain ⟨wp, rfl⟩ : ∃ x, x = wr := ⟨_, rfl⟩
            have HR := hide hrow
            have HD := hide hdg
            have HGK := hide hgk
            have HB := hide hb
            have hz := hb.size
            clear hrow hdg hgk hb HRZ HBZ
            have HNEXT := hide (fun (j' : Nat) => rp_next (t := t) (j := j') HIN.out HD.out)
            have HUK := hide (fun (s : Nat) (hs : s < 128) => unknownS_any A' k c' (rp k g j h t) s wp hn7' hs (HR.out.ints.congr (fun i hi => listOf_getD _ hi)))
            have HEND := hide (show Stl k g j (rp k g j h t) → rpE k g j h = rp k g j h t from fun hh => rpE_eq hh)
            by_cases hn0 : nx0 < j
            · have hnI : (nx0 : Int) < (j : Int) := by omega
              clear hnx2
              go_wp2_with fail
              go_loop [10, 11] (fun v i => ∃ q nx : Nat, q ≤ nx ∧ nx ≤ j ∧ i = .int .i64 ((q : Int) - 1) ∧ v = .int .i64 nx ∧ (∀ r, q ≤ r → r < nx → one1 k (rp k g j h t) g r = false) ∧ (nx < j → one1 k (rp k g j h t) g nx = true)) (fun _ i => (intOf i + 1).toNat)
              case atStart => exact ⟨j, j, Nat.le_refl _, Nat.le_refl _, by go_num, rfl, fun r h1 h2 => absurd h2 (by omega), fun h => absurd h (by omega)⟩
              case round =>
                obtain ⟨q, nx, hq, hnxj, rfl, rfl, hf, ht⟩ := hrel
                have HF := hide hf
                have HT := hide ht
                clear hf ht
                by_cases hq0 : 0 < q
                · obtain ⟨q, rfl⟩ : ∃ r, q = r + 1 := ⟨q - 1, by omega⟩
                  have eq1 : ((q + 1 : Nat) : Int) - 1 = (q : Int) := by omega
                  rw [eq1]
                  obtain ⟨bs, os, eA, hbs, hcs⟩ := HI1.out wp HB.out (by omega)
                  obtain ⟨s, hs1, hs2, hs3, _⟩ := HIN.out.set q (by omega)
                  have hck := hcs q (by omega)
                  rw [hs1] at hck
                  subst eA
                  have HUQ := hide (HUK.out s hs2)
                  have hul := unk_le (rp k g j h t) s k
                  have hqI : (q : Int) < (j : Int) := by omega
                  have hq00 : (0 : Int) ≤ (q : Int) := by omega
                  clear hcs eq1
                  cases ho : one1 k (rp k g j h t) g q
                  · have hu1 : ¬ unk (rp k g j h t) s k = 1 := by simpa [one1, hs3] using ho
                    have hu1' : (((unk (rp k g j h t) s k : Nat) : Int) == 1) = false := by simp; omega
                    have HF2 := hide (show ∀ r, q ≤ r → r < nx → one1 k (rp k g j h t) g r = false from fun r h1 h2 => by
                      by_cases e : r = q
                      · subst e; exact ho
                      · exact HF.out r (by omega) h2)
                    clear ho hu1
                    generalize unk (rp k g j h t) s k = un at *
                    go_wp2_with fail
                    refine (HUQ.out).mono ?_
                    rintro e _ ⟨rfl, rfl⟩
                    go_wp2_with fail
                    go_round
                    case rel => first | exact ⟨q, nx, by omega, hnxj, by go_num, rfl, HF2.out, HT.out⟩ | ((repeat apply Exists.intro); exact ⟨⟨q, nx, by omega, hnxj, by go_num, rfl, HF2.out, HT.out⟩, rfl⟩)
                    case measure => simp [intOf] <;> omega
                  · have hu1 : unk (rp k g j h t) s k = 1 := by simpa [one1, hs3] using ho
                    rw [hu1] at HUQ
                    have HOO := hide ho
                    clear ho hu1 hul
                    go_wp2_with fail
                    refine (HUQ.out).mono ?_
                    rintro e _ ⟨rfl, rfl⟩
                    go_wp2_with fail
                    go_round
                    case rel => first | exact ⟨q, q, by omega, by omega, by go_num, rfl, fun r h1 h2 => absurd h2 (by omega), fun _ => HOO.out⟩ | ((repeat apply Exists.intro); exact ⟨⟨q, q, by omega, by omega, by go_num, rfl, fun r h1 h2 => absurd h2 (by omega), fun _ => HOO.out⟩, rfl⟩)
                    case measure => simp [intOf] <;> omega
                · obtain rfl : q = 0 := by omega
                  by_cases hnj : nx < j
                  · skip
                    obtain ⟨s, hs1, hs2, hs3, _⟩ := HIN.out.set nx hnj
                    obtain ⟨dj, d1, d2, d3⟩ := HIN.out.dig nx hnj
                    have HT1 := hide (HT.out hnj)
                    have hu1 : unk (rp k g j h t) s k = 1 := by have := HT1.out; simpa [one1, hs3] using this
                    obtain ⟨x1, x2, x3⟩ := HNEXT.out nx hnj (fun i hi => HF.out i (by omega) hi) HT1.out
                    have etol : tol k (rp k g j h t) g h nx = kn (rp k g j h t) s k ^^^ dj := by rw [tol, hs3, d3]
                    rw [hs3, etol] at x1
                    obtain ⟨at1, at2⟩ := atF_one hu1
                    have HX1 := hide x1
                    have HX2 := hide x2
                    have HX3 := hide x3
                    have HAT1 := hide at1
                    have HAT2 := hide at2
                    obtain ⟨bs, os, eA, hbs, hcs⟩ := HI1.out wp HB.out (by omega)
                    have hck := hcs nx hnj
                    rw [hs1] at hck
                    subst eA
                    obtain ⟨bh, oh, eB, hbh, hch⟩ := HI2.out wp HB.out (by omega)
                    have hcj := hch nx hnj
                    rw [d1] at hcj
                    subst eB
                    have h256 : (2 : Nat) ^ 8 = 256 := rfl
                    have hnI2 : (nx : Int) < (j : Int) := by omega
                    have hnI0 : (0 : Int) ≤ (nx : Int) := by omega
                    have hnne : ((nx : Int) == (j : Int)) = false := by simp; omega
                    have hbl1 : bh < wp.heap.size := by omega
                    have hbl2 : bs < wp.heap.size := by omega
                    clear hcs hch x1 x2 x3 at1 at2 hs1 d1 hs3 d3 etol hu1 HF HT HT1
                    go_wp2_with fail
                    go_loop [12, 13, 14] (fun v a i => ∃ r : Nat, r ≤ k ∧ i = .int .i64 r ∧ a = .int .i64 (atF (rp k g j h t) s r : Nat) ∧ v = .int .i64 ((dj ^^^ kn (rp k g j h t) s r : Nat) : Int)) (fun _ _ i => k - (intOf i).toNat)
                    case atStart => exact ⟨0, by omega, rfl, rfl, by rw [kn, Nat.xor_zero]⟩
                    case round =>
                      obtain ⟨r, hr, rfl, rfl, rfl⟩ := hrel
                      have hkn := kn_lt s HD.out r hr
                      have hxb : dj ^^^ kn (rp k g j h t) s r < 2 ^ 8 := Nat.xor_lt_two_pow d2 hkn
                      by_cases hrk : r < k
                      · have hb1 := HD.out r hrk
                        obtain ⟨bo, eo, _, hbo, hco, _⟩ := HR.out.at_ hrk
                        rw [listOf_getD _ hrk] at hco
                        subst eo
                        have HK := hide (show kn (rp k g j h t) s (r + 1) = if kn1 (rp k g j h t) s r then kn (rp k g j h t) s r ^^^ (rp k g j h t r).toNat else kn (rp k g j h t) s r from rfl)
                        have HA := hide (show atF (rp k g j h t) s (r + 1) = if un1 (rp k g j h t) s r then r else atF (rp k g j h t) s r from rfl)
                        have hrI : (r : Int) < (k : Int) := by omega
                        cases hbt : bt s r
                        · have e2 : kn1 (rp k g j h t) s r = false := by simp [kn1, hbt]
                          have e3 : un1 (rp k g j h t) s r = false := by simp [un1, hbt]
                          rw [e2] at HK
                          rw [e3] at HA
                          have HK' := hide (show kn (rp k g j h t) s (r + 1) = kn (rp k g j h t) s r from HK.out)
                          have HA' := hide (show atF (rp k g j h t) s (r + 1) = atF (rp k g j h t) s r from HA.out)
                          have HBT := hide (fun W => bitS_f s r W (by omega) (by omega) hbt)
                          clear hbt e2 e3 HK HA
                          generalize rp k g j h t r = x at *
                          generalize hx0 : dj ^^^ kn (rp k g j h t) s r = xx at *
                          have HX0 := hide hx0
                          clear hx0
                          generalize atF (rp k g j h t) s r = aa at *
                          go_wp2_with fail
                          refine (HBT.out _).mono ?_
                          rintro e _ ⟨rfl, rfl⟩
                          go_wp2_with fail
                          refine (HBT.out _).mono ?_
                          rintro e _ ⟨rfl, rfl⟩
                          go_wp2_with fail
                          go_round
                          case rel => first | exact ⟨r + 1, by omega, by go_num, by rw [HA'.out], by rw [HK'.out, HX0.out]⟩ | ((repeat apply Exists.intro); exact ⟨⟨r + 1, by omega, by go_num, by rw [HA'.out], by rw [HK'.out, HX0.out]⟩, rfl⟩)
                          case measure => simp [intOf] <;> omega
                        · have HBT := hide (fun W => bitS_t s r W (by omega) (by omega) hbt)
                          by_cases hx : rp k g j h t r < 0
                          · have e2 : kn1 (rp k g j h t) s r = false := by simp [kn1]; omega
                            have e3 : un1 (rp k g j h t) s r = true := by simp [un1, hbt, hx]
                            rw [e2] at HK
                            rw [e3] at HA
                            have HK' := hide (show kn (rp k g j h t) s (r + 1) = kn (rp k g j h t) s r from HK.out)
                            have HA' := hide (show atF (rp k g j h t) s (r + 1) = r from HA.out)
                            clear hbt e2 e3 HK HA
                            generalize rp k g j h t r = x at *
                            generalize hx0 : dj ^^^ kn (rp k g j h t) s r = xx at *
                            have HX0 := hide hx0
                            clear hx0
                            generalize atF (rp k g j h t) s r = aa at *
                            go_wp2_with fail
                            refine (HBT.out _).mono ?_
                            rintro e _ ⟨rfl, rfl⟩
                            go_wp2_with fail
                            go_round
                            case rel => first | exact ⟨r + 1, by omega, by go_num, by rw [HA'.out], by rw [HK'.out, HX0.out]⟩ | ((repeat apply Exists.intro); exact ⟨⟨r + 1, by omega, by go_num, by rw [HA'.out], by rw [HK'.out, HX0.out]⟩, rfl⟩)
                            case measure => simp [intOf] <;> omega
                          · have e2 : kn1 (rp k g j h t) s r = true := by simp [kn1, hbt]; omega
                            have e3 : un1 (rp k g j h t) s r = false := by simp [un1, hx]
                            rw [e2] at HK
                            rw [e3] at HA
                            have HK' := hide (show kn (rp k g j h t) s (r + 1) = kn (rp k g j h t) s r ^^^ (rp k g j h t r).toNat from HK.out)
                            have HA' := hide (show atF (rp k g j h t) s (r + 1) = atF (rp k g j h t) s r from HA.out)
                            have hxo : bits .xor .i64 ((dj ^^^ kn (rp k g j h t) s r : Nat) : Int) (rp k g j h t r) = ((dj ^^^ (kn (rp k g j h t) s r ^^^ (rp k g j h t r).toNat) : Nat) : Int) := by
                              have := xor_nat (dj ^^^ kn (rp k g j h t) s r) (rp k g j h t r).toNat (by omega) (by omega)
                              rw [show (((rp k g j h t r).toNat : Nat) : Int) = rp k g j h t r by omega] at this
                              rw [← Nat.xor_assoc]
                              exact this
                            clear hbt e2 e3 HK HA
                            generalize hx1 : dj ^^^ (kn (rp k g j h t) s r ^^^ (rp k g j h t r).toNat) = x1 at *
                            have HX1' := hide hx1
                            clear hx1
                            generalize hx0 : dj ^^^ kn (rp k g j h t) s r = xx at *
                            clear hx0
                            generalize hxv : rp k g j h t r = x at *
                            have HXV := hide hxv
                            clear hxv
                            generalize atF (rp k g j h t) s r = aa at *
                            go_wp2_with fail
                            refine (HBT.out _).mono ?_
                            rintro e _ ⟨rfl, rfl⟩
                            go_wp2_with fail
                            refine (HBT.out _).mono ?_
                            rintro e _ ⟨rfl, rfl⟩
                            go_wp2_with fail
                            go_round
                            case rel => first | exact ⟨r + 1, by omega, by go_num, by rw [HA'.out], by rw [HK'.out, HXV.out, HX1'.out]⟩ | exact ⟨r + 1, by omega, by go_num, by rw [HA'.out], by rw [HK'.out, HX1'.out]⟩ | ((repeat apply Exists.intro); exact ⟨⟨r + 1, by omega, by go_num, by rw [HA'.out], by rw [HK'.out, HX1'.out]⟩, rfl⟩)
                            case measure => simp [intOf] <;> omega
                      · have hrk' : r = k := by omega
                        rw [hrk'] at hkn hxb
                        rw [hrk']
                        obtain ⟨bo, eo, hbo1, hbo, hco, hcf, hset⟩ := HR.out.at_ HAT1.out
                        have hST := hset ((dj ^^^ kn (rp k g j h t) s k : Nat) : Int)
                        rw [lo_set] at hST
                        have HST := hide (show Row (wp.setCell ⟨bo, atF (rp k g j h t) s k, none⟩ (.int .i64 ((dj ^^^ kn (rp k g j h t) s k : Nat) : Int))) w.heap.size A' k c' (listOf k (rp k g j h (t + 1))) by
                          rw [HX1.out, lo_congr (g := fun i => if i = atF (rp k g j h t) s k then ((dj ^^^ kn (rp k g j h t) s k : Nat) : Int) else rp k g j h t i) (fun i hi => by
                            rw [stp]
                            by_cases e : i = atF (rp k g j h t) s k
                            · rw [if_pos ((HAT2.out i hi).2 e), if_pos e, Nat.xor_comm]
                            · rw [if_neg (fun hu => e ((HAT2.out i hi).1 hu)), if_neg e])]
                          exact hST)
                        subst eo
                        have haI : ((atF (rp k g j h t) s k : Nat) : Int) < (k : Int) := by have := HAT1.out; omega
                        have haI0 : (0 : Int) ≤ ((atF (rp k g j h t) s k : Nat) : Int) := by omega
                        clear hset hST
                        generalize atF (rp k g j h t) s k = aa at *
                        generalize dj ^^^ kn (rp k g j h t) s k = xx at *
                        have hrn : ¬ (r : Int) < (k : Int) := by omega
                        clear hrk'
                        go_wp2_with fail
                        go_roundg (cu (rp k g j h t) k)
                        case measure => exact HGK.out
                        case rel => exact ⟨nx, t + 1, by omega, .inl hnj, rfl, HST.out, HX2.out, HX3.out, HB.out.setCell (p := ⟨bo, aa, none⟩) hbo1 _⟩
                  · have hnj' : nx = j := by omega
                    have HST := hide (show Stl k g j (rp k g j h t) from stl_of (fun i hi => HF.out i (by omega) (by omega)))
                    have hnne : ((nx : Int) == (j : Int)) = true := by simp; omega
                    clear hnj'
                    have HEQ := hide (HEND.out HST.out)
                    go_wp2_with fail
                    go_loop [15] (fun i => ∃ q : Nat, q ≤ j ∧ i = .int .i64 q ∧ (∀ r, r < q → unk (rp k g j h t) (g r).toNat k = 0 → kn (rp k g j h t) (g r).toNat k = (h r).toNat)) (fun i => j - (intOf i).toNat)
                    case atStart => exact ⟨0, by omega, rfl, by simp⟩
                    case round =>
                      obtain ⟨q, hq, rfl, hall⟩ := hrel
                      have HALL := hide hall
                      clear hall
                      by_cases hlt : q < j
                      · obtain ⟨bs, os, eA, hbs, hcs⟩ := HI1.out wp HB.out (by omega)
                        obtain ⟨s, hs1, hs2, hs3, _⟩ := HIN.out.set q hlt
                        have hck := hcs q hlt
                        rw [hs1] at hck
                        subst eA
                        obtain ⟨bh, oh, eB, hbh, hch⟩ := HI2.out wp HB.out (by omega)
                        obtain ⟨dj, d1, d2, d3⟩ := HIN.out.dig q hlt
                        have hcj := hch q hlt
                        rw [d1] at hcj
                        subst eB
                        have HUQ := hide (HUK.out s hs2)
                        have h256 : (2 : Nat) ^ 8 = 256 := rfl
                        have hqI : (q : Int) < (j : Int) := by omega
                        have hqI0 : (0 : Int) ≤ (q : Int) := by omega
                        have hbl1 : bh < wp.heap.size := by omega
                        have hbl2 : bs < wp.heap.size := by omega
                        clear hcs hch
                        have HNX := hide (show (unk (rp k g j h t) s k = 0 → kn (rp k g j h t) s k = dj) → ∀ r, r < q + 1 → unk (rp k g j h t) (g r).toNat k = 0 → kn (rp k g j h t) (g r).toNat k = (h r).toNat from fun hh r hr => by
                          by_cases e : r = q
                          · subst e; rw [hs3, d3]; exact hh
                          · exact HALL.out r (by omega))
                        have HS3 := hide hs3
                        have HD3 := hide d3
                        clear hs3 d3 hs1 d1
                        go_wp2_with fail
                        go_loop [16, 17] (fun v i => ∃ r : Nat, r ≤ k ∧ i = .int .i64 r ∧ v = .int .i64 ((dj ^^^ kn (rp k g j h t) s r : Nat) : Int)) (fun _ i => k - (intOf i).toNat)
                        case atStart => exact ⟨0, by omega, rfl, by rw [kn, Nat.xor_zero]⟩
                        case round =>
                          obtain ⟨r, hr, rfl, rfl⟩ := hrel
                          have hkn := kn_lt s HD.out r hr
                          have hxb : dj ^^^ kn (rp k g j h t) s r < 2 ^ 8 := Nat.xor_lt_two_pow d2 hkn
                          by_cases hrk : r < k
                          · have hb1 := HD.out r hrk
                            obtain ⟨bo, eo, _, hbo, hco, _⟩ := HR.out.at_ hrk
                            rw [listOf_getD _ hrk] at hco
                            subst eo
                            have HK := hide (show kn (rp k g j h t) s (r + 1) = if kn1 (rp k g j h t) s r then kn (rp k g j h t) s r ^^^ (rp k g j h t r).toNat else kn (rp k g j h t) s r from rfl)
                            have hrI : (r : Int) < (k : Int) := by omega
                            cases hbt : bt s r
                            · have e2 : kn1 (rp k g j h t) s r = false := by simp [kn1, hbt]
                              rw [e2] at HK
                              have HK' := hide (show kn (rp k g j h t) s (r + 1) = kn (rp k g j h t) s r from HK.out)
                              have HBT := hide (fun W => bitS_f s r W (by omega) (by omega) hbt)
                              clear hbt e2 HK
                              generalize rp k g j h t r = x at *
                              generalize hx0 : dj ^^^ kn (rp k g j h t) s r = xx at *
                              have HX0 := hide hx0
                              clear hx0
                              go_wp2_with fail
                              refine (HBT.out _).mono ?_
                              rintro e _ ⟨rfl, rfl⟩
                              go_wp2_with fail
                              go_round
                              case rel => first | exact ⟨r + 1, by omega, by go_num, by rw [HK'.out, HX0.out]⟩ | ((repeat apply Exists.intro); exact ⟨⟨r + 1, by omega, by go_num, by rw [HK'.out, HX0.out]⟩, rfl⟩)
                              case measure => simp [intOf] <;> omega
                            · have HBT := hide (fun W => bitS_t s r W (by omega) (by omega) hbt)
                              by_cases hx : rp k g j h t r < 0
                              · have e2 : kn1 (rp k g j h t) s r = false := by simp [kn1]; omega
                                rw [e2] at HK
                                have HK' := hide (show kn (rp k g j h t) s (r + 1) = kn (rp k g j h t) s r from HK.out)
                                clear hbt e2 HK
                                generalize rp k g j h t r = x at *
                                generalize hx0 : dj ^^^ kn (rp k g j h t) s r = xx at *
                                have HX0 := hide hx0
                                clear hx0
                                go_wp2_with fail
                                refine (HBT.out _).mono ?_
                                rintro e _ ⟨rfl, rfl⟩
                                go_wp2_with fail
                                go_round
                                case rel => first | exact ⟨r + 1, by omega, by go_num, by rw [HK'.out, HX0.out]⟩ | ((repeat apply Exists.intro); exact ⟨⟨r + 1, by omega, by go_num, by rw [HK'.out, HX0.out]⟩, rfl⟩)
                                case measure => simp [intOf] <;> omega
                              · have e2 : kn1 (rp k g j h t) s r = true := by simp [kn1, hbt]; omega
                                rw [e2] at HK
                                have HK' := hide (show kn (rp k g j h t) s (r + 1) = kn (rp k g j h t) s r ^^^ (rp k g j h t r).toNat from HK.out)
                                have hxo : bits .xor .i64 ((dj ^^^ kn (rp k g j h t) s r : Nat) : Int) (rp k g j h t r) = ((dj ^^^ (kn (rp k g j h t) s r ^^^ (rp k g j h t r).toNat) : Nat) : Int) := by
                                  have := xor_nat (dj ^^^ kn (rp k g j h t) s r) (rp k g j h t r).toNat (by omega) (by omega)
                                  rw [show (((rp k g j h t r).toNat : Nat) : Int) = rp k g j h t r by omega] at this
                                  rw [← Nat.xor_assoc]
                                  exact this
                                clear hbt e2 HK
                                generalize hx1 : dj ^^^ (kn (rp k g j h t) s r ^^^ (rp k g j h t r).toNat) = x1 at *
                                have HX1 := hide hx1
                                clear hx1
                                generalize hx0 : dj ^^^ kn (rp k g j h t) s r = xx at *
                                clear hx0
                                generalize hxv : rp k g j h t r = x at *
                                have HXV := hide hxv
                                clear hxv
                                go_wp2_with fail
                                refine (HBT.out _).mono ?_
                                rintro e _ ⟨rfl, rfl⟩
                                go_wp2_with fail
                                go_round
                                case rel => first | exact ⟨r + 1, by omega, by go_num, by rw [HK'.out, HX1.out]⟩ | ((repeat apply Exists.intro); exact ⟨⟨r + 1, by omega, by go_num, by rw [HK'.out, HX1.out]⟩, rfl⟩)
                                case measure => simp [intOf] <;> omega
                          · have hrk' : r = k := by omega
                            rw [hrk'] at hkn hxb
                            rw [hrk']
                            by_cases hu0 : unk (rp k g j h t) s k = 0
                            · rw [hu0] at HUQ
                              by_cases hk : kn (rp k g j h t) s k = dj
                              · have HNY := hide (HNX.out (fun _ => hk))
                                rw [hk, Nat.xor_self]
                                clear HNX hu0 hk
                                go_wp2_with fail
                                refine (HUQ.out).mono ?_
                                rintro e _ ⟨rfl, rfl⟩
                                go_wp2_with fail
                                go_round
                                case rel => first | exact ⟨q + 1, by omega, by go_num, HNY.out⟩ | ((repeat apply Exists.intro); exact ⟨⟨q + 1, by omega, by go_num, HNY.out⟩, rfl⟩)
                                case measure => simp [intOf] <;> omega
                              · have HBAD := hide (show rpB k j g j h = false by
                                  rw [rpB, Int.toNat_natCast, HEQ.out]
                                  have : rpFine k g j h (rp k g j h t) = false := by
                                    rw [rpFine, decide_eq_false_iff_not]
                                    intro hh
                                    have := hh q hlt
                                    rw [HS3.out, HD3.out] at this
                                    exact hk (this hu0)
                                  rw [this]; simp)
                                have hxz : ¬ dj ^^^ kn (rp k g j h t) s k = 0 := fun hz => hk (xor_zero_iff.1 hz).symm
                                have hxz' : (((dj ^^^ kn (rp k g j h t) s k : Nat) : Int) != 0) = true := by simp; omega
                                clear HNX hu0 hk hxz
                                generalize dj ^^^ kn (rp k g j h t) s k = xx at *
                                go_wp2_with fail
                                refine (HUQ.out).mono ?_
                                rintro e _ ⟨rfl, rfl⟩
                                go_wp2_with fail
                                go_ret2
                                exact rpx_no HBAD.out HB.out
                            · have HNY := hide (HNX.out (fun hz => absurd hz hu0))
                              have hu1 : (((unk (rp k g j h t) s k : Nat) : Int) == 0) = false := by simp; omega
                              have hul := unk_le (rp k g j h t) s k
                              clear HNX hu0
                              generalize dj ^^^ kn (rp k g j h t) s k = xx at *
                              generalize unk (rp k g j h t) s k = un at *
                              go_wp2_with fail
                              refine (HUQ.out).mono ?_
                              rintro e _ ⟨rfl, rfl⟩
                              go_wp2_with fail
                              go_round
                              case rel => first | exact ⟨q + 1, by omega, by go_num, HNY.out⟩ | ((repeat apply Exists.intro); exact ⟨⟨q + 1, by omega, by go_num, HNY.out⟩, rfl⟩)
                              case measure => simp [intOf] <;> omega
                      · have hqj : q = j := by omega
                        rw [hqj] at HALL
                        have HFIN := hide (fun (d : Nat) => (show RpX k j g j h w (.returned (.tuple #[.slice A' k d, .bool true])) wp from rpx_yes HOK.out HEQ.out (by rw [rpFine, decide_eq_true_eq]; exact HALL.out) HR.out HB.out d))
                        have hqn : ¬ (q : Int) < (j : Int) := by omega
                        clear hqj
                        go_wp2_with fail
                        go_ret2
                        exact HFIN.out _
            · have hj0 : j = 0 := by omega
              have HST := hide (show Stl k g j (rp k g j h t) from stl_of (fun i hi => absurd hi (by omega)))
              have hnI : ¬ (nx0 : Int) < (j : Int) := by omega
              clear hj0
              have HEQ := hide (HEND.out HST.out)
              go_wp2_with fail
              go_loop [15] (fun i => ∃ q : Nat, q ≤ j ∧ i = .int .i64 q ∧ (∀ r, r < q → unk (rp k g j h t) (g r).toNat k = 0 → kn (rp k g j h t) (g r).toNat k = (h r).toNat)) (fun i => j - (intOf i).toNat)
              case atStart => exact ⟨0, by omega, rfl, by simp⟩
              case round =>
                obtain ⟨q, hq, rfl, hall⟩ := hrel
                have HALL := hide hall
                clear hall
                by_cases hlt : q < j
                · exfalso; omega
                · have hqj : q = j := by omega
                  rw [hqj] at HALL
                  have HFIN := hide (fun (d : Nat) => (show RpX k j g j h w (.returned (.tuple #[.slice A' k d, .bool true])) wp from rpx_yes HOK.out HEQ.out (by rw [rpFine, decide_eq_true_eq]; exact HALL.out) HR.out HB.out d))
                  have hqn : ¬ (q : Int) < (j : Int) := by omega
                  clear hqj
                  go_wp2_with fail
                  go_ret2
                  exact HFIN.out _
end Go.Proofs.Ytkalecdjcdgodaa
