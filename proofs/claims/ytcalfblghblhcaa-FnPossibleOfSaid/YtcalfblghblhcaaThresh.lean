/-
  ThresholdOf: the program and the reference build the same scheme. Conditions: none.
-/
import Derived.Test.YtcalfblghblhcaaSch
import Derived.Test.YtcalfblghblhcaaPow
import Derived.Deep.RegionWith
import Derived.Deep.DeepCutAuto
namespace Go.Proofs.Ytcalfblghblhcaa
open Go.RowKit

/-- the arguments are in range -/
def thIn (p n k : Int) : Bool := isP p && inR n 1 (if p - 1 < 5 then p - 1 else 5) && inR k 1 (if n < 4 then n else 4)
def thP (p n k : Int) : Int := if thIn p n k then p else 0
def thN (p n k : Int) : Nat := if thIn p n k then n.toNat else 0
/-- the row of owner x -/
def thRow (p : Int) (k x : Nat) : List Int := (List.range k).map fun i => pmod p ((x : Int) + 1) i
def thL (p n k : Int) (_ : Nat) : Nat := k.toNat
def thM (p n k : Int) (x i : Nat) : Int := pmod p ((x : Int) + 1) i
def thO (i : Nat) : Int := i
def ThPost (p n k : Int) (w : World) (e : Ending) (w' : World) : Prop :=
  ∃ A c O d, e = .returned (.tuple #[.agg #[.int .i64 (thP p n k), .slice A (thN p n k) c, .slice O (thN p n k) d], .bool (thIn p n k)]) ∧
    (∃ L M f, ST w' w.heap.size w'.heap.size A (thN p n k) L M O (thN p n k) f ∧ (∀ i, i < thN p n k → L i = thL p n k i ∧ (∀ j, j < L i → M i j = thM p n k i j) ∧ f i = thO i) ∧ thN p n k ≤ c ∧ thN p n k ≤ d) ∧ Below w.heap.size w w'
theorem thPost_no {p n k : Int} {w w' : World} (h : thIn p n k = false) (hb : Below w.heap.size w w') : ThPost p n k w (.returned (.tuple #[.agg #[.int .i64 0, .slice none 0 0, .slice none 0 0], .bool false])) w' := by
  refine ⟨none, 0, none, 0, by simp [thP, thN, h], ?_, hb⟩
  have h0 : thN p n k = 0 := by simp [thN, h]
  rw [h0]
  exact ⟨fun _ => 0, fun _ _ => 0, fun _ => 0, ST.nil _ _ _ _ _ _, fun i hi => absurd hi (by omega), Nat.le_refl _, Nat.le_refl _⟩

/-- the table of the first x owners -/
def ThT (p : Int) (k x : Nat) (R : List Sl) (xs : List Int) : Prop := R.map Sl.xs = (List.range x).map (thRow p k) ∧ xs = (List.range x).map fun (i : Nat) => (i : Int)

theorem thPost_yes {p : Int} {n k : Nat} {w w3 w' : World} {base top S c d : Nat} {A O : Option Addr} {R : List Sl} {xs : List Int} (h : thIn p n k = true) (hs : Sch w3 base top S p n A c R O d xs) (ht : ThT p k n R xs) (hb : Below w.heap.size w w')
    (ho : Outside w.heap.size base w3 w') (hbase : w.heap.size ≤ base) : ThPost p n k w (.returned (.tuple #[.agg #[.int .i64 p, .slice A n c, .slice O n d], .bool true])) w' := by
  have hN : thN p n k = n := by simp [thN, h]
  have hP : thP p n k = p := by simp [thP, h]
  refine ⟨A, c, O, d, by rw [hN, hP, h], ?_, hb⟩
  rw [hN]
  refine ⟨_, _, _, ((ST.of_sch hs).keep ho (.inr (Nat.le_refl _))).mono hbase (Nat.le_trans ho.size (Nat.le_refl _)), fun i hi => ?_, hs.tab.tab.cap, hs.own.cap⟩
  have hlen : R.length = n := hs.tab.tab.1
  have hx : i < R.length := by omega
  have e1 : R[i].xs = thRow p k i := by
    have := congrArg (·[i]?) ht.1
    simp [hx, hi] at this
    exact this
  simp only [List.getD, List.getElem?_eq_getElem hx, Option.getD_some, e1]
  refine ⟨by simp [thRow, thL], fun j hj => ?_, ?_⟩
  · simp only [thRow, List.length_map, List.length_range] at hj
    simp [thRow, thM, hj]
  · simp [ht.2, hi, thO]

theorem ThT.push {p : Int} {k x : Nat} {R : List Sl} {xs : List Int} {A1 : Option Addr} {c1 : Nat} (h : ThT p k x R xs) : ThT p k (x + 1) (R ++ [⟨A1, c1, thRow p k x⟩]) (xs ++ [(x : Int)]) := by
  refine ⟨?_, ?_⟩
  · rw [List.map_append, h.1, List.range_succ, List.map_append]; rfl
  · rw [h.2, List.range_succ, List.map_append]; rfl
theorem thRow_succ (p : Int) (i x : Nat) : thRow p (i + 1) x = thRow p i x ++ [pmod p ((x : Int) + 1) i] := by
  simp [thRow, List.range_succ]

theorem th_bd {p n k : Int} (h : thIn p n k = true) : (2 ≤ p ∧ p ≤ 7) ∧ (1 ≤ n ∧ n ≤ 5 ∧ n ≤ p - 1) ∧ (1 ≤ k ∧ k ≤ 4 ∧ k ≤ n) := by
  simp only [thIn, Bool.and_eq_true, inR_true] at h
  have hp : 2 ≤ p ∧ p ≤ 7 := by rcases isP_true.1 h.1.1 with rfl | rfl | rfl | rfl <;> omega
  have h2 := h.1.2
  have h3 := h.2
  refine ⟨hp, ?_, ?_⟩
  · split at h2 <;> omega
  · split at h3 <;> omega

set_option maxHeartbeats 2000000 in
theorem ThresholdOfS_any (p n k : Int) (w : World) :
    Calls Try.prog 82 #[.int .i64 p, .int .i64 n, .int .i64 k] w (ThPost p n k w) := by
  go_enter Try.func82, Try.ntmps82
  go_upto_region 1 with (fail)
  go_cut [29] (fun v wx => v = .bool (!thIn p n k) ∧ wx = w.alloc (.cells #[.int .i64 0, .slice none 0 0, .slice none 0 0] 29))
  case first =>
    cases hp : isP p
    · go_wp2_with (first | (go_at_call 87; refine (isPrime_any _ _).mono ?_; rintro e w' ⟨rfl, rfl⟩) | (go_at_call 44; refine (inRange_any _ _ _ _).mono ?_; rintro e w' ⟨rfl, rfl⟩))
      go_meet
      exact ⟨by simp [thIn, hp], rfl⟩
    have hp4 : (2 ≤ p ∧ p - 1 < 5) ∨ (5 < p - 1 ∧ p ≤ 7) := by rcases isP_true.1 hp with rfl | rfl | rfl | rfl <;> omega
    have key : ∃ m : Int, (if p - 1 < 5 then p - 1 else 5) = m ∧ (m = 5 ∨ m = p - 1) := by
      refine ⟨_, rfl, ?_⟩
      split <;> simp
    rcases hp4 with ⟨h2, h5⟩ | ⟨h5, h7⟩
    · have em : thIn p n k = (inR n 1 (p - 1) && inR k 1 (if n < 4 then n else 4)) := by rw [thIn, hp, if_pos h5]; rfl
      cases hn : inR n 1 (p - 1)
      · go_wp2_with (first | (go_at_call 87; refine (isPrime_any _ _).mono ?_; rintro e w' ⟨rfl, rfl⟩) | (go_at_call 44; refine (inRange_any _ _ _ _).mono ?_; rintro e w' ⟨rfl, rfl⟩))
        go_meet
        exact ⟨by rw [em, hn]; rfl, rfl⟩
      have hn1 := inR_true.1 hn
      by_cases h4 : n < 4
      · rw [hn, if_pos h4] at em
        go_wp2_with (first | (go_at_call 87; refine (isPrime_any _ _).mono ?_; rintro e w' ⟨rfl, rfl⟩) | (go_at_call 44; refine (inRange_any _ _ _ _).mono ?_; rintro e w' ⟨rfl, rfl⟩))
        go_meet
        exact ⟨by rw [em]; simp, rfl⟩
      · rw [hn, if_neg h4] at em
        by_cases h6 : n = 4
        · subst h6
          go_wp2_with (first | (go_at_call 87; refine (isPrime_any _ _).mono ?_; rintro e w' ⟨rfl, rfl⟩) | (go_at_call 44; refine (inRange_any _ _ _ _).mono ?_; rintro e w' ⟨rfl, rfl⟩))
          go_meet
          exact ⟨by rw [em]; simp, rfl⟩
        · have h6' : 4 < n := by omega
          clear h6 h4
          go_wp2_with (first | (go_at_call 87; refine (isPrime_any _ _).mono ?_; rintro e w' ⟨rfl, rfl⟩) | (go_at_call 44; refine (inRange_any _ _ _ _).mono ?_; rintro e w' ⟨rfl, rfl⟩))
          go_meet
          exact ⟨by rw [em]; simp, rfl⟩
    · have em : thIn p n k = (inR n 1 5 && inR k 1 (if n < 4 then n else 4)) := by rw [thIn, hp, if_neg (by omega)]; rfl
      cases hn : inR n 1 5
      · go_wp2_with (first | (go_at_call 87; refine (isPrime_any _ _).mono ?_; rintro e w' ⟨rfl, rfl⟩) | (go_at_call 44; refine (inRange_any _ _ _ _).mono ?_; rintro e w' ⟨rfl, rfl⟩))
        go_meet
        exact ⟨by rw [em, hn]; rfl, rfl⟩
      have hn1 := inR_true.1 hn
      by_cases h4 : n < 4
      · rw [hn, if_pos h4] at em
        go_wp2_with (first | (go_at_call 87; refine (isPrime_any _ _).mono ?_; rintro e w' ⟨rfl, rfl⟩) | (go_at_call 44; refine (inRange_any _ _ _ _).mono ?_; rintro e w' ⟨rfl, rfl⟩))
        go_meet
        exact ⟨by rw [em]; simp, rfl⟩
      · rw [hn, if_neg h4] at em
        by_cases h6 : n = 4
        · subst h6
          go_wp2_with (first | (go_at_call 87; refine (isPrime_any _ _).mono ?_; rintro e w' ⟨rfl, rfl⟩) | (go_at_call 44; refine (inRange_any _ _ _ _).mono ?_; rintro e w' ⟨rfl, rfl⟩))
          go_meet
          exact ⟨by rw [em]; simp, rfl⟩
        · have h6' : 4 < n := by omega
          clear h6 h4
          go_wp2_with (first | (go_at_call 87; refine (isPrime_any _ _).mono ?_; rintro e w' ⟨rfl, rfl⟩) | (go_at_call 44; refine (inRange_any _ _ _ _).mono ?_; rintro e w' ⟨rfl, rfl⟩))
          go_meet
          exact ⟨by rw [em]; simp, rfl⟩
  case rest =>
    obtain ⟨rfl, rfl⟩ := hcut
    cases hin : thIn p n k
    · have H := hide (fun w' hb => thPost_no (w := w) (w' := w') hin hb)
      go_wp2_with fail
      exact bodyPost_ret (v := .tuple #[.agg #[.int .i64 0, .slice none 0 0, .slice none 0 0], .bool false]) (by simp [results, Try.results82, go_sem]) rfl (H.out _ (by go_grown))
    obtain ⟨hp, hn, hk⟩ := th_bd hin
    obtain ⟨n, rfl⟩ := Int.eq_ofNat_of_zero_le (show 0 ≤ n by omega)
    obtain ⟨k, rfl⟩ := Int.eq_ofNat_of_zero_le (show 0 ≤ k by omega)
    have HIN := hide hin
    clear hin
    go_wp2_with fail
    go_loopw [9] (fun i wr => ∃ (x : Nat) (A : Option Addr) (c : Nat) (R : List Sl) (O : Option Addr) (d : Nat) (xs : List Int), x ≤ n ∧ i = .int .i64 x ∧ Sch wr (w.heap.size + 2) wr.heap.size (w.heap.size + 1) p x A c R O d xs ∧ ThT p k x R xs ∧ Below w.heap.size w wr ∧ Blk wr w.heap.size 29 #[.int .i64 0, .slice none 0 0, .slice none 0 0]) (fun i _ => n - (intOf i).toNat)
    case atStart => exact ⟨0, none, 0, [], none, 0, [], by omega, rfl, ⟨Blk.newAt (by simp) _ _, TabD.nil _ _ _, Row.nil _ _, by simp, by simp⟩, ⟨rfl, rfl⟩, by go_grown, (Blk.newAt rfl _ _).alloc _⟩
    case round =>
      obtain ⟨x, A, c, R, O, d, xs, hx, rfl, hs, ht, hb, hr0⟩ := hrel
      obtain ⟨wo, rfl⟩ : ∃ x, x = wr := ⟨_, rfl⟩
      have HS := hide hs
      have HT := hide ht
      have HR0 := hide hr0
      have hz := hb.size
      have hlt0 := hs.blk.lt
      clear hs ht hr0
      by_cases hlt : x < n
      · go_wp2_with fail
        go_loopw [10, 11] (fun v i wr => ∃ (j : Nat) (A1 : Option Addr) (c1 : Nat), j ≤ k ∧ i = .int .i64 j ∧ v = .slice A1 j c1 ∧ Row wr wo.heap.size A1 j c1 (thRow p j x) ∧ Below wo.heap.size wo wr) (fun _ i _ => k - (intOf i).toNat)
        case atStart => exact ⟨0, _, _, by omega, rfl, rfl, Row.lit (xs := []) rfl rfl (Nat.le_refl _), by go_grown⟩
        case round =>
          obtain ⟨j, A1, c1, hj, rfl, rfl, hrow, hbi⟩ := hrel
          have Hrow := hide hrow
          have hzi := hbi.size
          clear hrow
          by_cases hlj : j < k
          · have HPB := hide (powerBy_any p ((x : Int) + 1) j wr hp (by omega) (by omega))
            have HRS := hide (thRow_succ p j x)
            generalize pmod p ((x : Int) + 1) j = y at *
            go_wp2_with fail
            refine (HPB.out).mono ?_
            rintro e _ ⟨rfl, rfl⟩
            go_wp2_with (at_builtin; refine push_int rfl _ _ rfl _ rfl Hrow.out y _ rfl (by omega) hzi ?_; intro A2 c2 w2 hr2 hb2 hg2 hat2)
            have HF := hide (show _ ∧ _ from ⟨hr2, hb2⟩)
            clear hr2 hb2 hg2 hat2
            go_roundw
            case rel => (repeat apply Exists.intro); exact ⟨⟨j + 1, A2, c2, by omega, by go_num, rfl, by rw [HRS.out]; exact HF.out.1, hbi.trans HF.out.2⟩, rfl⟩
            case measure => simp [intOf]; omega
          · obtain rfl : j = k := by omega
            have HS1 := hide (HS.out.keep hbi)
            have hS := HS1.out.blk
            have s1 := hS.at_ (i := 1) rfl
            have HRT := hide (HT.out.push (A1 := A1) (c1 := c1))
            generalize thRow p j x = ys at *
            clear hS
            go_upto_region 13 with (at_builtin; refine push_row rfl _ _ rfl R rfl HS1.out.tab.tab A1 j c1 ys (Hrow.out.mono (by omega)) _ rfl (by omega) (by omega) ?_; intro A2 c2 w2 ht2 hb2 hg2 hat2; obtain ⟨k1, k2, k3⟩ := HS1.out.row (n1 := j) ht2 hb2 hg2; have s1' := k3.at_ (i := 1) rfl; have f1 := k3.frozen 1; have z2 := hb2.size; have HF := hide (show _ ∧ _ ∧ _ ∧ _ ∧ _ from ⟨ht2, hb2, hg2, k2, k1⟩); clear k1 k2 k3 ht2 hb2 hg2 hat2)
            refine nameCode (fun wx => Hid (wx = w2.setCell ⟨w.heap.size + 1, 1, none⟩ (.slice A2 (x + 1) c2)) ∧ Row wx (w.heap.size + 2) O x d xs ∧ Blk wx (w.heap.size + 1) 29 #[.int .i64 p, .slice A2 (x + 1) c2, .slice O x d] ∧ w2.heap.size ≤ wx.heap.size) ⟨hide rfl, HF.out.2.2.2.1, HF.out.2.2.2.2, by simp [World.setCell]⟩ ?_
            rintro wx ⟨hwx, hown, hblk, zx⟩
            have s2 := hblk.at_ (i := 2) rfl
            have HO := hide hown
            have HB := hide hblk
            clear hown hblk s1' f1
            go_wp2_with (at_builtin; refine push_int rfl _ _ rfl xs rfl HO.out (x : Int) _ rfl (by omega) (by omega) ?_; intro O3 d3 w3 hr3 hb3 hg3 hat3; have kb := HB.out.below hb3 (by omega); have s2' := kb.at_ (i := 2) rfl; have f2 := kb.frozen 2; have z3 := hb3.size; have HG := hide (show _ ∧ _ ∧ _ ∧ _ from ⟨hr3, hb3, hg3, hat3⟩); clear kb hr3 hb3 hg3 hat3)
            have HSP := hide (show Sch (w3.setCell ⟨w.heap.size + 1, 2, none⟩ (.slice O3 (x + 1) d3)) (w.heap.size + 2) w3.heap.size (w.heap.size + 1) p (x + 1) A2 c2 (R ++ [⟨A1, c1, ys⟩]) O3 d3 (xs ++ [(x : Int)]) from by
              have e := hwx.out
              subst e
              exact HS1.out.push Hrow.out HF.out.1 HF.out.2.1 HF.out.2.2.1 HG.out.1 HG.out.2.1 HG.out.2.2.1 HG.out.2.2.2 (by omega) hzi)
            have HBW := hide (show Below w.heap.size w w3 from by
              have e := hwx.out
              subst e
              exact (((hb.trans (hbi.mono hz)).trans (HF.out.2.1.mono (by omega))).setCell (p := ⟨w.heap.size + 1, 1, none⟩) (by dsimp only; omega) _).trans (HG.out.2.1.mono (by omega)))
            have HR3 := hide (show Blk w3 w.heap.size 29 #[.int .i64 0, .slice none 0 0, .slice none 0 0] from by
              have e := hwx.out
              subst e
              exact (((HR0.out.below hbi (by omega)).below HF.out.2.1 (by omega)).far (p := ⟨w.heap.size + 1, 1, none⟩) (by dsimp only; omega) _).below HG.out.2.1 (by omega))
            go_roundw
            case rel => (repeat apply Exists.intro); exact ⟨⟨x + 1, A2, c2, _, O3, d3, _, by omega, by go_num, HSP.out.mono (by simp [World.setCell]), HRT.out, HBW.out.setCell (p := ⟨w.heap.size + 1, 2, none⟩) (by dsimp only; omega) _, HR3.out.far (p := ⟨w.heap.size + 1, 2, none⟩) (by dsimp only; omega) _⟩, rfl⟩
            case measure => simp [intOf]; omega
      · obtain rfl : x = n := by omega
        have hS := HS.out.blk
        have s0 := hS.at_ (i := 0) rfl
        have s1 := hS.at_ (i := 1) rfl
        have s2 := hS.at_ (i := 2) rfl
        have g0 := HR0.out.at_ (i := 0) rfl
        have g1 := HR0.out.at_ (i := 1) rfl
        have g2 := HR0.out.at_ (i := 2) rfl
        have gf := HR0.out.frozen
        clear hS
        go_wp2_with fail
        refine bodyPost_ret (v := .tuple #[.agg #[.int .i64 p, .slice A x c, .slice O x d], .bool true]) (by simp [results, Try.results82, go_sem, g0, g1, g2, gf]) rfl ?_
        refine thPost_yes HIN.out HS.out HT.out ?_ ?_ (by omega)
        · exact ((hb.setCell (p := ⟨w.heap.size, 0, none⟩) (Nat.le_refl _) _).setCell (p := ⟨w.heap.size, 1, none⟩) (Nat.le_refl _) _).setCell (p := ⟨w.heap.size, 2, none⟩) (Nat.le_refl _) _
        · exact (((Outside.refl w.heap.size (w.heap.size + 2) wo).set_ (p := ⟨w.heap.size, 0, none⟩) (by dsimp only; omega) _).set_ (p := ⟨w.heap.size, 1, none⟩) (by dsimp only; omega) _).set_ (p := ⟨w.heap.size, 2, none⟩) (by dsimp only; omega) _
end Go.Proofs.Ytcalfblghblhcaa
