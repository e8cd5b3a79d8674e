/-
  PowersOf, the reference's side. Conditions: the points can be read.
-/
import Derived.Test.YthafmoofemfdmaaDiff
import Derived.Test.YthafmoofemfdmaaPow
import Derived.Test.YthafmoofemfdmaaTabC
import Derived.Test.YthafmoofemfdmaaStruct
import Derived.Deep.RegionWith
import Derived.Deep.DeepCutAuto
namespace Go.Proofs.Ythafmoofemfdmaa
open Go.RowKit

/-- the arguments are in range -/
def pwOk (p : Int) (m : Nat) (f : Nat → Int) (k : Int) : Bool := isP p && (inR k 1 4 && (inR m k 7 && diffB p m f))
def pwP (p : Int) (m : Nat) (f : Nat → Int) (k : Int) : Int := if pwOk p m f k then p else 0
def pwN (p : Int) (m : Nat) (f : Nat → Int) (k : Int) : Nat := if pwOk p m f k then k.toNat else 0
def pwM (p : Int) (f : Nat → Int) (i j : Nat) : Int := pmod p (f j) i
def PwPost (p : Int) (m : Nat) (f : Nat → Int) (k : Int) (w : World) (e : Ending) (w' : World) : Prop :=
  ∃ A c, e = .returned (.tuple #[.agg #[.int .i64 (pwP p m f k), .slice A (pwN p m f k) c], .bool (pwOk p m f k)]) ∧ MT w' w.heap.size w'.heap.size A (pwN p m f k) (fun _ => m) (pwM p f) ∧ Below w.heap.size w w'
theorem pwPost_no {p k : Int} {m : Nat} {f : Nat → Int} {w w' : World} (h : pwOk p m f k = false) (hb : Below w.heap.size w w') : PwPost p m f k w (.returned (.tuple #[.agg #[.int .i64 0, .slice none 0 0], .bool false])) w' := by
  have h0 : pwN p m f k = 0 := by simp [pwN, h]
  exact ⟨none, 0, by rw [h0, pwP, h]; rfl, by rw [h0]; exact MT.nil _ _ _ _ _, hb⟩
theorem pwPost_yes {p : Int} {k m : Nat} {f : Nat → Int} {w w3 w' : World} {base top c : Nat} {A : Option Addr} {R : List Sl} (h : pwOk p m f k = true) (ht : TabD w3 base top A k c R) (hc : TbC R k m (pwM p f)) (hb : Below w.heap.size w w')
    (ho : Outside w.heap.size base w3 w') (hbase : w.heap.size ≤ base) : PwPost p m f k w (.returned (.tuple #[.agg #[.int .i64 p, .slice A k c], .bool true])) w' := by
  have hN : pwN p m f k = k := by simp [pwN, h]
  refine ⟨A, c, by rw [hN, pwP, h]; rfl, ?_, hb⟩
  rw [hN]
  exact ((hc.mt ht).keep ho (.inr (Nat.le_refl _))).mono hbase ho.size
theorem pw_ok {p k : Int} {m : Nat} {f : Nat → Int} (h : pwOk p m f k = true) : (2 ≤ p ∧ p ≤ 7) ∧ (1 ≤ k ∧ k ≤ 4) ∧ (k ≤ m ∧ m ≤ 7) ∧ ∀ j, j < m → 0 ≤ f j ∧ f j ≤ p - 1 := by
  simp only [pwOk, Bool.and_eq_true, inR_true] at h
  obtain ⟨h1, h2, h3, h4⟩ := h
  refine ⟨by rcases isP_true.1 h1 with rfl | rfl | rfl | rfl <;> omega, h2, by omega, fun j hj => ?_⟩
  exact inR_true.1 ((diffB_true.1 h4).2 j hj)
theorem lo_snoc (n : Nat) (f : Nat → Int) : listOf (n + 1) f = listOf n f ++ [f n] := by simp [listOf, List.range_succ]

set_option maxHeartbeats 2000000 in
theorem PowersOfS_any (p : Int) (A0 : Option Addr) (m c0 : Nat) (f : Nat → Int) (k : Int) (w : World) (hm : m ≤ 1048576 ∧ m ≤ c0 ∧ c0 ≤ 9223372036854775807) (h : Ints w w.heap.size A0 m f) :
    Calls Try.prog 49 #[.int .i64 p, .slice A0 m c0, .int .i64 k] w (PwPost p m f k w) := by
  have HI := hide (fun (W : World) (hb : Below w.heap.size w W) => h.keep hb hb.size)
  have HD := hide (fun (W : World) (hb : Below w.heap.size w W) (hp : 2 ≤ p ∧ p ≤ 7) => differentS_any p A0 m c0 f W (by omega) hp (HI.out W hb))
  clear h
  go_enter Try.func49, Try.ntmps49
  go_upto_region 1 with (fail)
  go_cut [32] (fun v wx => v = .bool (!pwOk p m f k) ∧ Below w.heap.size w wx ∧ Blk wx w.heap.size 58 #[.int .i64 0, .slice none 0 0])
  case first =>
    cases hp : isP p
    · go_wp2_with (first | (go_at_call 57; refine (isPrime_any _ _).mono ?_; rintro e w' ⟨rfl, rfl⟩))
      go_meet
      exact ⟨by simp [pwOk, hp], by go_grown, Blk.new _ _ _⟩
    have hp7 : 2 ≤ p ∧ p ≤ 7 := by rcases isP_true.1 hp with rfl | rfl | rfl | rfl <;> omega
    cases hk : inR k 1 4
    · go_wp2_with (first | (go_at_call 57; refine (isPrime_any _ _).mono ?_; rintro e w' ⟨rfl, rfl⟩) | (go_at_call 58; refine (inRange_any _ _ _ _).mono ?_; rintro e w' ⟨rfl, rfl⟩))
      go_meet
      exact ⟨by simp [pwOk, hp, hk], by go_grown, Blk.new _ _ _⟩
    cases hmk : inR m k 7
    · go_wp2_with (first | (go_at_call 57; refine (isPrime_any _ _).mono ?_; rintro e w' ⟨rfl, rfl⟩) | (go_at_call 58; refine (inRange_any _ _ _ _).mono ?_; rintro e w' ⟨rfl, rfl⟩))
      go_meet
      exact ⟨by simp [pwOk, hp, hk, hmk], by go_grown, Blk.new _ _ _⟩
    have e1 : pwOk p m f k = diffB p m f := by simp [pwOk, hp, hk, hmk]
    go_wp2_with (first | (go_at_call 57; refine (isPrime_any _ _).mono ?_; rintro e w' ⟨rfl, rfl⟩) | (go_at_call 58; refine (inRange_any _ _ _ _).mono ?_; rintro e w' ⟨rfl, rfl⟩) | (go_at_call 86; refine (HD.out _ (by go_grown) hp7).mono ?_; rintro e w' ⟨rfl, q, rfl⟩))
    go_meet
    exact ⟨by rw [e1], below_drewN ((Below.refl _ _).alloc (Nat.le_refl _) _) q, (Blk.new _ _ _).drewN _⟩
  case rest =>
    obtain ⟨w1, rfl⟩ : ∃ x, x = wc := ⟨_, rfl⟩
    obtain ⟨rfl, hb1, hK⟩ := hcut
    have k0 := hK.at_ (i := 0) rfl
    have k1 := hK.at_ (i := 1) rfl
    have kf := hK.frozen
    clear HD
    cases hin : pwOk p m f k
    · have H := hide (fun w' hb => pwPost_no (w := w) (w' := w') hin hb)
      go_wp2_with fail
      exact bodyPost_ret (v := .tuple #[.agg #[.int .i64 0, .slice none 0 0], .bool false]) (by simp [results, Try.results49, go_sem, k0, k1, kf]) rfl (H.out _ (by go_grown))
    obtain ⟨hp, hk, hmk, hf⟩ := pw_ok hin
    obtain ⟨k, rfl⟩ := Int.eq_ofNat_of_zero_le (show 0 ≤ k by omega)
    have HIN := hide hin
    have HK := hide hK
    have HF := hide hf
    have HB1 := hide hb1
    have hz1 : w.heap.size < w1.heap.size := hK.lt
    clear hin hK hf k0 k1 kf hb1
    go_wp2_with fail
    go_loopw [9] (fun i wr => ∃ (x : Nat) (A : Option Addr) (c : Nat) (R : List Sl), x ≤ k ∧ i = .int .i64 x ∧ Blk wr w1.heap.size 58 #[.int .i64 p, .slice A x c] ∧ TabD wr (w1.heap.size + 1) wr.heap.size A x c R ∧ TbC R x m (pwM p f) ∧ Below w1.heap.size w1 wr) (fun i _ => k - (intOf i).toNat)
    case atStart => exact ⟨0, none, 0, [], by omega, rfl, Blk.newAt rfl _ _, TabD.nil _ _ _, TbC.nil _ _, by go_grown⟩
    case round =>
      obtain ⟨x, A, c, R, hx, rfl, hs, ht, hc, hb⟩ := hrel
      obtain ⟨wo, hwo⟩ : ∃ x, x = wr := ⟨_, rfl⟩
      rw [← hwo] at hs ht hb
      rw [← hwo]
      clear hwo
      have HS := hide hs
      have HT := hide ht
      have HC := hide hc
      have HB := hide hb
      have hz := hb.size
      have hlt0 := hs.lt
      clear hs ht hc hb
      by_cases hlt : x < k
      · have hxI : (x : Int) < (k : Int) := by omega
        go_wp2_with fail
        go_loopw [10, 11] (fun v i wr => ∃ (j : Nat) (A1 : Option Addr) (c1 : Nat), j ≤ m ∧ i = .int .i64 j ∧ v = .slice A1 j c1 ∧ Row wr wo.heap.size A1 j c1 (listOf j (pwM p f x)) ∧ Below wo.heap.size wo wr) (fun _ i _ => m - (intOf i).toNat)
        case atStart => exact ⟨0, _, _, by omega, rfl, rfl, Row.lit (xs := []) rfl rfl (Nat.le_refl _), by go_grown⟩
        case round =>
          obtain ⟨j, A1, c1, hj, rfl, rfl, hrow, hbi⟩ := hrel
          have Hrow := hide hrow
          have HBI := hide hbi
          have hzi := hbi.size
          clear hrow hbi
          by_cases hlj : j < m
          · obtain ⟨b, off, rfl, hbl, hcc⟩ := HI.out wr (up (up HBI.out HB.out hz) HB1.out (by omega)) (by omega)
            have hcj := hcc j hlj
            have hfj := HF.out j hlj
            have HPB := hide (powerBy_any p (f j) x wr hp (by omega) (by omega))
            have HRS := hide (show listOf (j + 1) (pwM p f x) = listOf j (pwM p f x) ++ [pmod p (f j) x] from lo_snoc _ _)
            have hjI : (j : Int) < (m : Int) := by omega
            have hjI0 : (0 : Int) ≤ (j : Int) := by omega
            clear hcc
            generalize pmod p (f j) x = y at *
            generalize f j = fj at *
            go_wp2_with fail
            refine (HPB.out).mono ?_
            rintro e _ ⟨rfl, rfl⟩
            go_wp2_with (at_builtin; refine push_int rfl _ _ rfl _ rfl Hrow.out y _ rfl (by omega) hzi ?_; intro A2 c2 w2 hr2 hb2 hg2 hat2; have HG := hide (show _ ∧ _ from ⟨hr2, HBI.out.trans hb2⟩); clear hr2 hb2 hg2 hat2)
            go_roundw
            case rel => first | exact ⟨j + 1, A2, c2, by omega, by go_num, rfl, by rw [HRS.out]; exact HG.out.1, HG.out.2⟩ | ((repeat apply Exists.intro); exact ⟨⟨j + 1, A2, c2, by omega, by go_num, rfl, by rw [HRS.out]; exact HG.out.1, HG.out.2⟩, rfl⟩)
            case measure => simp [intOf]; omega
          · obtain rfl : j = m := by omega
            have HS1 := hide (HS.out.below HBI.out (by omega))
            have s1 := HS1.out.at_ (i := 1) rfl
            have HT1 := hide (HT.out.keep HBI.out)
            have hlt1 := HS1.out.lt
            go_wp2_with (at_builtin; refine push_row rfl _ _ rfl R rfl HT1.out.tab A1 j c1 (listOf j (pwM p f x)) (Hrow.out.mono (by omega)) _ rfl (by omega) (by omega) ?_; intro A2 c2 w2 ht2 hb2 hg2 hat2; have k3 := HS1.out.below hb2 (by omega); have s1' := k3.at_ (i := 1) rfl; have f1 := k3.frozen 1; have z2 := hb2.size; have HG := hide (show _ ∧ _ ∧ _ from ⟨k3, HT1.out.push (top' := w2.heap.size) Hrow.out ht2 (by omega) (fun q hq => by have := (Hrow.out.blk q (by rw [ownBlock_slice]; exact hq)).2; omega), (HB.out.trans (HBI.out.mono hz)).trans (hb2.mono (by omega))⟩); clear k3 ht2 hb2 hg2 hat2)
            have HX := hide (show Blk (w2.setCell ⟨w1.heap.size, 1, none⟩ (.slice A2 (x + 1) c2)) w1.heap.size 58 #[.int .i64 p, .slice A2 (x + 1) c2] ∧ TabD (w2.setCell ⟨w1.heap.size, 1, none⟩ (.slice A2 (x + 1) c2)) (w1.heap.size + 1) (w2.setCell ⟨w1.heap.size, 1, none⟩ (.slice A2 (x + 1) c2)).heap.size A2 (x + 1) c2 _ ∧ Below w1.heap.size w1 (w2.setCell ⟨w1.heap.size, 1, none⟩ (.slice A2 (x + 1) c2)) from
              ⟨HG.out.1.set_ 1 _, (HG.out.2.1.only ((Only.refl w1.heap.size _).setCell (p := ⟨w1.heap.size, 1, none⟩) (.inl rfl) _) (by omega)).mono (Nat.le_refl _) (by simp [World.setCell]), HG.out.2.2.setCell (p := ⟨w1.heap.size, 1, none⟩) (Nat.le_refl _) _⟩)
            have HP := hide (HC.out.push (A := A1) (c := c1) (listOf_len j (pwM p f x)) (fun q hq => listOf_getD (pwM p f x) hq))
            go_roundw
            case rel => (repeat apply Exists.intro); exact ⟨⟨x + 1, A2, c2, _, by omega, by go_num, HX.out.1, HX.out.2.1, HP.out, HX.out.2.2⟩, rfl⟩
            case measure => simp [intOf]; omega
      · obtain rfl : x = k := by omega
        have s0 := HS.out.at_ (i := 0) rfl
        have s1 := HS.out.at_ (i := 1) rfl
        have hK := HK.out.below HB.out hz1
        have g0 := hK.at_ (i := 0) rfl
        have g1 := hK.at_ (i := 1) rfl
        have gf := hK.frozen
        clear hK
        go_wp2_with fail
        refine bodyPost_ret (v := .tuple #[.agg #[.int .i64 p, .slice A x c], .bool true]) (by simp [results, Try.results49, go_sem, g0, g1, gf]) rfl ?_
        refine pwPost_yes HIN.out HT.out HC.out ?_ ?_ (by omega)
        · exact ((HB1.out.trans (HB.out.mono (by omega))).setCell (p := ⟨w.heap.size, 0, none⟩) (Nat.le_refl _) _).setCell (p := ⟨w.heap.size, 1, none⟩) (Nat.le_refl _) _
        · exact ((Outside.refl w.heap.size (w1.heap.size + 1) wo).set_ (p := ⟨w.heap.size, 0, none⟩) (by dsimp only; omega) _).set_ (p := ⟨w.heap.size, 1, none⟩) (by dsimp only; omega) _
end Go.Proofs.Ythafmoofemfdmaa
