/-
  QuotientsOf, the reference's side. Conditions: the numbers can be read.
-/
import Derived.Test.YthafmoofemfdmaaPowers
import Derived.Test.YthafmoofemfdmaaField
import Derived.Test.YthafmoofemfdmaaOwn5
namespace Go.Proofs.Ythafmoofemfdmaa
open Go.RowKit

/-- both lists, one behind the other -/
def qtC (n1 : Nat) (f : Nat → Int) (n2 : Nat) (g : Nat → Int) (i : Nat) : Int := (listOf n1 f ++ listOf n2 g).getD i 0
/-- the arguments are in range -/
def qtOk (p : Int) (n1 : Nat) (f : Nat → Int) (n2 : Nat) (g : Nat → Int) : Bool := isP p && (inR n1 1 4 && (inR n2 1 (7 - (n1 : Int)) && diffB p (n1 + n2) (qtC n1 f n2 g)))
def qtP (p : Int) (n1 : Nat) (f : Nat → Int) (n2 : Nat) (g : Nat → Int) : Int := if qtOk p n1 f n2 g then p else 0
def qtN (p : Int) (n1 : Nat) (f : Nat → Int) (n2 : Nat) (g : Nat → Int) : Nat := if qtOk p n1 f n2 g then n1 else 0
def qtM (p : Int) (n1 : Nat) (f g : Nat → Int) (i j : Nat) : Int := if j < n1 then (if j = i then 1 else 0) else inv p ((f i - g (j - n1)) % p)
def QtPost (p : Int) (n1 : Nat) (f : Nat → Int) (n2 : Nat) (g : Nat → Int) (w : World) (e : Ending) (w' : World) : Prop :=
  ∃ A c, e = .returned (.tuple #[.agg #[.int .i64 (qtP p n1 f n2 g), .slice A (qtN p n1 f n2 g) c], .bool (qtOk p n1 f n2 g)]) ∧ MT w' w.heap.size w'.heap.size A (qtN p n1 f n2 g) (fun _ => n1 + n2) (qtM p n1 f g) ∧ Below w.heap.size w w'
theorem qtPost_no {p : Int} {n1 n2 : Nat} {f g : Nat → Int} {w w' : World} (h : qtOk p n1 f n2 g = false) (hb : Below w.heap.size w w') : QtPost p n1 f n2 g w (.returned (.tuple #[.agg #[.int .i64 0, .slice none 0 0], .bool false])) w' := by
  have h0 : qtN p n1 f n2 g = 0 := by simp [qtN, h]
  exact ⟨none, 0, by rw [h0, qtP, h]; rfl, by rw [h0]; exact MT.nil _ _ _ _ _, hb⟩
theorem qtPost_yes {p : Int} {n1 n2 : Nat} {f g : Nat → Int} {w w3 w' : World} {base top c : Nat} {A : Option Addr} {R : List Sl} (h : qtOk p n1 f n2 g = true) (ht : TabD w3 base top A n1 c R) (hc : TbC R n1 (n1 + n2) (qtM p n1 f g)) (hb : Below w.heap.size w w')
    (ho : Outside w.heap.size base w3 w') (hbase : w.heap.size ≤ base) : QtPost p n1 f n2 g w (.returned (.tuple #[.agg #[.int .i64 p, .slice A n1 c], .bool true])) w' := by
  have hN : qtN p n1 f n2 g = n1 := by simp [qtN, h]
  refine ⟨A, c, by rw [hN, qtP, h]; rfl, ?_, hb⟩
  rw [hN]
  exact ((hc.mt ht).keep ho (.inr (Nat.le_refl _))).mono hbase ho.size
theorem qtC_lo {n1 n2 i : Nat} {f g : Nat → Int} (h : i < n1) : qtC n1 f n2 g i = f i := by
  rw [qtC, List.getD, List.getElem?_append_left (by rw [listOf_len]; exact h), listOf_get _ h]; rfl
theorem qtC_hi {n1 n2 j : Nat} {f g : Nat → Int} (h : j < n2) : qtC n1 f n2 g (n1 + j) = g j := by
  rw [qtC, List.getD, List.getElem?_append_right (by rw [listOf_len]; omega), listOf_len, Nat.add_sub_cancel_left, listOf_get _ h]; rfl
theorem qt_ok {p : Int} {n1 n2 : Nat} {f g : Nat → Int} (h : qtOk p n1 f n2 g = true) : isP p = true ∧ (2 ≤ p ∧ p ≤ 7) ∧ (1 ≤ n1 ∧ n1 ≤ 4) ∧ (1 ≤ n2 ∧ n1 + n2 ≤ 7) ∧ (∀ i, i < n1 → 0 ≤ f i ∧ f i ≤ p - 1) ∧ (∀ j, j < n2 → 0 ≤ g j ∧ g j ≤ p - 1) ∧ ∀ i j, i < n1 → j < n2 → 1 ≤ (f i - g j) % p ∧ (f i - g j) % p ≤ p - 1 := by
  simp only [qtOk, Bool.and_eq_true, inR_true] at h
  obtain ⟨h1, h2, h3, h4⟩ := h
  have hp : 2 ≤ p ∧ p ≤ 7 := by rcases isP_true.1 h1 with rfl | rfl | rfl | rfl <;> omega
  obtain ⟨h5, h6⟩ := diffB_true.1 h4
  have hf : ∀ i, i < n1 → 0 ≤ f i ∧ f i ≤ p - 1 := fun i hi => by have := inR_true.1 (h6 i (by omega)); rw [qtC_lo hi] at this; exact this
  have hg : ∀ j, j < n2 → 0 ≤ g j ∧ g j ≤ p - 1 := fun j hj => by have := inR_true.1 (h6 (n1 + j) (by omega)); rw [qtC_hi hj] at this; exact this
  refine ⟨h1, hp, by omega, by omega, hf, hg, fun i j hi hj => ?_⟩
  have h7 := h5 (n1 + j) (by omega) i (by omega)
  rw [qtC_hi hj, qtC_lo hi] at h7
  have a1 := hf i hi
  have a2 := hg j hj
  have a3 := Int.emod_nonneg (f i - g j) (show p ≠ 0 by omega)
  have a4 := Int.emod_lt_of_pos (f i - g j) (show 0 < p by omega)
  refine ⟨?_, by omega⟩
  by_cases h8 : 0 < (f i - g j) % p
  · omega
  · have h9 : (f i - g j) % p = 0 := by omega
    exfalso
    by_cases h10 : f i < g j
    · have e : (f i - g j + p) % p = f i - g j + p := Int.emod_eq_of_lt (by omega) (by omega)
      rw [Int.add_emod_right, h9] at e; omega
    · have e : (f i - g j) % p = f i - g j := Int.emod_eq_of_lt (by omega) (by omega)
      omega
theorem qt_row0 {p : Int} {n1 x : Nat} {f g : Nat → Int} : (List.replicate n1 (0 : Int)).set x 1 = listOf n1 (qtM p n1 f g x) := by
  refine List.ext_getElem? fun i => ?_
  rw [List.getElem?_set, List.length_replicate]
  by_cases h : i < n1
  · rw [listOf_get _ h, List.getElem?_replicate, if_pos h, qtM, if_pos h]
    by_cases e : x = i
    · subst e; rw [if_pos rfl, if_pos h, if_pos rfl]
    · rw [if_neg e, if_neg (fun h => e h.symm)]
  · rw [List.getElem?_eq_none (l := listOf _ _) (by rw [listOf_len]; omega), List.getElem?_replicate, if_neg h]
    by_cases e : x = i
    · subst e; rw [if_pos rfl, if_neg h]
    · rw [if_neg e]
theorem qt_snoc {p : Int} {n1 x j : Nat} {f g : Nat → Int} : listOf (n1 + (j + 1)) (qtM p n1 f g x) = listOf (n1 + j) (qtM p n1 f g x) ++ [inv p ((f x - g j) % p)] := by
  rw [← Nat.add_assoc, lo_snoc]
  congr 2
  rw [qtM, if_neg (by omega), Nat.add_sub_cancel_left]

/-- a guarded operation whose guard says yes goes as one without a guard -/
theorem wpList_guarded {P : Program} {ops : Array Oper} {rest : List Oper} {o : Oper} {a : Act} {Q : Exit → Act → World → Prop} {w : World} (hw : Region.wanted o (yielded ops a.tmps) = true) (h : wpList P ops Q ({ o with guard := none } :: rest) a w) : wpList P ops Q (o :: rest) a w := by
  unfold wpList at h ⊢
  rw [if_pos hw]
  rw [if_pos (by simp [Region.wanted])] at h
  exact h

set_option maxRecDepth 100000 in
set_option maxHeartbeats 2000000 in
theorem QuotientsOfS_any (p : Int) (A1 : Option Addr) (n1 c1 : Nat) (f : Nat → Int) (A2 : Option Addr) (n2 c2 : Nat) (g : Nat → Int) (w : World) (hn1 : n1 ≤ 1048576) (h1 : Ints w w.heap.size A1 n1 f) (hn2 : n2 ≤ 1048576) (h2 : Ints w w.heap.size A2 n2 g) :
    Calls Try.prog 55 #[.int .i64 p, .slice A1 n1 c1, .slice A2 n2 c2] w (QtPost p n1 f n2 g w) := by
  have HI1 := hide (fun (W : World) (hb : Below w.heap.size w W) => h1.keep hb hb.size)
  have HI2 := hide (fun (W : World) (hb : Below w.heap.size w W) => h2.keep hb hb.size)
  have HD := hide (fun (A : Option Addr) (c : Nat) (W : World) (hl : n1 + n2 ≤ 7) (hp : 2 ≤ p ∧ p ≤ 7) (h : Ints W W.heap.size A (n1 + n2) (qtC n1 f n2 g)) => differentS_any p A (n1 + n2) c (qtC n1 f n2 g) W (by omega) hp h)
  clear h1 h2
  go_enter Try.func55, Try.ntmps55
  go_upto_region 1 with (fail)
  go_cut [39] (fun v wx => v = .bool (!qtOk p n1 f n2 g) ∧ Below w.heap.size w wx ∧ Blk wx w.heap.size 58 #[.int .i64 0, .slice none 0 0])
  case first =>
    cases hp : isP p
    · go_wp2_with (first | (go_at_call 57; refine (isPrime_any _ _).mono ?_; rintro e w' ⟨rfl, rfl⟩))
      go_meet
      exact ⟨by simp [qtOk, hp], by go_grown, Blk.new _ _ _⟩
    have hp7 : 2 ≤ p ∧ p ≤ 7 := by rcases isP_true.1 hp with rfl | rfl | rfl | rfl <;> omega
    cases hk : inR n1 1 4
    · go_wp2_with (first | (go_at_call 57; refine (isPrime_any _ _).mono ?_; rintro e w' ⟨rfl, rfl⟩) | (go_at_call 58; refine (inRange_any _ _ _ _).mono ?_; rintro e w' ⟨rfl, rfl⟩))
      go_meet
      exact ⟨by simp [qtOk, hp, hk], by go_grown, Blk.new _ _ _⟩
    cases hmk : inR n2 1 (7 - (n1 : Int))
    · go_wp2_with (first | (go_at_call 57; refine (isPrime_any _ _).mono ?_; rintro e w' ⟨rfl, rfl⟩) | (go_at_call 58; refine (inRange_any _ _ _ _).mono ?_; rintro e w' ⟨rfl, rfl⟩))
      go_meet
      exact ⟨by simp [qtOk, hp, hk, hmk], by go_grown, Blk.new _ _ _⟩
    have e1 : qtOk p n1 f n2 g = diffB p (n1 + n2) (qtC n1 f n2 g) := by simp [qtOk, hp, hk, hmk]
    have hk1 := inR_true.1 hk
    have hk2 := inR_true.1 hmk
    have HE1 := hide e1
    have HR0 : Hid (Row ((w.alloc (.cells #[.int .i64 0, .slice none 0 0] 58)).alloc (.cells #[] 3)) (w.heap.size + 1) (some ⟨w.heap.size + 1, 0, none⟩) 0 0 []) := hide (by
      have h := Row.lit (w := w.alloc (.cells #[.int .i64 0, .slice none 0 0] 58)) (cs := #[]) (xs := []) (n := 0) (base := w.heap.size + 1) rfl rfl (Nat.le_of_eq (World.size_alloc _ _).symm) (by omega)
      rw [World.size_alloc] at h
      exact h)
    have HZZ : Hid (w.heap.size + 1 ≤ ((w.alloc (.cells #[.int .i64 0, .slice none 0 0] 58)).alloc (.cells #[] 3)).heap.size) := hide (show w.heap.size + 1 ≤ ((w.alloc (.cells #[.int .i64 0, .slice none 0 0] 58)).alloc (.cells #[] 3)).heap.size by rw [World.size_alloc, World.size_alloc]; omega)
    clear e1
    go_wp2_with (first | (go_at_call 57; refine (isPrime_any _ _).mono ?_; rintro e w' ⟨rfl, rfl⟩) | (go_at_call 58; refine (inRange_any _ _ _ _).mono ?_; rintro e w' ⟨rfl, rfl⟩) | (at_builtin; refine wpList_guarded (by first | rfl | (simp [Region.wanted, yielded]; done) | (go_simp; done)) ?_; go_loud (refine push_ints rfl _ _ rfl [] rfl HR0.out f (HI1.out _ (by go_grown)) (by omega) rfl (by omega) HZZ.out ?_); intro A3 c3 w3 hr3 hb3 hg3; rw [Nat.zero_add] at hr3; rw [List.nil_append] at hr3; rw [Nat.zero_add]; have hz3 : w.heap.size + 1 ≤ w3.heap.size := (by have := hg3.size; simp at this; omega); have HX := hide (show Row w3 (w.heap.size + 1) A3 n1 c3 (listOf n1 f) ∧ Below w.heap.size w w3 ∧ Blk w3 w.heap.size 58 #[.int .i64 0, .slice none 0 0] from ⟨hr3, (((Below.refl _ _).alloc (Nat.le_refl _) _).alloc (by simp) _).trans (hb3.mono (by omega)), ((Blk.new _ _ _).alloc _).below hb3 (by omega)⟩); clear hr3 hb3 hg3) | (at_builtin; refine wpList_guarded (by first | rfl | (simp [Region.wanted, yielded]; done) | (go_simp; done)) ?_; go_loud (refine push_ints rfl _ _ rfl (listOf n1 f) rfl HX.out.1 g (HI2.out _ HX.out.2.1) (by omega) rfl (by omega) hz3 ?_); intro A4 c4 w4 hr4 hb4 hg4; have HY := hide (show _ ∧ _ ∧ _ from ⟨hr4, HX.out.2.1.trans (hb4.mono (by omega)), HX.out.2.2.below hb4 (by omega)⟩); clear hr4 hb4 hg4) | (go_at_call 86; refine (HD.out _ _ _ (by omega) hp7 HY.out.1.ints).mono ?_; rintro e w' ⟨rfl, q, rfl⟩))
    go_meet
    exact ⟨by rw [HE1.out], below_drewN HY.out.2.1 q, HY.out.2.2.drewN q⟩
  case rest =>
    obtain ⟨w1, rfl⟩ : ∃ x, x = wc := ⟨_, rfl⟩
    obtain ⟨rfl, hb1, hK⟩ := hcut
    have k0 := hK.at_ (i := 0) rfl
    have k1 := hK.at_ (i := 1) rfl
    have kf := hK.frozen
    clear HD
    cases hin : qtOk p n1 f n2 g
    · have H := hide (fun w' hb => qtPost_no (w := w) (w' := w') hin hb)
      go_wp2_with fail
      exact bodyPost_ret (v := .tuple #[.agg #[.int .i64 0, .slice none 0 0], .bool false]) (by simp [results, Try.results55, go_sem, k0, k1, kf]) rfl (H.out _ (by go_grown))
    obtain ⟨hP, hp, hk, hmk, hf, hg, hd⟩ := qt_ok hin
    have HIN := hide hin
    have HK := hide hK
    have HF := hide hf
    have HG := hide hg
    have HDF := hide hd
    have HB1 := hide hb1
    have HP := hide hP
    have hz1 : w.heap.size < w1.heap.size := hK.lt
    clear hin hK hf hg hd k0 k1 kf hb1 hP
    have hmk0 := run_make_row' (P := Try.prog) 28 3 (.int .i64 0) 8 Try.underlying28 info_int rfl .i64 .i64 n1 (by omega) (by omega)
    go_wp2_with fail
    go_loopw [9] (fun i wr => ∃ (x : Nat) (A : Option Addr) (c : Nat) (R : List Sl), x ≤ n1 ∧ i = .int .i64 x ∧ Blk wr w1.heap.size 58 #[.int .i64 p, .slice A x c] ∧ TabD wr (w1.heap.size + 1) wr.heap.size A x c R ∧ TbC R x (n1 + n2) (qtM p n1 f g) ∧ Below w1.heap.size w1 wr) (fun i _ => n1 - (intOf i).toNat)
    case atStart => exact ⟨0, none, 0, [], by omega, rfl, Blk.newAt rfl _ _, TabD.nil _ _ _, TbC.nil _ _, by go_grown⟩
    case round =>
      obtain ⟨x, A, c, R, hx, rfl, hs, ht, hc, hb⟩ := hrel
      obtain ⟨wo, hwo⟩ : ∃ x, x = wr := ⟨_, rfl⟩
      rw [← hwo] at hs ht hb
      rw [← hwo]
      clear hwo
      have HS := hide hs
      have HT := hide ht
      have HC := hide hc
      have HB := hide hb
      have hz := hb.size
      have hlt0 := hs.lt
      clear hs ht hc hb
      by_cases hlt : x < n1
      · have hxI : (x : Int) < (n1 : Int) := by omega
        have hxI0 : (0 : Int) ≤ (x : Int) := by omega
        have hr0 := Row.zeros (w := wo) (base := wo.heap.size) n1 (Nat.le_refl _) (by omega)
        obtain ⟨b0, e0, y1, y2, y3, y4, y5⟩ := hr0.at_ (i := x) hlt
        obtain rfl : wo.heap.size = b0 := by simpa using e0
        rw [show (List.replicate n1 (0 : Int)).getD x 0 = 0 by simp [List.getD, List.getElem?_replicate, hlt]] at y3
        have h5 := y5 1
        rw [qt_row0 (p := p) (f := f) (g := g)] at h5
        have e6 : (wo.alloc (.cells (madeCells #[.int .i64 0] n1) 3)).setCell ⟨wo.heap.size, x, none⟩ (.int .i64 1) = wo.alloc (.cells ((madeCells #[.int .i64 0] n1).setIfInBounds x (.int .i64 1)) 3) := by go_simp
        rw [e6] at h5
        have H5 := hide h5
        clear e6
        clear h5 y5 e0 hr0
        go_wp2_with fail
        clear hmk0 y3 y4
        go_loopw [10, 11] (fun v i wr => ∃ (j : Nat) (A3 : Option Addr) (c3 : Nat), j ≤ n2 ∧ i = .int .i64 j ∧ v = .slice A3 (n1 + j) c3 ∧ Row wr wo.heap.size A3 (n1 + j) c3 (listOf (n1 + j) (qtM p n1 f g x)) ∧ Below wo.heap.size wo wr) (fun _ i _ => n2 - (intOf i).toNat)
        case atStart => exact ⟨0, _, _, by omega, rfl, rfl, H5.out, by go_grown⟩
        case round =>
          obtain ⟨j, A3, c3, hj, rfl, rfl, hrow, hbi⟩ := hrel
          have Hrow := hide hrow
          have HBI := hide hbi
          have hzi := hbi.size
          clear hrow hbi
          by_cases hlj : j < n2
          · obtain ⟨b, off, rfl, hbl, hcc⟩ := HI1.out wr (up (up HBI.out HB.out hz) HB1.out (by omega)) (by omega)
            obtain ⟨bg, og, rfl, hbg, hcg⟩ := HI2.out wr (up (up HBI.out HB.out hz) HB1.out (by omega)) (by omega)
            have hcx := hcc x hlt
            have hcj := hcg j hlj
            have hfx := HF.out x hlt
            have hgj := HG.out j hlj
            obtain ⟨hd1, hd2⟩ := HDF.out x j hlt hlj
            have HRS := hide (qt_snoc (p := p) (n1 := n1) (x := x) (j := j) (f := f) (g := g))
            have htm0 : (f x + p - g j).tmod p = (f x - g j) % p := by
              rw [Int.tmod_eq_emod_of_nonneg (by omega), show f x + p - g j = f x - g j + p by omega, Int.add_emod_right]
            have HIV := hide (fun W => inverseS_any p ((f x - g j) % p) W HP.out hd1 hd2)
            have hjI : (j : Int) < (n2 : Int) := by omega
            have hjI0 : (0 : Int) ≤ (j : Int) := by omega
            have hp0 : p ≠ 0 := by omega
            have hp1 : (p == 0) = false := by simp; omega
            clear hcc hcg
            generalize (f x - g j) % p = z at *
            generalize f x = fx at *
            generalize g j = gj at *
            have hw1 : IntKind.i64.wrap (fx + p) = fx + p := IntWalk.i64_in _ (by omega)
            have hw2 : IntKind.i64.wrap (fx + p - gj) = fx + p - gj := IntWalk.i64_in _ (by omega)
            generalize inv p z = y at *
            go_wp2_with fail
            go_region_law (first | (refine step_push_int rfl (.tmp 61) (.tmp 77) rfl (listOf (n1 + j) (qtM p n1 f g x)) rfl (Row.alloc (show Row wr.drew wo.heap.size A3 (n1 + j) c3 (listOf (n1 + j) (qtM p n1 f g x)) from Hrow.out) _) y rfl (heap_alloc_new _ _) (by omega) (Nat.le_trans hzi (Nat.le_of_lt (Blk.lt (heap_alloc_new _ _)))) ?_; intro g2 c4 w2 hr2 hb2) | (go_simp; go_at_call 59; refine (HIV.out _).mono ?_; rintro e _ ⟨rfl, rfl⟩))
            all_goals
              have HX := hide (show Row w2 wo.heap.size (some ⟨g2, 0, none⟩) (n1 + (j + 1)) c4 (listOf (n1 + (j + 1)) (qtM p n1 f g x)) ∧ Below wo.heap.size wo w2 from ⟨by rw [HRS.out]; exact hr2, (HBI.out.drew.alloc hzi _).trans hb2⟩)
              clear hr2 hb2
              go_wp2_with fail
              go_roundw
              case rel => first | exact ⟨j + 1, _, c4, by omega, by go_num, rfl, HX.out.1, HX.out.2⟩ | ((repeat apply Exists.intro); exact ⟨⟨j + 1, _, c4, by omega, by go_num, rfl, HX.out.1, HX.out.2⟩, rfl⟩)
              case measure => simp [intOf]; omega
          · obtain rfl : j = n2 := by omega
            have HS1 := hide (HS.out.below HBI.out (by omega))
            have s1 := HS1.out.at_ (i := 1) rfl
            have HT1 := hide (HT.out.keep HBI.out)
            have hlt1 := HS1.out.lt
            go_wp2_with (at_builtin; refine push_row rfl _ _ rfl R rfl HT1.out.tab A3 (n1 + j) c3 (listOf (n1 + j) (qtM p n1 f g x)) (Hrow.out.mono (by omega)) _ rfl (by omega) (by omega) ?_; intro A5 c5 w2 ht2 hb2 hg2 hat2; have k3 := HS1.out.below hb2 (by omega); have s1' := k3.at_ (i := 1) rfl; have f1 := k3.frozen 1; have z2 := hb2.size; have HX := hide (show _ ∧ _ ∧ _ from ⟨k3, HT1.out.push (top' := w2.heap.size) Hrow.out ht2 (by omega) (fun q hq => by have := (Hrow.out.blk q (by rw [ownBlock_slice]; exact hq)).2; omega), (HB.out.trans (HBI.out.mono hz)).trans (hb2.mono (by omega))⟩); clear k3 ht2 hb2 hg2 hat2)
            have HY := hide (show Blk (w2.setCell ⟨w1.heap.size, 1, none⟩ (.slice A5 (x + 1) c5)) w1.heap.size 58 #[.int .i64 p, .slice A5 (x + 1) c5] ∧ TabD (w2.setCell ⟨w1.heap.size, 1, none⟩ (.slice A5 (x + 1) c5)) (w1.heap.size + 1) (w2.setCell ⟨w1.heap.size, 1, none⟩ (.slice A5 (x + 1) c5)).heap.size A5 (x + 1) c5 _ ∧ Below w1.heap.size w1 (w2.setCell ⟨w1.heap.size, 1, none⟩ (.slice A5 (x + 1) c5)) from
              ⟨HX.out.1.set_ 1 _, (HX.out.2.1.only ((Only.refl w1.heap.size _).setCell (p := ⟨w1.heap.size, 1, none⟩) (.inl rfl) _) (by omega)).mono (Nat.le_refl _) (by simp [World.setCell]), HX.out.2.2.setCell (p := ⟨w1.heap.size, 1, none⟩) (Nat.le_refl _) _⟩)
            have HP2 := hide (HC.out.push (A := A3) (c := c3) (listOf_len (n1 + j) (qtM p n1 f g x)) (fun q hq => listOf_getD (qtM p n1 f g x) hq))
            go_roundw
            case rel => (repeat apply Exists.intro); exact ⟨⟨x + 1, A5, c5, _, by omega, by go_num, HY.out.1, HY.out.2.1, HP2.out, HY.out.2.2⟩, rfl⟩
            case measure => simp [intOf]; omega
      · obtain rfl : x = n1 := by omega
        have s0 := HS.out.at_ (i := 0) rfl
        have s1 := HS.out.at_ (i := 1) rfl
        have hK := HK.out.below HB.out hz1
        have g0 := hK.at_ (i := 0) rfl
        have g1 := hK.at_ (i := 1) rfl
        have gf := hK.frozen
        clear hK
        go_wp2_with fail
        refine bodyPost_ret (v := .tuple #[.agg #[.int .i64 p, .slice A x c], .bool true]) (by simp [results, Try.results55, go_sem, g0, g1, gf]) rfl ?_
        refine qtPost_yes HIN.out HT.out HC.out ?_ ?_ (by omega)
        · exact ((HB1.out.trans (HB.out.mono (by omega))).setCell (p := ⟨w.heap.size, 0, none⟩) (Nat.le_refl _) _).setCell (p := ⟨w.heap.size, 1, none⟩) (Nat.le_refl _) _
        · exact ((Outside.refl w.heap.size (w1.heap.size + 1) wo).set_ (p := ⟨w.heap.size, 0, none⟩) (by dsimp only; omega) _).set_ (p := ⟨w.heap.size, 1, none⟩) (by dsimp only; omega) _
end Go.Proofs.Ythafmoofemfdmaa
