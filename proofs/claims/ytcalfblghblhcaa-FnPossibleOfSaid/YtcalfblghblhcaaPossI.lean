/-
  PossibleOf, the program's. Conditions: the scheme and the shares can be read.
-/
import Derived.Test.YtcalfblghblhcaaPossPlain
import Derived.Test.YtcalfblghblhcaaMsgs
import Derived.Shelf.Abstract
namespace Go.Proofs.Ytcalfblghblhcaa
open Go.RowKit
attribute [local go_sem] Oper.semAt_some

theorem messages_any (p k : Int) (w : World) :
    Calls Try.prog 56 #[.int .i64 p, .int .i64 k] w fun e w' => e = .returned (.func (.func 76) #[] #[.pointer (some ⟨w.heap.size + 1, 0, none⟩), .pointer (some ⟨w.heap.size, 0, none⟩)]) ∧ w' = (w.alloc (.cells #[.int .i64 p] 65)).alloc (.cells #[.int .i64 k] 3) := by
  go_enter Try.func56, Try.ntmps56
  go_wp2_with fail
  go_ret
  exact ⟨rfl, rfl⟩

/-- three boxes, and then a call -/
theorem boxes3 {w w1 : World} {t1 t2 t3 : TypeId} {x1 x2 x3 : Array Value} (hb : Below (((w.alloc (.cells x1 t1)).alloc (.cells x2 t2)).alloc (.cells x3 t3)).heap.size (((w.alloc (.cells x1 t1)).alloc (.cells x2 t2)).alloc (.cells x3 t3)) w1) :
    Below w.heap.size w w1 ∧ w.heap.size + 3 ≤ w1.heap.size ∧ Blk w1 w.heap.size t1 x1 ∧ Blk w1 (w.heap.size + 1) t2 x2 ∧ Blk w1 (w.heap.size + 1 + 1) t3 x3 := by
  have hz := hb.size
  simp only [World.size_alloc] at hz
  refine ⟨up hb (((below_box _).alloc (by simp) _).alloc (by simp; omega) _) (by simp; omega), by omega, Blk.below (((Blk.new w t1 x1).alloc _).alloc _) hb (by simp; omega), ?_, ?_⟩
  · have := Blk.new (w.alloc (.cells x1 t1)) t2 x2
    rw [World.size_alloc] at this
    exact Blk.below (this.alloc _) hb (by simp)
  · have := Blk.new ((w.alloc (.cells x1 t1)).alloc (.cells x2 t2)) t3 x3
    rw [World.size_alloc, World.size_alloc] at this
    exact Blk.below this hb (by simp)
theorem below_boxes3 {w : World} (o1 o2 o3 : Obj) : Below w.heap.size w (((w.alloc o1).alloc o2).alloc o3) := ((below_box _).alloc (by simp) _).alloc (by simp; omega) _
theorem nameIn {F : Fence} {n : Nat} {P : Program} {c : Code} {Q : Exit → Act → World → Prop} {a : Act} {W : World} (G : World → Prop) (h : G W) (k : ∀ w, G w → Code.wpIn F n P c Q a w) : Code.wpIn F n P c Q a W := k W h
theorem Row.belowB {w w' : World} {B base g n c : Nat} {xs : List Int} (h : Row w base (some ⟨g, 0, none⟩) n c xs) (hb : Below B w w') (hg : g < B) : Row w' base (some ⟨g, 0, none⟩) n c xs :=
  ⟨h.1, own_of_block h.2 fun k hk => by cases hk; exact hb.block g hg⟩
theorem Blk.lay {w : World} {g : Nat} (hg : g = w.heap.size) (t : TypeId) (x : Array Value) : Blk (w.alloc (.cells x t)) g t x := Blk.newAt hg t x
theorem abv_below {B : Nat} {W W' : World} (h : Below W.heap.size W W') : Abv B W W' := ⟨h.size, fun k _ hk => h.block k hk⟩
theorem abv_setCell {B : Nat} {W : World} {p : Addr} (h : p.block < B) (u : Value) : Abv B W (W.setCell p u) := ⟨by simp [World.setCell], fun k hk _ => Below.heap_setCell W p u k (by omega)⟩
/-- between two rounds: the call's boxes, and how many of the first lists fit -/
def PsI (w : World) (s1 s2 : Nat) (x0 : Array Value) (B : Option Addr) (n1 c1 t P k : Nat) (ct : Nat → List Int) (τ : Nat) (W : World) : Prop :=
  Below w.heap.size w W ∧ Blk W w.heap.size 29 x0 ∧ Blk W (w.heap.size + 1) 23 #[.slice B n1 c1] ∧ Blk W (w.heap.size + 1 + 1) 3 #[.int .i64 t] ∧ Blk W s1 65 #[.int .i64 P] ∧
  Blk W (s1 + 1 + 1) 23 #[.slice (some ⟨s1 + 1, 0, none⟩) P P] ∧ Row W w.heap.size (some ⟨s1 + 1, 0, none⟩) P P (ct τ) ∧ Blk W s2 65 #[.int .i64 P] ∧ Blk W (s2 + 1) 3 #[.int .i64 k]
theorem PsI.keep {w : World} {s1 s2 : Nat} {x0 : Array Value} {B : Option Addr} {n1 c1 t P k : Nat} {ct : Nat → List Int} {τ b : Nat} {W W' : World} (h : PsI w s1 s2 x0 B n1 c1 t P k ct τ W) (hb : Below b W W') (h1 : w.heap.size + 3 ≤ s1) (h2 : s1 + 3 ≤ s2) (h3 : s2 + 2 ≤ b) : PsI w s1 s2 x0 B n1 c1 t P k ct τ W' := by
  obtain ⟨a0, a1, a2, a3, a4, a5, a6, a7, a8⟩ := h
  exact ⟨a0.trans (hb.mono (by omega)), a1.below hb (by omega), a2.below hb (by omega), a3.below hb (by omega), a4.below hb (by omega), a5.below hb (by omega), a6.belowB hb (by omega), a7.below hb (by omega), a8.below hb (by omega)⟩
theorem PsI.put {w : World} {s1 s2 : Nat} {x0 : Array Value} {B : Option Addr} {n1 c1 t P k : Nat} {ct : Nat → List Int} {τ j : Nat} {v : Int} {W : World} (h : PsI w s1 s2 x0 B n1 c1 t P k ct τ W) (h1 : w.heap.size + 3 ≤ s1) (h2 : s1 + 3 ≤ s2) (hr : Row (W.setCell ⟨s1 + 1, j, none⟩ (.int .i64 v)) w.heap.size (some ⟨s1 + 1, 0, none⟩) P P (ct (τ + 1))) : PsI w s1 s2 x0 B n1 c1 t P k ct (τ + 1) (W.setCell ⟨s1 + 1, j, none⟩ (.int .i64 v)) := by
  obtain ⟨a0, a1, a2, a3, a4, a5, a6, a7, a8⟩ := h
  have far : ∀ g : Nat, g ≠ s1 + 1 → g ≠ (⟨s1 + 1, j, none⟩ : Addr).block := fun g hg => hg
  exact ⟨a0.setCell (p := ⟨s1 + 1, j, none⟩) (show w.heap.size ≤ s1 + 1 by omega) _, a1.far (far _ (by omega)) _, a2.far (far _ (by omega)) _, a3.far (far _ (by omega)) _, a4.far (far _ (by omega)) _, a5.far (far _ (by omega)) _, hr, a7.far (far _ (by omega)) _, a8.far (far _ (by omega)) _⟩
theorem PsI.same {w : World} {s1 s2 : Nat} {x0 : Array Value} {B : Option Addr} {n1 c1 t P k : Nat} {ct : Nat → List Int} {τ : Nat} {W : World} (h : PsI w s1 s2 x0 B n1 c1 t P k ct τ W) (e : ct (τ + 1) = ct τ) : PsI w s1 s2 x0 B n1 c1 t P k ct (τ + 1) W := by
  obtain ⟨a0, a1, a2, a3, a4, a5, a6, a7, a8⟩ := h
  exact ⟨a0, a1, a2, a3, a4, a5, by rw [e]; exact a6, a7, a8⟩

set_option maxRecDepth 100000 in
set_option maxHeartbeats 4000000 in
theorem PossibleOfI_any (p : Int) (A : Option Addr) (n c : Nat) (L : Nat → Nat) (M : Nat → Nat → Int) (O : Option Addr) (m e : Nat) (f : Nat → Int) (B : Option Addr) (n1 c1 : Nat) (g : Nat → Int) (s : Int) (w : World) (hn : n ≤ 1048576) (hL : ∀ i, i < n → L i ≤ 1048576) (hm : m ≤ 1048576) (h : Mat w w.heap.size A n L M) (h2 : Ints w w.heap.size O m f) (hn1 : n1 ≤ 1048576) (h3 : Ints w w.heap.size B n1 g) :
    Calls Try.prog 19 #[.agg #[.int .i64 p, .slice A n c, .slice O m e], .slice B n1 c1, .int .i64 s] w (PsPost p n L M m f n1 g s w) := by
  have HA := hide (fun (W : World) (hb : Below w.heap.size w W) => asked_any p A n c L M O m e f B n1 c1 g s W hn hL hm (h.keep hb hb.size) (h2.keep hb hb.size) hn1 (h3.keep hb hb.size))
  cases ha : askB p n L M m f n1 g s
  · have HN := hide (fun w' hb => ps_no (w := w) (w' := w') (show posB p n L M m f n1 g s = false by simp [posB, ha]) hb)
    rw [ha] at HA
    clear hL h h2 h3 ha
    refine (callsIn_wide (n := 6)).1 ?_
    change CallsIn (fw none) 6 _ _ _ _ _
    refine callsIn_of_wp_marks Try.func19 rfl trivial ?_ rfl
    simp only [Try.ntmps19, List.size_toArray, List.length_cons, List.length_nil, Nat.reduceAdd, Nat.reduceSub, Array.replicate_succ, Array.replicate_zero, List.push_toArray, List.append_toArray, List.nil_append, List.cons_append]
    gi_wp2_with (gi_at_call 51; refine (callsIn_fw (HA.out _ (below_boxes3 _ _ _))).mono ?_; rintro x w1 ⟨rfl, hb1⟩; have HB := hide (boxes3 hb1); clear hb1)
    refine ⟨_, results_tmp rfl _ _ _, ?_⟩
    exact HN.out _ (HB.out.1.alloc HB.out.1.size _)
  have ha2 := ha
  simp only [askB, Bool.and_eq_true, decide_eq_true_eq] at ha2
  obtain ⟨hv, hi, hw1, hw2⟩ := ha2
  obtain ⟨hsc, rfl, hle⟩ := vSch_sch hv
  obtain ⟨hp, hn6, hl0, _, hrows⟩ := vSch_rows hv
  obtain rfl : n1 = m := by omega
  have hir := inR_true.1 hi
  obtain ⟨t, rfl⟩ := Int.eq_ofNat_of_zero_le hir.1
  have ht32 : t < 32 := by omega
  obtain ⟨P, rfl⟩ := Int.eq_ofNat_of_zero_le (show 0 ≤ p by omega)
  obtain ⟨b, off, rfl, hbl, hc⟩ := h (by omega)
  obtain ⟨R0, C0, e1, _⟩ := hc 0 (by omega)
  simp only [Nat.add_zero] at e1
  have HR0 := hide e1
  have HM := hide (fun (W : World) (hb : Below w.heap.size w W) => h.keep hb hb.size)
  have HI := hide (fun (W : World) (hb : Below w.heap.size w W) => h3.keep hb hb.size)
  have HO := hide (fun (W : World) (hb : Below w.heap.size w W) => h2.keep hb hb.size)
  by_cases h4 : ¬ L 0 ≤ 4
  · have HN := hide (fun w' hb => ps_no (w := w) (w' := w') (show posB P n1 L M n1 f n1 g t = false by rw [posB, decide_eq_false h4]; simp) hb)
    have h4I : ((L 0 : Nat) : Int) > 4 := by omega
    rw [ha] at HA
    clear hL h h2 h3 ha hc e1 hrows hw1 hw2 hi hv hsc hle
    refine (callsIn_wide (n := 6)).1 ?_
    change CallsIn (fw none) 6 _ _ _ _ _
    refine callsIn_of_wp_marks Try.func19 rfl trivial ?_ rfl
    simp only [Try.ntmps19, List.size_toArray, List.length_cons, List.length_nil, Nat.reduceAdd, Nat.reduceSub, Array.replicate_succ, Array.replicate_zero, List.push_toArray, List.append_toArray, List.nil_append, List.cons_append]
    gi_wp2_with (gi_at_call 51; refine (callsIn_fw (HA.out _ (below_boxes3 _ _ _))).mono ?_; rintro x w1 ⟨rfl, hb1⟩; obtain ⟨hbw, hz1, k0, k1, k2⟩ := boxes3 hb1; have l0 : w.heap.size < w1.heap.size := (by omega); have l1 : b < w1.heap.size := (by omega); have x1 : w1.cell? ⟨w.heap.size, 1, none⟩ = some (.slice (some ⟨b, off, none⟩) n1 c) := k0.at_ (i := 1) rfl; have x2 := (hbw.cell (p := ⟨b, off, none⟩) hbl).trans HR0.out; have HB := hide hbw; clear hb1 hbw k0 k1 k2)
    refine ⟨_, results_tmp rfl _ _ _, ?_⟩
    exact HN.out _ (HB.out.alloc HB.out.size _)
  have h4' : L 0 ≤ 4 := by omega
  have h4I : ((L 0 : Nat) : Int) ≤ 4 := by omega
  have HPB := hide (show posB P n1 L M n1 f n1 g t = true by rw [posB, ha, decide_eq_true h4']; rfl)
  have HOW := hide (fun (W : World) (hb : Below w.heap.size w W) => ownedI_any P (some ⟨b, off, none⟩) O n1 c (L 0) e t M f W hsc ht32 (h2.keep hb hb.size))
  have HRW := hide hrows
  have HGB := hide (fun i hi => allR_bd hw2 i hi)
  have hmk := run_make_row' (P := Try.prog) 23 3 (.int .i64 0) 8 Try.underlying23 info_int rfl .i64 .i64 P (by omega) (by omega)
  rw [ha] at HA
  clear hL h h2 h3 ha hc e1 hrows hw1 hw2 hi hv hsc hle h4
  refine (callsIn_wide (n := 6)).1 ?_
  change CallsIn (fw none) 6 _ _ _ _ _
  refine callsIn_of_wp_marks Try.func19 rfl trivial ?_ rfl
  simp only [Try.ntmps19, List.size_toArray, List.length_cons, List.length_nil, Nat.reduceAdd, Nat.reduceSub, Array.replicate_succ, Array.replicate_zero, List.push_toArray, List.append_toArray, List.nil_append, List.cons_append]
  gi_wp2_with (gi_at_call 51; refine (callsIn_fw (HA.out _ (below_boxes3 _ _ _))).mono ?_; rintro x w1 ⟨rfl, hb1⟩; obtain ⟨hbw, hz1, k0, k1, k2⟩ := boxes3 hb1; have l0 : w.heap.size < w1.heap.size := (by omega); have l1 : b < w1.heap.size := (by omega); have x1 : w1.cell? ⟨w.heap.size, 1, none⟩ = some (.slice (some ⟨b, off, none⟩) n1 c) := k0.at_ (i := 1) rfl; have x2 := (hbw.cell (p := ⟨b, off, none⟩) hbl).trans HR0.out; have HB := hide hbw; have K0 := hide k0; have K1 := hide k1; have K2 := hide k2; clear hb1 hbw k0 k1 k2)
  have l2 : w.heap.size + 1 < w1.heap.size := by omega
  have l3 : w.heap.size + 1 + 1 < w1.heap.size := by omega
  refine nameIn (fun w2 => w2.heap.size = w1.heap.size + 1 + 1 + 1 ∧ Below w.heap.size w w2 ∧ Blk w2 w.heap.size 29 #[.int .i64 P, .slice (some ⟨b, off, none⟩) n1 c, .slice O n1 e] ∧ Blk w2 (w.heap.size + 1) 23 #[.slice B n1 c1] ∧ Blk w2 (w.heap.size + 1 + 1) 3 #[.int .i64 t] ∧
    Blk w2 w1.heap.size 65 #[.int .i64 P] ∧ Blk w2 (w1.heap.size + 1 + 1) 23 #[.slice (some ⟨w1.heap.size + 1, 0, none⟩) P P] ∧ Row w2 w.heap.size (some ⟨w1.heap.size + 1, 0, none⟩) P P (List.replicate P 0)) ?_ ?_
  · have hbz := HB.out.size
    have r1 := Row.zeros (w := w1.alloc (.cells #[.int .i64 P] 65)) (base := w.heap.size) P (by simp; omega) (by omega)
    have r2 := Blk.new ((w1.alloc (.cells #[.int .i64 P] 65)).alloc (.cells (madeCells #[.int .i64 0] P) 3)) 23 #[.slice (some ⟨w1.heap.size + 1, 0, none⟩) P P]
    rw [World.size_alloc] at r1
    rw [World.size_alloc, World.size_alloc] at r2
    exact ⟨by simp, ((HB.out.alloc hbz _).alloc (by simp; omega) _).alloc (by simp; omega) _, ((K0.out.alloc _).alloc _).alloc _, ((K1.out.alloc _).alloc _).alloc _, ((K2.out.alloc _).alloc _).alloc _, ((Blk.new _ _ _).alloc _).alloc _, r2, r1.alloc _⟩
  clear x1 x2 HB K0 K1 K2
  rintro w2 ⟨hz2, hb2, k0, k1, k2, k3, k4, hrow⟩
  have x0 := k3.at_ (i := 0) (v := .int .i64 P) rfl
  have x1 := k0.at_ (i := 1) (v := .slice (some ⟨b, off, none⟩) n1 c) rfl
  have x2 := (hb2.cell (p := ⟨b, off, none⟩) hbl).trans HR0.out
  have B2 := hide hb2
  have K0 := hide k0
  have K1 := hide k1
  have K2 := hide k2
  have K3 := hide k3
  have K4 := hide k4
  have HROW := hide hrow
  clear hb2 k0 k1 k2 k3 k4 hrow
  have hn0 : 0 < n1 := hn6.1
  have HZ2 := hide hz2
  clear hz2
  refine stillTailIn 6 (by kernel_rfl) (by kernel_rfl) ?_
  simp only [List.take_succ_cons, List.take_zero, List.drop_succ_cons, List.drop_zero]
  repeat still_step
  refine wpStill_nil ?_
  gi_wp2_with (gi_at_call 56; refine (callsIn_fw (messages_any _ _ _)).mono ?_; rintro e w' ⟨rfl, rfl⟩)
  clear x0 x1 x2
  have hz2 := HZ2.out
  refine nameIn (fun w5 => w5.heap.size = w2.heap.size + 1 + 1 ∧ PsI w w1.heap.size w2.heap.size #[.int .i64 P, .slice (some ⟨b, off, none⟩) n1 c, .slice O n1 e] B n1 c1 t P (L 0) (ctL P n1 (L 0) M f t g) 0 w5) ?_ ?_
  · have hz := B2.out.size
    have q1 := Blk.lay (w := w2.drew.alloc (.cells #[.int .i64 P] 65)) (g := w2.heap.size + 1) (by simp) 3 #[.int .i64 (L 0 : Nat)]
    have q0 := (Blk.lay (w := w2.drew) (g := w2.heap.size) rfl 65 #[.int .i64 P]).alloc (.cells #[.int .i64 (L 0 : Nat)] 3)
    refine ⟨by simp, (((B2.out.drew).alloc (by simpa using hz) _).alloc (by simp; omega) _), ((K0.out.drew).alloc _).alloc _, ((K1.out.drew).alloc _).alloc _, ((K2.out.drew).alloc _).alloc _, ((K3.out.drew).alloc _).alloc _, ((K4.out.drew).alloc _).alloc _, ?_, q0, q1⟩
    rw [ctL_zero]
    exact ((HROW.out.drew).alloc _).alloc _
  clear B2 K0 K1 K2 K3 K4 HROW
  rintro w5 ⟨hz5, hP0⟩
  have hs1 : w.heap.size + 3 ≤ w1.heap.size := hz1
  have hs2 : w1.heap.size + 3 ≤ w2.heap.size := by omega
  have hs3 : w2.heap.size + 2 ≤ w5.heap.size := by omega
  have HZ5 := hide hz5
  clear hz2 hz5
  refine wpIn_range_cell rfl (by omega) (gf := 76) (lb := #[.pointer (some ⟨w2.heap.size + 1, 0, none⟩), .pointer (some ⟨w2.heap.size, 0, none⟩)]) rfl trivial (enters_of Try.func76 (by kernel_rfl) rfl)
    (.slice (some ⟨w5.heap.size + 2, 0, none⟩) (L 0) (L 0)) (P ^ L 0) (rowO P (L 0)) (fun τ W => PsI w w1.heap.size w2.heap.size #[.int .i64 P, .slice (some ⟨b, off, none⟩) n1 c, .slice O n1 e] B n1 c1 t P (L 0) (ctL P n1 (L 0) M f t g) τ W) ?seq (fun τ X Y hX hXY => hX.keep hXY hs1 hs2 (by omega)) hP0 ?actBehind ?assign ?body ?done
  case seq =>
    intro l J W hsz hbW hJI hJk hY hJ0
    have hmi := messages1_in (6 - 1) (by omega) l (w2.heap.size + 1) w2.heap.size P (L 0) (by omega) (by omega) W J (by rw [hsz]; exact hJk) (fun τ X hX => ⟨(hJI τ X hX).2.2.2.2.2.2.2.2.at_ rfl, (hJI τ X hX).2.2.2.2.2.2.2.1.at_ rfl⟩) (by omega) (by omega) (by rw [hsz]; exact hY) hJ0
    exact hmi
  case assign =>
    intro l W K hK
    have HK := hide hK
    clear hK
    gi_wp2
    exact HK.out
  case body =>
    intro l τ W hτ hI hrow
    change Code.wpIn (fw (some l)) 4 _ _ _ _ _
    obtain ⟨a0, a1, a2, a3, a4, a5, a6, a7, a8⟩ := id hI
    have hltW : w5.heap.size + 2 < W.heap.size := (Array.getElem?_eq_some_iff.1 hrow).1
    have y0 := a1.at_ (i := 0) (v := .int .i64 P) rfl
    have y1 := a1.at_ (i := 1) (v := .slice (some ⟨b, off, none⟩) n1 c) rfl
    have y2 := a1.at_ (i := 2) (v := .slice O n1 e) rfl
    have y3 := a3.at_ (i := 0) (v := .int .i64 t) rfl
    have HPI := hide hI
    have HBW := hide a0
    have HRO := hide hrow
    clear hI hrow a0 a1 a2 a3 a4 a5 a6 a7 a8
    gi_wp2_with (gi_at_call 53; refine (callsIn_fw (HOW.out _ HBW.out)).mono ?_; rintro x w3 ⟨A3, c3, rfl, hr3, hb3⟩)
    have hz3 := hb3.size
    have HP3 := hide (HPI.out.keep hb3 hs1 hs2 (by omega))
    have HB3 := hide (up hb3 HBW.out HBW.out.size)
    have hxl := dgs_len P (L 0) τ
    have hxb := fun y => dgs_bd (p := P) (by omega) (L 0) τ y
    have hL3 : Row w3 w5.heap.size (some ⟨w5.heap.size + 2, 0, none⟩) (L 0) (L 0) (dgs P (L 0) τ) := by
      have h := Row.of_blk (base := w5.heap.size) (xs := dgs P (L 0) τ) HRO.out (by omega) (by omega)
      rw [hxl] at h
      exact h.keep hb3
    have HFF := hide (fine_fit (p := P) (n := n1) (k := L 0) (s := t) (M := M) (f := f) (g := g) (xs := dgs P (L 0) τ))
    have HYES := hide (fun (d : Nat) => ct_yes (P := P) (n := n1) (k := L 0) (s := t) (M := M) (f := f) (g := g) (t := τ) (d := d))
    have HNO := hide (ct_no (P := P) (n := n1) (k := L 0) (s := t) (M := M) (f := f) (g := g) (t := τ))
    generalize dgs P (L 0) τ = xs at *
    have HXB := hide (fun i (hi : i < L 0) => (show 0 ≤ lf xs i ∧ lf xs i ≤ (P : Int) - 1 by
      have hl : i < xs.length := by omega
      have := hxb _ (List.getElem_mem hl)
      simp only [lf, List.getD, List.getElem?_eq_getElem hl, Option.getD_some]
      omega))
    have HL3 := hide hL3
    have HR3 := hide hr3
    have HAT := hide (fun j (hj : j < (ownL f t n1).length) => ownI_at hj)
    have HLT := hide (fun j (hj : j < (ownL f t n1).length) => ownL_lt hj)
    have hgl := ownL_len f t n1
    generalize ownI f t n1 = lsI at *
    generalize hl : ownL f t n1 = ls at *
    have HLL := hide hl
    clear hl hxb hL3 hr3 y0 y1 y2 y3
    gi_loopw [11, 45] (fun v i wr => ∃ j : Nat, j ≤ ls.length ∧ i = .int .i64 j ∧ v = .bool (fineK P (L 0) M g (lf xs) ls j) ∧ ∃ q, wr = w3.drewN q) (fun _ i _ => ls.length - (intOf i).toNat)
    case atStart => exact ⟨0, by omega, rfl, rfl, 0, rfl⟩
    case round =>
      obtain ⟨j, hj, rfl, rfl, q, rfl⟩ := hrel
      by_cases hlt : j < ls.length
      · obtain ⟨gA, eA, _, _, q3, _, _⟩ := HR3.out.at_ (i := j) hlt
        subst eA
        rw [HAT.out j hlt] at q3
        have hi := HLT.out j hlt
        have HS := hide (show fineK P (L 0) M g (lf xs) ls (j + 1) = (fineK P (L 0) M g (lf xs) ls j && decide (dsum (M (ls.getD j 0)) (lf xs) (L 0) % P = g (ls.getD j 0))) from rfl)
        generalize ls.getD j 0 = i at *
        obtain ⟨p0, p1, p2, p3, p4, p5, p6, p7, p8⟩ := HP3.out
        have y1 := p1.at_ (i := 1) (v := .slice (some ⟨b, off, none⟩) n1 c) rfl
        have y4 := p2.at_ (i := 0) (v := .slice B n1 c1) rfl
        have y5 := p4.at_ (i := 0) (v := .int .i64 P) rfl
        obtain ⟨b', off', eB, hbl3, hc3⟩ := HM.out w3 HB3.out (by omega)
        obtain ⟨rfl, rfl⟩ : b = b' ∧ off = off' := by simpa using eB
        obtain ⟨R1, C1, e1, e2⟩ := hc3 i hi
        obtain ⟨m1, m2⟩ := HRW.out i hi
        rw [m1] at e1 e2
        obtain ⟨bS, oS, rfl, hbS, hcS⟩ := HI.out w3 HB3.out (by omega)
        have q5 := hcS i hi
        have HD := hide (fun (N : Nat) => (share_any P R1 (some ⟨w5.heap.size + 2, 0, none⟩) (L 0) C1 (L 0) (L 0) (M i) (lf xs) (w3.drewN N) (by omega) (by omega) (Nat.le_refl _) (fun z hz => by
          have a1 := m2 z hz
          have a2 := HXB.out z hz
          omega) e2 HL3.out.ints).mono (fun e w' hx => (⟨hx.1, 0, hx.2.symm⟩ : e = _ ∧ ∃ mm, w' = (w3.drewN N).drewN mm)))
        have hjI : (j : Int) < (ls.length : Int) := by omega
        have hjI0 : (0 : Int) ≤ (j : Int) := by omega
        have hiI : (i : Int) < (n1 : Int) := by omega
        have hiI0 : (0 : Int) ≤ (i : Int) := by omega
        clear p0 p1 p2 p3 p4 p5 p6 p7 p8 hc3 hcS e2 m1 m2 eB
        generalize dsum (M i) (lf xs) (L 0) % P = u at *
        generalize g i = z at *
        cases hfk : fineK P (L 0) M g (lf xs) ls j
        · rw [hfk] at HS
          have HFK := hide hfk
          clear hfk
          gi_wp2
          refine quietW (by kernel_rfl) (by kernel_rfl) ?_
          repeat (refine wq_step (fun K hK => ?_); go_simp; refine hK _ ?_; clear hK K)
          refine wq_nil ?_
          intro _ hw'
          obtain ⟨nq, hw''⟩ := hw'
          subst hw''
          gi_wp2
          exact ⟨⟨j + 1, hlt, by go_num, by rw [HS.out]; rfl, _, rfl⟩, by simp only [intOf]; omega⟩
        · rw [hfk] at HS
          have HFK := hide hfk
          clear hfk
          gi_wp2
          refine quietW (by kernel_rfl) (by kernel_rfl) ?_
          repeat (refine wq_step (fun K hK => ?_); go_simp; first | (refine hK _ ?_; clear hK K) | (apply Exists.intro; refine ⟨fun _ => ?_, hK _ ?_⟩; (go_at_call 57; with_reducible exact quiet_add (HD.out _)); clear hK K))
          refine wq_nil ?_
          intro _ hw'
          obtain ⟨nq, hw''⟩ := hw'
          subst hw''
          gi_wp2
          exact ⟨⟨j + 1, hlt, by go_num, by rw [HS.out, Bool.true_and]; rfl, _, rfl⟩, by simp only [intOf]; omega⟩
      · obtain hjl : j = ls.length := by omega
        have hge : ¬ (j : Int) < (ls.length : Int) := by omega
        have HFE := hide (show fineK P (L 0) M g (lf xs) ls j = fitB P n1 (L 0) M f t g xs by rw [hjl]; exact HFF.out)
        clear hjl
        cases hfk : fineK P (L 0) M g (lf xs) ls j
        · rw [hfk] at HFE
          have HFN := hide (HP3.out.same (HNO.out HFE.out.symm))
          clear hfk
          gi_wp2
          exact ⟨abv_below (below_drewN hb3 q), HFN.out.keep (below_drewN (Below.refl (w2.heap.size + 2) w3) q) hs1 hs2 (Nat.le_refl _)⟩
        · rw [hfk] at HFE
          have hL0 : 0 < L 0 := hl0.1
          have hd := HXB.out 0 hL0
          obtain ⟨d, hdd⟩ := Int.eq_ofNat_of_zero_le hd.1
          rw [hdd] at hd
          have HYE := hide (HYES.out d HFE.out.symm hdd)
          obtain ⟨p0, p1, p2, p3, p4, p5, p6, p7, p8⟩ := HP3.out
          have y1 := p5.at_ (i := 0) (v := .slice (some ⟨w1.heap.size + 1, 0, none⟩) P P) rfl
          obtain ⟨_, eA, _, _, y2, _, _⟩ := HL3.out.at_ (i := 0) hL0
          injection eA with eA
          injection eA with eA
          subst eA
          rw [show xs.getD 0 0 = ((d : Nat) : Int) from hdd] at y2
          obtain ⟨_, eA, _, _, y3, y4, hset⟩ := p6.at_ (i := d) (by omega)
          injection eA with eA
          injection eA with eA
          subst eA
          have hct : (ctL P n1 (L 0) M f t g τ).getD d 0 = ctF P n1 (L 0) M f t g τ d := listOf_getD _ (by omega)
          rw [hct] at y3
          have hb1 := ct_bd (P := P) (n := n1) (k := L 0) (M := M) (f := f) (g := g) (s := t) (x := d) τ
          have hpk : P ^ L 0 ≤ 7 ^ 4 := Nat.le_trans (Nat.pow_le_pow_left (by omega) _) (Nat.pow_le_pow_right (by omega) h4')
          have HS := hide (hset (ctF P n1 (L 0) M f t g τ d + 1))
          rw [← HYE.out] at HS
          have hdI : (d : Int) < (P : Int) := by omega
          have hdI0 : (0 : Int) ≤ (d : Int) := by omega
          have hwr : IntKind.i64.wrap (ctF P n1 (L 0) M f t g τ d + 1) = ctF P n1 (L 0) M f t g τ d + 1 := IntWalk.i64_in _ (by omega)
          generalize ctF P n1 (L 0) M f t g τ d = u at *
          have lz : w1.heap.size + 1 < w3.heap.size := by omega
          clear hfk p0 p1 p2 p3 p4 p5 p6 p7 p8 hset hct hdd hpk
          gi_wp2
          refine stillTailIn 8 (by kernel_rfl) (by kernel_rfl) ?_
          simp only [List.take_succ_cons, List.take_zero, List.drop_succ_cons, List.drop_zero]
          repeat still_step
          refine wpStill_nil ?_
          gi_wp2
          refine ⟨(abv_below (below_drewN hb3 (q + 1))).trans (abv_setCell (p := ⟨w1.heap.size + 1, d, none⟩) (show w1.heap.size + 1 < w5.heap.size by omega) _), ?_⟩
          exact (HP3.out.keep (below_drewN (Below.refl (w2.heap.size + 2) w3) (q + 1)) hs1 hs2 (Nat.le_refl _)).put hs1 hs2 HS.out
  case done =>
    intro W hI hK
    have HPI := hide hI
    obtain ⟨p0, p1, p2, p3, p4, p5, p6, p7, p8⟩ := hI
    have y1 := p5.at_ (i := 0) (v := .slice (some ⟨w1.heap.size + 1, 0, none⟩) P P) rfl
    clear p0 p1 p2 p3 p4 p5 p6 p7 p8
    gi_wp2
    refine ⟨by simp, .inl ⟨_, _, rfl, run_takeDeferred hK, ?_⟩⟩
    refine ⟨_, results_tmp rfl _ _ _, ?_⟩
    have hp := HPI.out.keep (below_put (o := .deferred none) hs3) hs1 hs2 (Nat.le_refl _)
    exact ps_yes HPB.out hp.2.2.2.2.2.2.1 hp.1
end Go.Proofs.Ytcalfblghblhcaa
