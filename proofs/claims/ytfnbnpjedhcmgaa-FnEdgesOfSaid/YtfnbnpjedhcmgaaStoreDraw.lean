/-
  The draws of stores: whatever they draw, they return a store (and an amount) and leave what was there. Conditions: the code is a slice of bytes that can be read.
-/
import Derived.Test.YtfnbnpjedhcmgaaReader
import Derived.Deep.RegionWith
import Derived.Deep.DeepCutAuto
namespace Go.Proofs.Ytfnbnpjedhcmgaa
open Go.RowKit

theorem name_calls {P : Program} {f : FuncId} {args : Array Value} {R : Ending → World → Prop} {W : World} (F : World → Prop) (h : F W) (k : ∀ w, F w → Calls P f args w R) : Calls P f args W R := k W h
theorem name_code {P : Program} {c : Code} {Q : Exit → Act → World → Prop} {a : Act} {W : World} (F : World → Prop) (h : F W) (k : ∀ w, F w → Code.wp P c Q a w) : Code.wp P c Q a W := k W h

/-- block b holds five ints -/
def Five (w : World) (b : Nat) : Prop := ∃ x0 x1 x2 x3 x4 : Int, w.heap[b]? = some (.cells #[.int .i64 x0, .int .i64 x1, .int .i64 x2, .int .i64 x3, .int .i64 x4] 29 (0, 0))

theorem Five.lt {w : World} {b : Nat} (h : Five w b) : b < w.heap.size := by
  obtain ⟨_, _, _, _, _, h⟩ := h
  rcases Nat.lt_or_ge b w.heap.size with hlt | hge
  · exact hlt
  · rw [Array.getElem?_eq_none hge] at h; cases h

theorem Five.cells {w : World} {b : Nat} (h : Five w b) : ∃ x0 x1 x2 x3 x4 : Int, w.cell? ⟨b, 0, none⟩ = some (.int .i64 x0) ∧ w.cell? ⟨b, 1, none⟩ = some (.int .i64 x1) ∧ w.cell? ⟨b, 2, none⟩ = some (.int .i64 x2) ∧ w.cell? ⟨b, 3, none⟩ = some (.int .i64 x3) ∧ w.cell? ⟨b, 4, none⟩ = some (.int .i64 x4) ∧
    (w.frozen? ⟨b, 0, none⟩ = false ∧ w.frozen? ⟨b, 1, none⟩ = false ∧ w.frozen? ⟨b, 2, none⟩ = false ∧ w.frozen? ⟨b, 3, none⟩ = false ∧ w.frozen? ⟨b, 4, none⟩ = false) := by
  obtain ⟨x0, x1, x2, x3, x4, h⟩ := h
  refine ⟨x0, x1, x2, x3, x4, ?_, ?_, ?_, ?_, ?_, ?_, ?_, ?_, ?_, ?_⟩
  · simpa using cell_of_row w b 0 _ _ _ h
  · simpa using cell_of_row w b 1 _ _ _ h
  · simpa using cell_of_row w b 2 _ _ _ h
  · simpa using cell_of_row w b 3 _ _ _ h
  · simpa using cell_of_row w b 4 _ _ _ h
  all_goals simp [World.frozen?, h]

theorem Five.keep {w w' : World} {b : Nat} (h : Five w b) (hk : w'.heap[b]? = w.heap[b]?) : Five w' b := by
  obtain ⟨x0, x1, x2, x3, x4, h⟩ := h
  exact ⟨x0, x1, x2, x3, x4, hk.trans h⟩
theorem Five.set_ {w : World} {b : Nat} (h : Five w b) {j : Nat} (hj : j < 5) (v : Int) : Five (w.setCell ⟨b, j, none⟩ (.int .i64 v)) b := by
  obtain ⟨x0, x1, x2, x3, x4, h⟩ := h
  match j, hj with
  | 0, _ => exact ⟨v, x1, x2, x3, x4, by simp [World.setCell, Array.getElem?_modify, h]⟩
  | 1, _ => exact ⟨x0, v, x2, x3, x4, by simp [World.setCell, Array.getElem?_modify, h]⟩
  | 2, _ => exact ⟨x0, x1, v, x3, x4, by simp [World.setCell, Array.getElem?_modify, h]⟩
  | 3, _ => exact ⟨x0, x1, x2, v, x4, by simp [World.setCell, Array.getElem?_modify, h]⟩
  | 4, _ => exact ⟨x0, x1, x2, x3, v, by simp [World.setCell, Array.getElem?_modify, h]⟩

/-- what the draw of a store keeps: the reader, and its two blocks -/
structure St (w wx : World) (g k B C : Nat) : Prop where
  rd : Rd wx g k
  only : Only g w wx
  f0 : Five wx B
  f1 : Five wx C
  hg : g < B
  hB : w.heap.size ≤ B
  hC : B < C

theorem Rd.lt {w : World} {g k : Nat} (h : Rd w g k) : g < w.heap.size := by obtain ⟨_, _, _, _, _, _, _, h⟩ := h; exact h
theorem Rd.set_ {w : World} {g k : Nat} (h : Rd w g k) {p : Addr} (hp : g < p.block) (u : Value) : Rd (w.setCell p u) g k := by
  obtain ⟨A, n, c, bs, q, ⟨h1, h2, h3, h4, h5⟩, hq, hg⟩ := h
  refine ⟨A, n, c, bs, q, ⟨(Below.heap_setCell w p u g (by omega)).trans h1, h2, h3, h4, fun hn => ?_⟩, hq, by simpa [World.setCell] using hg⟩
  obtain ⟨b, off, e, hlt, hc⟩ := h5 hn
  exact ⟨b, off, e, hlt, fun i hi => (World.cell?_setCell_other w p ⟨b, off + i, none⟩ u (by rintro rfl; simp at hp; omega)).trans (hc i hi)⟩
theorem Rd.alloc {w : World} {g k : Nat} (h : Rd w g k) (o : Obj) : Rd (w.alloc o) g k := h.of_only ((Below.refl _ _).alloc (Nat.le_refl _) _)
theorem Rd.drew {w : World} {g k : Nat} (h : Rd w g k) : Rd w.drew g k := h

theorem St.pick {w wx w' : World} {g k B C : Nat} (h : St w wx g k B C) (hr : Rd w' g (k + 1)) (ho : Only g wx w') : St w w' g (k + 1) B C :=
  ⟨hr, h.only.trans ho, h.f0.keep (ho.block B h.f0.lt (by have := h.hg; simp; omega)), h.f1.keep (ho.block C h.f1.lt (by have := h.hg; have := h.hC; simp; omega)), h.hg, h.hB, h.hC⟩
theorem St.store {w wx : World} {g k B C : Nat} (h : St w wx g k B C) {j : Nat} (hj : j < 5) (v : Int) : St w (wx.setCell ⟨C, j, none⟩ (.int .i64 v)) g k B C :=
  ⟨h.rd.set_ (by have := h.hg; have := h.hC; show g < C; omega) _, h.only.setCell (.inr (by show _ ≤ C; have := h.hB; have := h.hC; omega)) _, h.f0.keep (Below.heap_setCell _ _ _ _ (by have := h.hC; show B ≠ C; omega)), h.f1.set_ hj v, h.hg, h.hB, h.hC⟩
theorem St.drew {w wx : World} {g k B C : Nat} (h : St w wx g k B C) : St w wx.drew g k B C := ⟨h.rd.drew, h.only.drew, h.f0, h.f1, h.hg, h.hB, h.hC⟩
theorem St.alloc {w wx : World} {g k B C : Nat} (h : St w wx g k B C) (o : Obj) : St w (wx.alloc o) g k B C :=
  ⟨h.rd.alloc o, h.only.alloc o, h.f0.keep (Below.heap_alloc _ _ _ h.f0.lt), h.f1.keep (Below.heap_alloc _ _ _ h.f1.lt), h.hg, h.hB, h.hC⟩

theorem St.end_ {w wx : World} {g k B C : Nat} (h : St w wx g k B C) (x0 x1 x2 x3 x4 : Int) (hk : k ≤ 10 := by omega) :
    Rd (((((wx.setCell ⟨B, 0, none⟩ (.int .i64 x0)).setCell ⟨B, 1, none⟩ (.int .i64 x1)).setCell ⟨B, 2, none⟩ (.int .i64 x2)).setCell ⟨B, 3, none⟩ (.int .i64 x3)).setCell ⟨B, 4, none⟩ (.int .i64 x4)) g 10 ∧
    Only g w (((((wx.setCell ⟨B, 0, none⟩ (.int .i64 x0)).setCell ⟨B, 1, none⟩ (.int .i64 x1)).setCell ⟨B, 2, none⟩ (.int .i64 x2)).setCell ⟨B, 3, none⟩ (.int .i64 x3)).setCell ⟨B, 4, none⟩ (.int .i64 x4)) :=
  ⟨(((((h.rd.set_ h.hg _).set_ h.hg _).set_ h.hg _).set_ h.hg _).set_ h.hg _).mono hk, ((((h.only.setCell (.inr h.hB) _).setCell (.inr h.hB) _).setCell (.inr h.hB) _).setCell (.inr h.hB) _).setCell (.inr h.hB) _⟩

theorem pick_st {w wx : World} {g k B C : Nat} (m : Int) (h : St w wx g k B C) (hk : k ≤ 1000000) :
    Calls Try.prog 46 #[.pointer (some ⟨g, 0, none⟩), .int .i64 m] wx fun e w' => ∃ v : Int, e = .returned (.int .i64 v) ∧ 0 ≤ v ∧ St w w' g (k + 1) B C := by
  refine (pick_rd g k m wx h.rd hk).mono ?_
  rintro e w' ⟨v, rfl, hv, hr, ho⟩
  exact ⟨v, rfl, hv.1, h.pick hr ho⟩

theorem one_st {w wx : World} {g k B C : Nat} (xs : Array Value) (ys : List Int) (n c : Nat) (h : St w wx g k B C) (hk : k ≤ 1000000) (hn : 1 ≤ n) (hm : n ≤ 1000) (hx : xs = (ys.map (Value.int .i64)).toArray) (hl : ys.length = n) (t : TypeId) :
    Calls Try.prog 45 #[.pointer (some ⟨g, 0, none⟩), .slice (some ⟨wx.heap.size, 0, none⟩) n c] (wx.alloc (.cells xs t)) fun e w' => ∃ v : Int, e = .returned (.int .i64 v) ∧ St w w' g (k + 1) B C := by
  have hg := h.rd.lt
  refine (one_any g k _ 0 n c ys _ (h.alloc _).rd hk hn hm (by omega) (by simp) (fun i hi => ?_)).mono ?_
  · rw [cell_of_row _ _ _ _ _ _ (heap_alloc_new wx _)]
    subst hx
    simp [List.getD, hl, hi]
  · rintro e w' ⟨i, hi, rfl, hr, ho⟩
    exact ⟨_, rfl, (h.alloc _).pick hr ho⟩

set_option maxHeartbeats 1000000 in
theorem someStore_any (g : Nat) (w : World) (h : Rd w g 0) :
    Calls Try.prog 40 #[.pointer (some ⟨g, 0, none⟩)] w fun e w' => ∃ nd ne ak k s : Int, e = .returned (.agg #[.int .i64 nd, .int .i64 ne, .int .i64 ak, .int .i64 k, .int .i64 s]) ∧ Rd w' g 10 ∧ Only g w w' := by
  have hg := h.lt
  obtain ⟨B, hB, hBe⟩ : ∃ B, w.heap.size ≤ B ∧ w.heap.size = B := ⟨_, Nat.le_refl _, rfl⟩
  have HB := hide hBe
  clear hBe
  go_enter Try.func40, Try.ntmps40
  go_wp2_with fail
  rw [HB.out]
  refine name_calls (fun wx => Rd wx g 0 ∧ Only g w wx ∧ Five wx B) ⟨h.alloc _, (Only.refl g w).alloc _, ⟨0, 0, 0, 0, 0, by rw [← HB.out]; exact heap_alloc_new w _⟩⟩ ?_
  rintro wx ⟨r0, o0, f0⟩
  refine (pick_rd g _ _ _ r0 (by omega)).mono ?_
  rintro e w1 ⟨v1, rfl, hv1, hr1, ho1⟩
  have f01 := f0.keep (ho1.block _ f0.lt (by simp; omega))
  obtain ⟨C, hC⟩ : ∃ C, w1.heap.size = C := ⟨_, rfl⟩
  have HC := hide hC
  clear hC
  go_wp2_with fail
  rw [HC.out]
  refine name_calls (fun wx => St w wx g 1 B C) ⟨hr1.alloc _, (o0.trans ho1).alloc _, f01.keep (Below.heap_alloc _ _ _ f01.lt), ⟨2 + v1, 0, 0, 0, 0, by rw [← HC.out]; exact heap_alloc_new w1 _⟩, by omega, hB, by rw [← HC.out]; exact f01.lt⟩ ?_
  clear hr1 ho1 f01 HC r0 o0 f0 hv1
  rintro w2 hs
  refine (pick_st _ hs (by omega)).mono ?_
  rintro e w3 ⟨v2, rfl, hv2, st⟩
  clear hs
  obtain ⟨x0, x1, x2, x3, x4, c0, c1, c2, c3, c4, z0, z1, z2, z3, z4⟩ := st.f1.cells
  go_wp2_with fail
  refine name_code (fun wx => St w wx g 2 B C) (st.store (by omega) _) ?_
  clear c0 c1 c2 c3 c4 z0 z1 z2 z3 z4 st
  intro w4 st
  obtain ⟨x0, x1, x2, x3, x4, c0, c1, c2, c3, c4, z0, z1, z2, z3, z4⟩ := st.f1.cells
  go_cut [] (fun wx => St w wx g 3 B C)
  case first =>
    go_region_with (go_at_call 46; refine (pick_st _ (by first | exact st | exact st.drew) (by omega)).mono ?_; rintro e w5 ⟨v3, rfl, hv3, st5⟩; obtain ⟨y0, y1, y2, y3, y4, d0, d1, d2, d3, d4, f0, f1, f2, f3, f4⟩ := st5.f1.cells)
    all_goals (go_wp2_with fail; go_meet; first | exact st5.store (by omega) _ | exact (st5.store (by omega) _).drew)
  case rest =>
    clear c0 c1 c2 c3 c4 z0 z1 z2 z3 z4 st
    go_wp2_with fail
    refine (pick_st _ hcut (by omega)).mono ?_
    rintro e w6 ⟨v4, rfl, hv4, st⟩
    obtain ⟨x0, x1, x2, x3, x4, c0, c1, c2, c3, c4, z0, z1, z2, z3, z4⟩ := st.f1.cells
    go_wp2_with fail
    refine name_calls (fun wx => St w wx g 4 B C) (st.store (by omega) _) ?_
    clear c0 c1 c2 c3 c4 z0 z1 z2 z3 z4 st hcut
    intro w7 st
    refine (pick_st _ st (by omega)).mono ?_
    clear st
    rintro e w8 ⟨v5, rfl, hv5, st⟩
    obtain ⟨x0, x1, x2, x3, x4, c0, c1, c2, c3, c4, z0, z1, z2, z3, z4⟩ := st.f1.cells
    go_wp2_with fail
    refine name_calls (fun wx => St w wx g 5 B C) (st.store (by omega) _) ?_
    clear c0 c1 c2 c3 c4 z0 z1 z2 z3 z4 st
    intro w9 st
    refine (pick_st _ st (by omega)).mono ?_
    clear st
    rintro e w10 ⟨v6, rfl, hv6, st⟩
    obtain ⟨x0, x1, x2, x3, x4, c0, c1, c2, c3, c4, z0, z1, z2, z3, z4⟩ := st.f1.cells
    go_upto_region 15 with (fail)
    · refine (one_st _ [1, 7] 2 2 st (by omega) (by omega) (by omega) rfl rfl _).mono ?_
      clear c0 c1 c2 c3 c4 z0 z1 z2 z3 z4 st
      rintro e w11 ⟨v7, rfl, st⟩
      obtain ⟨x0, x1, x2, x3, x4, c0, c1, c2, c3, c4, z0, z1, z2, z3, z4⟩ := st.f1.cells
      go_upto_region 15 with (fail)
      refine name_code (fun wx => St w wx g 7 B C) (st.store (by omega) _) ?_
      clear c0 c1 c2 c3 c4 z0 z1 z2 z3 z4
      clear st
      intro w12 st
      obtain ⟨x0, x1, x2, x3, x4, c0, c1, c2, c3, c4, z0, z1, z2, z3, z4⟩ := st.f1.cells
      obtain ⟨y0, y1, y2, y3, y4, d0, d1, d2, d3, d4, f0, f1, f2, f3, f4⟩ := st.f0.cells
      have hBC : B < C := st.hC
      have HF := hide (st.end_ x0 x1 x2 x3 x4)
      clear st
      go_wp2_with fail
      refine bodyPost_ret (v := .agg #[.int .i64 x0, .int .i64 x1, .int .i64 x2, .int .i64 x3, .int .i64 x4]) (by simp [results, Try.results40, go_sem, d0, d1, d2, d3, d4]) rfl ⟨x0, x1, x2, x3, x4, rfl, HF.out⟩
    · refine (one_st _ [0, x0] 2 2 st (by omega) (by omega) (by omega) rfl rfl _).mono ?_
      clear c0 c1 c2 c3 c4 z0 z1 z2 z3 z4 st
      rintro e w11 ⟨v7, rfl, st⟩
      obtain ⟨x0, x1, x2, x3, x4, c0, c1, c2, c3, c4, z0, z1, z2, z3, z4⟩ := st.f1.cells
      go_upto_region 15 with (fail)
      refine name_code (fun wx => St w wx g 7 B C) (st.store (by omega) _) ?_
      clear c0 c1 c2 c3 c4 z0 z1 z2 z3 z4
      clear st
      intro w12 st
      obtain ⟨x0, x1, x2, x3, x4, c0, c1, c2, c3, c4, z0, z1, z2, z3, z4⟩ := st.f1.cells
      obtain ⟨y0, y1, y2, y3, y4, d0, d1, d2, d3, d4, f0, f1, f2, f3, f4⟩ := st.f0.cells
      have hBC : B < C := st.hC
      have HF := hide (st.end_ x0 x1 x2 x3 x4)
      clear st
      go_wp2_with fail
      refine bodyPost_ret (v := .agg #[.int .i64 x0, .int .i64 x1, .int .i64 x2, .int .i64 x3, .int .i64 x4]) (by simp [results, Try.results40, go_sem, d0, d1, d2, d3, d4]) rfl ⟨x0, x1, x2, x3, x4, rfl, HF.out⟩
    · refine (one_st _ [wrap64 (x1 - 1), x0] 2 2 st (by omega) (by omega) (by omega) rfl rfl _).mono ?_
      clear c0 c1 c2 c3 c4 z0 z1 z2 z3 z4 st
      rintro e w11 ⟨v7, rfl, st⟩
      obtain ⟨x0, x1, x2, x3, x4, c0, c1, c2, c3, c4, z0, z1, z2, z3, z4⟩ := st.f1.cells
      go_upto_region 15 with (fail)
      refine name_code (fun wx => St w wx g 7 B C) (st.store (by omega) _) ?_
      clear c0 c1 c2 c3 c4 z0 z1 z2 z3 z4
      clear st
      intro w12 st
      obtain ⟨x0, x1, x2, x3, x4, c0, c1, c2, c3, c4, z0, z1, z2, z3, z4⟩ := st.f1.cells
      obtain ⟨y0, y1, y2, y3, y4, d0, d1, d2, d3, d4, f0, f1, f2, f3, f4⟩ := st.f0.cells
      have hBC : B < C := st.hC
      have HF := hide (st.end_ x0 x1 x2 x3 x4)
      clear st
      go_wp2_with fail
      refine bodyPost_ret (v := .agg #[.int .i64 x0, .int .i64 x1, .int .i64 x2, .int .i64 x3, .int .i64 x4]) (by simp [results, Try.results40, go_sem, d0, d1, d2, d3, d4]) rfl ⟨x0, x1, x2, x3, x4, rfl, HF.out⟩
    · refine (one_st _ [-1, 21, 20] 3 3 st (by omega) (by omega) (by omega) rfl rfl _).mono ?_
      clear c0 c1 c2 c3 c4 z0 z1 z2 z3 z4 st
      rintro e w11 ⟨v7, rfl, st⟩
      obtain ⟨x0, x1, x2, x3, x4, c0, c1, c2, c3, c4, z0, z1, z2, z3, z4⟩ := st.f1.cells
      go_upto_region 15 with (fail)
      refine name_code (fun wx => St w wx g 7 B C) (st.store (by omega) _) ?_
      clear c0 c1 c2 c3 c4 z0 z1 z2 z3 z4
      clear st
      intro w12 st
      obtain ⟨x0, x1, x2, x3, x4, c0, c1, c2, c3, c4, z0, z1, z2, z3, z4⟩ := st.f1.cells
      obtain ⟨y0, y1, y2, y3, y4, d0, d1, d2, d3, d4, f0, f1, f2, f3, f4⟩ := st.f0.cells
      have hBC : B < C := st.hC
      have HF := hide (st.end_ x0 x1 x2 x3 x4)
      clear st
      go_wp2_with fail
      refine bodyPost_ret (v := .agg #[.int .i64 x0, .int .i64 x1, .int .i64 x2, .int .i64 x3, .int .i64 x4]) (by simp [results, Try.results40, go_sem, d0, d1, d2, d3, d4]) rfl ⟨x0, x1, x2, x3, x4, rfl, HF.out⟩
    · refine name_code (fun wx => St w wx g 6 B C) st ?_
      clear c0 c1 c2 c3 c4 z0 z1 z2 z3 z4
      clear st
      intro w12 st
      obtain ⟨x0, x1, x2, x3, x4, c0, c1, c2, c3, c4, z0, z1, z2, z3, z4⟩ := st.f1.cells
      obtain ⟨y0, y1, y2, y3, y4, d0, d1, d2, d3, d4, f0, f1, f2, f3, f4⟩ := st.f0.cells
      have hBC : B < C := st.hC
      have HF := hide (st.end_ x0 x1 x2 x3 x4)
      clear st
      go_wp2_with fail
      refine bodyPost_ret (v := .agg #[.int .i64 x0, .int .i64 x1, .int .i64 x2, .int .i64 x3, .int .i64 x4]) (by simp [results, Try.results40, go_sem, d0, d1, d2, d3, d4]) rfl ⟨x0, x1, x2, x3, x4, rfl, HF.out⟩
end Go.Proofs.Ytfnbnpjedhcmgaa
