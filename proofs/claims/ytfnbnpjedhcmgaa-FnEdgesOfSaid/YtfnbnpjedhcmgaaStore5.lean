/-
  The stores, continued: the two stores at the edges. Conditions: none.
-/
import Derived.Test.YtfnbnpjedhcmgaaStore4
namespace Go.Proofs.Ytfnbnpjedhcmgaa
open Go.RowKit

/-- block g is just the cells cs of element type t, none frozen -/
def SBlk (w : World) (g : Nat) (t : TypeId) (cs : Array Value) : Prop := w.heap[g]? = some (.cells cs t (0, 0))
section
variable {w w' : World} {g : Nat} {t : TypeId} {cs : Array Value}
theorem SBlk.lt (h : SBlk w g t cs) : g < w.heap.size := by
  rcases Nat.lt_or_ge g w.heap.size with hlt | hge
  · exact hlt
  · unfold SBlk at h; rw [Array.getElem?_eq_none hge] at h; cases h
theorem SBlk.cell (h : SBlk w g t cs) (i : Nat) : w.cell? ⟨g, i, none⟩ = cs[i]? := cell_of_row w g i cs t (0, 0) h
theorem SBlk.frozen (h : SBlk w g t cs) (i : Nat) : w.frozen? ⟨g, i, none⟩ = false := by
  unfold SBlk at h
  simp [World.frozen?, h]
theorem SBlk.new (w : World) (t : TypeId) (cs : Array Value) : SBlk (w.alloc (.cells cs t)) w.heap.size t cs := heap_alloc_new w _
theorem SBlk.newAt {g : Nat} (hg : g = w.heap.size) (t : TypeId) (cs : Array Value) : SBlk (w.alloc (.cells cs t)) g t cs := by subst hg; exact heap_alloc_new w _
theorem SBlk.drew (h : SBlk w g t cs) : SBlk w.drew g t cs := h
theorem SBlk.alloc (h : SBlk w g t cs) (o : Obj) : SBlk (w.alloc o) g t cs := (Below.heap_alloc w o g h.lt).trans h
theorem SBlk.set_ (h : SBlk w g t cs) (i : Nat) (u : Value) : SBlk (w.setCell ⟨g, i, none⟩ u) g t (cs.setIfInBounds i u) := by
  unfold SBlk at h ⊢
  simp [World.setCell, Array.getElem?_modify, h]
theorem SBlk.far (h : SBlk w g t cs) {p : Addr} (hp : g ≠ p.block) (u : Value) : SBlk (w.setCell p u) g t cs := (Below.heap_setCell w p u g hp).trans h
theorem SBlk.below {B : Nat} (h : SBlk w g t cs) (hb : Below B w w') (hg : g < B) : SBlk w' g t cs := (hb.block g hg).trans h
theorem SBlk.grown {row : Option Nat} (h : SBlk w g t cs) (hb : w.grownBy w' row) (hg : some g ≠ row) : SBlk w' g t cs := (hb.block g h.lt hg).trans h
theorem SBlk.at_ {i : Nat} {v : Value} (h : SBlk w g t cs) (hc : cs[i]? = some v) : w.cell? ⟨g, i, none⟩ = some v := (h.cell i).trans hc
end

theorem nameX {E : Act → World → Prop} {a : Act} {W : World} (F : World → Prop) (h : F W) (k : ∀ w, F w → E a w) : E a W := k W h
theorem name_world {P : Program} {c : Code} {Q : Exit → Act → World → Prop} {a : Act} {W : World} (F : World → Prop) (h : F W) (k : ∀ w, F w → Code.wp P c Q a w) : Code.wp P c Q a W := k W h

theorem name_post {P : Program} {f : Func} {Q : Ending → World → Prop} {e : Exit} {a : Act} {W : World} (F : World → Prop) (h : F W) (k : ∀ w, F w → bodyPost P f Q e a w) : bodyPost P f Q e a W := k W h
section
variable {w : World} {g k : Nat} {t : TypeId} {cs : Array Value} {v0 v1 v2 v3 v4 u0 u1 u2 u3 u4 : Value}
theorem SBlk.five (h : SBlk w g t #[v0, v1, v2, v3, v4]) : SBlk (((((w.setCell ⟨g, 0, none⟩ u0).setCell ⟨g, 1, none⟩ u1).setCell ⟨g, 2, none⟩ u2).setCell ⟨g, 3, none⟩ u3).setCell ⟨g, 4, none⟩ u4) g t #[u0, u1, u2, u3, u4] := by
  have h' := ((((h.set_ 0 u0).set_ 1 u1).set_ 2 u2).set_ 3 u3).set_ 4 u4
  simpa using h'
theorem SBlk.far5 (h : SBlk w g t cs) (hk : g ≠ k) : SBlk (((((w.setCell ⟨k, 0, none⟩ u0).setCell ⟨k, 1, none⟩ u1).setCell ⟨k, 2, none⟩ u2).setCell ⟨k, 3, none⟩ u3).setCell ⟨k, 4, none⟩ u4) g t cs :=
  ((((h.far hk u0).far hk u1).far hk u2).far hk u3).far hk u4
end

set_option maxHeartbeats 4000000 in
theorem EdgesOfS_any (nd ne ak k s : Int) (w : World) :
    Calls Try.prog 23 #[.agg #[.int .i64 nd, .int .i64 ne, .int .i64 ak, .int .i64 k, .int .i64 s]] w fun e w' => e = .returned (edgeV nd ne ak k s) ∧ Below w.heap.size w w' := by
  cases hv : vSt nd ne ak k s
  · refine calls_val (a := .tuple #[.agg #[.int .i64 0, .int .i64 0, .int .i64 0, .int .i64 0, .int .i64 0], .int .i64 0, .agg #[.int .i64 0, .int .i64 0, .int .i64 0, .int .i64 0, .int .i64 0], .int .i64 0]) (by simp [edgeV, hv]) ?_
    go_enter Try.func23, Try.ntmps23
    go_wp2_with (first | (go_at_call 36; refine (validStoreS_any _ _ _ _ _ _).mono ?_; rintro e w' ⟨rfl, hb⟩; obtain ⟨hc, hf⟩ := bcell hb; have hz := hb.size; simp at hz; have hz0 : w.heap.size < w'.heap.size := (by omega); have hz1 : w.heap.size + 1 < w'.heap.size := (by omega); have hz2 : w.heap.size + 1 + 1 < w'.heap.size := (by omega)))
    refine bodyPost_ret (v := .tuple #[.agg #[.int .i64 0, .int .i64 0, .int .i64 0, .int .i64 0, .int .i64 0], .int .i64 0, .agg #[.int .i64 0, .int .i64 0, .int .i64 0, .int .i64 0, .int .i64 0], .int .i64 0]) (by simp [results, Try.results23, go_sem, hc]) rfl ⟨rfl, ?_⟩
    have h1 : Below w.heap.size w w' := up hb (by go_grown) (by simp; omega)
    go_grown
  · refine calls_val (a := .tuple #[.agg #[.int .i64 nd, .int .i64 ne, .int .i64 ak, .int .i64 (ak - ne + 1), .int .i64 1], .int .i64 (ne * (ak - ne + 1)), .agg #[.int .i64 nd, .int .i64 ne, .int .i64 ak, .int .i64 (2 * ak), .int .i64 2], .int .i64 (ne * (2 * ak + 1 - ne))]) (by simp [edgeV, hv]) ?_
    have hbd := edge_bd hv
    obtain ⟨b1, b2, b3, b4, b5, b6, b7, b8, b9, b10⟩ := vSt_bd hv
    go_enter Try.func23, Try.ntmps23
    go_wp2_with (first | (go_at_call 36; refine (validStoreS_any _ _ _ _ _ _).mono ?_; rintro e w' ⟨rfl, hb⟩; obtain ⟨hc, hf⟩ := bcell hb; have hz := hb.size; simp at hz; have hz0 : w.heap.size < w'.heap.size := (by omega); have hz1 : w.heap.size + 1 < w'.heap.size := (by omega); have hz2 : w.heap.size + 1 + 1 < w'.heap.size := (by omega)))
    refine name_world (fun wx => wx.cell? ⟨w.heap.size, 1, none⟩ = some (.int .i64 ne) ∧ wx.cell? ⟨w.heap.size, 2, none⟩ = some (.int .i64 ak) ∧
      (wx.cell? ⟨w'.heap.size, 0, none⟩ = some (.int .i64 nd) ∧ wx.cell? ⟨w'.heap.size, 1, none⟩ = some (.int .i64 ne) ∧ wx.cell? ⟨w'.heap.size, 2, none⟩ = some (.int .i64 ak) ∧ wx.cell? ⟨w'.heap.size, 3, none⟩ = some (.int .i64 (ak - ne + 1)) ∧ wx.cell? ⟨w'.heap.size, 4, none⟩ = some (.int .i64 1)) ∧
      (wx.cell? ⟨w'.heap.size + 1, 0, none⟩ = some (.int .i64 nd) ∧ wx.cell? ⟨w'.heap.size + 1, 1, none⟩ = some (.int .i64 ne) ∧ wx.cell? ⟨w'.heap.size + 1, 2, none⟩ = some (.int .i64 ak) ∧ wx.cell? ⟨w'.heap.size + 1, 3, none⟩ = some (.int .i64 (2 * ak)) ∧ wx.cell? ⟨w'.heap.size + 1, 4, none⟩ = some (.int .i64 2)) ∧
      (SBlk wx (w.heap.size + 1) 29 #[.int .i64 0, .int .i64 0, .int .i64 0, .int .i64 0, .int .i64 0] ∧ SBlk wx (w.heap.size + 1 + 1) 29 #[.int .i64 0, .int .i64 0, .int .i64 0, .int .i64 0, .int .i64 0]) ∧ Below w.heap.size w wx) ?_ ?_
    · refine ⟨?_, ?_, ⟨?_, ?_, ?_, ?_, ?_⟩, ⟨?_, ?_, ?_, ?_, ?_⟩, ?_, ?_⟩
      all_goals first | (go_simp; done) | skip
      · constructor
        · refine SBlk.below (B := w'.heap.size) (w := w') ?_ (by go_grown) (by omega)
          refine SBlk.below ?_ hb (by simp)
          exact (SBlk.newAt (by simp) _ _).alloc _
        · refine SBlk.below (B := w'.heap.size) (w := w') ?_ (by go_grown) (by omega)
          refine SBlk.below ?_ hb (by simp)
          exact SBlk.newAt (by simp) _ _
      · have h1 : Below w.heap.size w w' := up hb (by go_grown) (by simp; omega)
        go_grown
    rintro wx ⟨f1, f2, ⟨a0, a1, a2, a3, a4⟩, ⟨c0, c1, c2, c3, c4⟩, ⟨k1, k2⟩, hbel⟩
    have p0 := k1.at_ (i := 0) rfl
    have p1 := k1.at_ (i := 1) rfl
    have p2 := k1.at_ (i := 2) rfl
    have p3 := k1.at_ (i := 3) rfl
    have p4 := k1.at_ (i := 4) rfl
    have q0 := k2.at_ (i := 0) rfl
    have q1 := k2.at_ (i := 1) rfl
    have q2 := k2.at_ (i := 2) rfl
    have q3 := k2.at_ (i := 3) rfl
    have q4 := k2.at_ (i := 4) rfl
    have r0 := k1.frozen 0
    have r1 := k1.frozen 1
    have r2 := k1.frozen 2
    have r3 := k1.frozen 3
    have r4 := k1.frozen 4
    have s0 := k2.frozen 0
    have s1 := k2.frozen 1
    have s2 := k2.frozen 2
    have s3 := k2.frozen 3
    have s4 := k2.frozen 4
    have K1 := hide k1
    have K2 := hide k2
    go_region
    go_wp2
    refine name_post (fun wy => SBlk wy (w.heap.size + 1) 29 #[.int .i64 nd, .int .i64 ne, .int .i64 ak, .int .i64 (ak - ne + 1), .int .i64 1] ∧ SBlk wy (w.heap.size + 1 + 1) 29 #[.int .i64 nd, .int .i64 ne, .int .i64 ak, .int .i64 (2 * ak), .int .i64 2] ∧ Below w.heap.size w wy) ?_ ?_
    · refine ⟨?_, ?_, ?_⟩
      · first | exact (K1.out.five.far5 (by omega)).drew | exact K1.out.five.far5 (by omega)
      · first | exact ((K2.out.far5 (by omega)).five).drew | exact (K2.out.far5 (by omega)).five
      · go_grown
    rintro wy ⟨k1, k2, hbel⟩
    have p0 := k1.at_ (i := 0) rfl
    have p1 := k1.at_ (i := 1) rfl
    have p2 := k1.at_ (i := 2) rfl
    have p3 := k1.at_ (i := 3) rfl
    have p4 := k1.at_ (i := 4) rfl
    have q0 := k2.at_ (i := 0) rfl
    have q1 := k2.at_ (i := 1) rfl
    have q2 := k2.at_ (i := 2) rfl
    have q3 := k2.at_ (i := 3) rfl
    have q4 := k2.at_ (i := 4) rfl
    refine bodyPost_ret (v := .tuple #[.agg #[.int .i64 nd, .int .i64 ne, .int .i64 ak, .int .i64 (ak - ne + 1), .int .i64 1], .int .i64 (ne * (ak - ne + 1)), .agg #[.int .i64 nd, .int .i64 ne, .int .i64 ak, .int .i64 (2 * ak), .int .i64 2], .int .i64 (ne * (2 * ak + 1 - ne))]) (by simp [results, Try.results23, go_sem, p0, p1, p2, p3, p4, q0, q1, q2, q3, q4]) rfl ⟨rfl, hbel⟩

end Go.Proofs.Ytfnbnpjedhcmgaa
