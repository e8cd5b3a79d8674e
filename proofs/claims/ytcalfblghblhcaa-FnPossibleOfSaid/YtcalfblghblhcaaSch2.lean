/-
  Schemes that are built row by row, with a step between a row and its owner. No conditions: nothing is claimed of the program here.
-/
import Derived.Test.YtcalfblghblhcaaReader
import Derived.Test.YtcalfblghblhcaaSch
import Derived.Test.YtcalfblghblhcaaOwn5
namespace Go.Proofs.Ytcalfblghblhcaa
open Go.RowKit

/-- an append of one int at a step, with what is said of the blocks -/
theorem step_push_int2 {ops : Array Oper} {o : Oper} {a : Act} {K : Act → World → Prop} {Q : Exit → Act → World → Prop} {E : Prop} {W : World} {base n c H c1 : Nat} {A : Option Addr} {fr : Nat × Nat} (hgd : o.guard = none) (s x : Operand)
    (ho : o.op = .call { callee := .builtin .append, args := #[s, x], argTypes := #[23, 23] })
    (xs : List Int) (hs : a.eval s = .slice A n c) (hown : Row W base A n c xs) (y : Int) (hx : a.eval x = .slice (some ⟨H, 0, none⟩) 1 c1) (hH : W.heap[H]? = some (.cells #[.int .i64 y] 3 fr)) (hn : n ≤ 1000000) (hbase : base ≤ W.heap.size)
    (h : ∀ g cap w', Row w' base (some ⟨g, 0, none⟩) (n + 1) cap (xs ++ [y]) → Below base W w' → W.grownBy w' (Value.slice A n c).ownBlock → ((Value.slice A n c).ownBlock = some g ∨ g = W.heap.size) → K (a.put o.dst (.slice (some ⟨g, 0, none⟩) (n + 1) cap)) w') :
    if Region.wanted o (yielded ops a.tmps) = true then Oper.wp Try.prog o a W K Q else E := by
  obtain ⟨i0, hi, hz, hz1, hz2⟩ := parts_of info_int
  refine step_append_lies (w := W) hgd s x 23 ho base 3 i0 (.int .i64 0) 1 8 Try.underlying23 hi hz hz1 hz2 rfl (by omega) (.slice A n c) n (xs.map (Value.int .i64)) hs hown.2 ⟨H, 0, none⟩ 1 c1 [.int .i64 y] hx rfl (fun j u hu => World.news_of_block hH j u (by simpa using hu)) (fun u hu => by simp at hu; subst hu; rfl) (by omega) (by unfold maxLen; omega) (by omega) hbase _ rfl ?_
  intro g cap w' h1 h2 h3 _
  exact h g cap w' (Row.of_own (by simp [hown.1]) (by rw [List.map_append]; exact h1)) (hown.grown h2 hbase) h2 h3
theorem grown_alloc {w w' : World} {o : Obj} {row : Option Nat} (h : (w.alloc o).grownBy w' row) : w.grownBy w' row :=
  ⟨h.os, h.tape, h.output, Nat.le_trans (by simp) h.size, fun k hk hne => (h.block k (by simp; omega) hne).trans (Below.heap_alloc w _ k hk)⟩

/-- block S holds a scheme of k rows and j owners, all of the call's own -/
structure Sch2 (w : World) (base top S : Nat) (p : Int) (k : Nat) (A : Option Addr) (c : Nat) (R : List Sl) (j : Nat) (O : Option Addr) (d : Nat) (xs : List Int) : Prop where
  blk : Blk w S 29 #[.int .i64 p, .slice A k c, .slice O j d]
  tab : TabD w base top A k c R
  own : Row w base O j d xs
  sep : ∀ r ∈ R, r.blk = none ∨ r.blk ≠ O.map (·.block)
  under : ∀ q, O.map (·.block) = some q → q < top

theorem Row.keepG {w w' : World} {g base n c : Nat} {A : Option Addr} {xs : List Int} (h : Row w base A n c xs) (ho : Only g w w') (hb : g < base) : Row w' base A n c xs :=
  ⟨h.1, own_of_block h.2 fun k hk => ho.block k (h.blk k hk).2 (by have := (h.blk k hk).1; simp; omega)⟩
theorem TabD.keepG {w w' : World} {g base top n c : Nat} {A : Option Addr} {R : List Sl} (h : TabD w base top A n c R) (ho : Only g w w') (hb : g < base) : TabD w' base top A n c R :=
  ⟨⟨h.tab.1, own_of_block h.tab.2.1 fun q hq => ho.block q (h.tab.blk q hq).2 (by have := (h.tab.blk q hq).1; simp; omega), fun r hr => (h.tab.2.2 r hr).keepG ho hb⟩, h.apart, h.under⟩

section
variable {w w' : World} {base top S k c j d : Nat} {p : Int} {A O : Option Addr} {R : List Sl} {xs : List Int}
theorem Sch2.keep (h : Sch2 w base top S p k A c R j O d xs) (hb : Below w.heap.size w w') : Sch2 w' base top S p k A c R j O d xs := ⟨h.blk.below hb h.blk.lt, h.tab.keep hb, h.own.keep hb, h.sep, h.under⟩
theorem Sch2.keepG {g : Nat} (h : Sch2 w base top S p k A c R j O d xs) (ho : Only g w w') (hS : g < S) (hb : g < base) : Sch2 w' base top S p k A c R j O d xs :=
  ⟨(ho.block S h.blk.lt (by simp; omega)).trans h.blk, h.tab.keepG ho hb, h.own.keepG ho hb, h.sep, h.under⟩
theorem Sch2.drew (h : Sch2 w base top S p k A c R j O d xs) : Sch2 w.drew base top S p k A c R j O d xs := ⟨h.blk, h.tab.drew, h.own, h.sep, h.under⟩
theorem Sch.keepG {g : Nat} (h : Sch w base top S p k A c R O d xs) (ho : Only g w w') (hS : g < S) (hb : g < base) : Sch w' base top S p k A c R O d xs :=
  ⟨(ho.block S h.blk.lt (by simp; omega)).trans h.blk, h.tab.keepG ho hb, h.own.keepG ho hb, h.sep, h.under⟩

/-- behind the append of a row, and its store -/
theorem Sch2.of_row (h : Sch w base top S p k A c R O d xs) {A1 A2 : Option Addr} {n1 c1 c2 : Nat} {ys : List Int} (hrow : Row w top A1 n1 c1 ys) (ht : Tab w' base A2 (k + 1) c2 (R ++ [⟨A1, c1, ys⟩])) (hb : Below base w w') (hg : w.grownBy w' (Value.slice A k c).ownBlock) (htw : top ≤ w.heap.size) :
    Sch2 (w'.setCell ⟨S, 1, none⟩ (.slice A2 (k + 1) c2)) base w'.heap.size S p (k + 1) A2 c2 (R ++ [⟨A1, c1, ys⟩]) k O d xs := by
  obtain ⟨b1, b2, b3⟩ := h.row (n1 := n1) ht hb hg
  have hlt1 : ∀ q, A1.map (·.block) = some q → top ≤ q ∧ q < w.heap.size := fun q hq => hrow.blk q (by rw [ownBlock_slice]; exact hq)
  have z1 := hg.size
  have t1 : Tab (w'.setCell ⟨S, 1, none⟩ (.slice A2 (k + 1) c2)) base A2 (k + 1) c2 (R ++ [⟨A1, c1, ys⟩]) := by
    exact ⟨ht.1, own_of_block ht.2.1 fun q hq => Below.heap_setCell w' _ _ q (fun e => own_blk_ne' ht.2.1 b3 (by decide) (by rw [hq]; exact congrArg some e)), fun r hr => (ht.2.2 r hr).setFar (fun q hq e => own_blk_ne' (ht.2.2 r hr).2 b3 (by decide) (by rw [hq]; exact congrArg some e)) _⟩
  refine ⟨b1, h.tab.push hrow t1 (by omega) (fun q hq => by have := (hlt1 q hq).2; omega), b2, fun r hr => ?_, fun q hq => by have := h.under q hq; omega⟩
  rw [List.mem_append, List.mem_singleton] at hr
  rcases hr with hr | rfl
  · exact h.sep r hr
  · cases hA : (Sl.mk A1 c1 ys).blk with
    | none => exact .inl rfl
    | some q =>
      refine .inr fun e => ?_
      have h5 := (hlt1 q hA).1
      have h6 := h.under q e.symm
      omega
/-- behind the append of its owner, and its store -/
theorem Sch2.owner {w3 : World} {O3 : Option Addr} {d3 : Nat} {y : Int} (h : Sch2 w base top S p (k + 1) A c R k O d xs) (ho : Row w3 base O3 (k + 1) d3 (xs ++ [y])) (hg3 : w.grownBy w3 (Value.slice O k d).ownBlock)
    (hat : (Value.slice O3 (k + 1) d3).ownBlock = (Value.slice O k d).ownBlock ∨ ∃ q, w.heap.size ≤ q ∧ (Value.slice O3 (k + 1) d3).ownBlock = some q) (htw : top ≤ w.heap.size) :
    Sch (w3.setCell ⟨S, 2, none⟩ (.slice O3 (k + 1) d3)) base w3.heap.size S p (k + 1) A c R O3 d3 (xs ++ [y]) := by
  have z2 := hg3.size
  have hblk : Blk w3 S 29 #[.int .i64 p, .slice A (k + 1) c, .slice O k d] := h.blk.grown hg3 (fun e => own_blk_ne' h.own.2 h.blk (by decide) e.symm)
  have t2 : Tab w3 base A (k + 1) c R := by
    refine ⟨h.tab.tab.1, h.tab.tab.2.1.kept hg3 (own_ne h.tab.tab.2.1 h.own.2 (by decide)), fun r hr => (h.tab.tab.2.2 r hr).kept hg3 ?_⟩
    rw [ownBlock_slice, ownBlock_slice]
    exact h.sep r hr
  have t3 : Tab (w3.setCell ⟨S, 2, none⟩ (.slice O3 (k + 1) d3)) base A (k + 1) c R :=
    ⟨t2.1, own_of_block t2.2.1 fun q hq => Below.heap_setCell w3 _ _ q (fun e => own_blk_ne' t2.2.1 hblk (by decide) (by rw [hq]; exact congrArg some e)), fun r hr => (t2.2.2 r hr).setFar (fun q hq e => own_blk_ne' (t2.2.2 r hr).2 hblk (by decide) (by rw [hq]; exact congrArg some e)) _⟩
  have o3 : Row (w3.setCell ⟨S, 2, none⟩ (.slice O3 (k + 1) d3)) base O3 (k + 1) d3 (xs ++ [y]) := ho.setFar (fun q hq e => own_blk_ne' ho.2 hblk (by decide) (by rw [hq]; exact congrArg some e)) _
  refine ⟨hblk.set_ 2 _, ⟨t3, h.tab.apart, fun r hr q hq => by have := h.tab.under r hr q hq; omega⟩, o3, fun r hr => ?_, fun q hq => (ho.blk q (by rw [ownBlock_slice]; exact hq)).2⟩
  rcases hat with e | ⟨q, hq, e⟩
  · rw [ownBlock_slice, ownBlock_slice] at e
    rw [e]
    exact h.sep r hr
  · rw [ownBlock_slice] at e
    rw [e]
    cases hb9 : r.blk with
    | none => exact .inl rfl
    | some q' =>
      refine .inr fun e9 => ?_
      have h8 := h.tab.under r hr q' hb9
      injection e9 with e9
      omega
/-- the same, the owner's literal made behind it -/
theorem Sch2.owner_lit {w3 : World} {g2 d3 : Nat} {y : Int} {o : Obj} (h : Sch2 w base top S p (k + 1) A c R k O d xs) (ho : Row w3 base (some ⟨g2, 0, none⟩) (k + 1) d3 (xs ++ [y])) (hg3 : (w.alloc o).grownBy w3 (Value.slice O k d).ownBlock)
    (hat : (Value.slice O k d).ownBlock = some g2 ∨ g2 = (w.alloc o).heap.size) (htw : top ≤ w.heap.size) :
    Sch (w3.setCell ⟨S, 2, none⟩ (.slice (some ⟨g2, 0, none⟩) (k + 1) d3)) base w3.heap.size S p (k + 1) A c R (some ⟨g2, 0, none⟩) d3 (xs ++ [y]) ∧ Blk w3 S 29 #[.int .i64 p, .slice A (k + 1) c, .slice O k d] := by
  have hg := grown_alloc hg3
  refine ⟨h.owner ho hg ?_ htw, h.blk.grown hg (fun e => own_blk_ne' h.own.2 h.blk (by decide) e.symm)⟩
  rcases hat with e | e
  · exact .inl (by rw [e]; rfl)
  · exact .inr ⟨g2, by rw [e]; simp, rfl⟩
end
end Go.Proofs.Ytcalfblghblhcaa
