/-
  Schemes that are built row by row. No conditions: nothing is claimed of the program here.
-/
import Derived.Test.YtcalfblghblhcaaOwn2
import Derived.Test.YtcalfblghblhcaaStruct
namespace Go.Proofs.Ytcalfblghblhcaa
open Go.RowKit

/-- block S holds a scheme of k rows and k owners, all of the call's own -/
structure Sch (w : World) (base top S : Nat) (p : Int) (k : Nat) (A : Option Addr) (c : Nat) (R : List Sl) (O : Option Addr) (d : Nat) (xs : List Int) : Prop where
  blk : Blk w S 29 #[.int .i64 p, .slice A k c, .slice O k d]
  tab : TabD w base top A k c R
  own : Row w base O k d xs
  sep : ∀ r ∈ R, r.blk = none ∨ r.blk ≠ O.map (·.block)
  under : ∀ q, O.map (·.block) = some q → q < top

theorem own_blk_ne' {w : World} {base size n g : Nat} {e t : TypeId} {v : Value} {xs : List Value} {cs : Array Value} (h : w.ownsRow base e size v n xs) (hg : Blk w g t cs) (hne : e ≠ t) : v.ownBlock ≠ some g := by
  rcases h.2 with ⟨rfl, _⟩ | ⟨g', cap, cur, rfl, _, hh, _⟩
  · simp [Value.ownBlock]
  · intro he
    have : g' = g := by simpa [Value.ownBlock] using he
    subst this
    unfold Blk at hg
    rw [hh] at hg
    injection hg with hg
    injection hg with _ ht
    exact hne ht

section
variable {w w' : World} {base top S k c d : Nat} {p : Int} {A O : Option Addr} {R : List Sl} {xs : List Int}
theorem Sch.keep (h : Sch w base top S p k A c R O d xs) (hb : Below w.heap.size w w') : Sch w' base top S p k A c R O d xs := ⟨h.blk.below hb h.blk.lt, h.tab.keep hb, h.own.keep hb, h.sep, h.under⟩
theorem Sch.mono {top' : Nat} (h : Sch w base top S p k A c R O d xs) (ht : top ≤ top') : Sch w base top' S p k A c R O d xs := ⟨h.blk, h.tab.mono (Nat.le_refl _) ht, h.own, h.sep, fun q hq => Nat.lt_of_lt_of_le (h.under q hq) ht⟩

/-- behind the append of a row -/
theorem Sch.row (h : Sch w base top S p k A c R O d xs) {A1 A2 : Option Addr} {n1 c1 c2 : Nat} {ys : List Int} (ht : Tab w' base A2 (k + 1) c2 (R ++ [⟨A1, c1, ys⟩])) (hb : Below base w w') (hg : w.grownBy w' (Value.slice A k c).ownBlock) :
    Blk (w'.setCell ⟨S, 1, none⟩ (.slice A2 (k + 1) c2)) S 29 #[.int .i64 p, .slice A2 (k + 1) c2, .slice O k d] ∧ Row (w'.setCell ⟨S, 1, none⟩ (.slice A2 (k + 1) c2)) base O k d xs ∧ Blk w' S 29 #[.int .i64 p, .slice A k c, .slice O k d] := by
  have h1 : Blk w' S 29 #[.int .i64 p, .slice A k c, .slice O k d] := h.blk.grown hg (fun e => own_blk_ne' h.tab.tab.2.1 h.blk (by decide) e.symm)
  refine ⟨h1.set_ 1 _, ?_, h1⟩
  have h2 := h.own.kept hg (own_ne h.own.2 h.tab.tab.2.1 (by decide))
  refine h2.setFar (fun q hq e => own_blk_ne' h2.2 h1 (by decide) (by rw [hq]; exact congrArg some e)) _

/-- behind the append of its owner -/
theorem Sch.push (h : Sch w base top S p k A c R O d xs) {A1 A2 O3 : Option Addr} {n1 c1 c2 d3 : Nat} {ys : List Int} {w3 : World} {y : Int} (hrow : Row w top A1 n1 c1 ys) (ht : Tab w' base A2 (k + 1) c2 (R ++ [⟨A1, c1, ys⟩])) (hb : Below base w w') (hg : w.grownBy w' (Value.slice A k c).ownBlock)
    (ho : Row w3 base O3 (k + 1) d3 (xs ++ [y])) (hb3 : Below base (w'.setCell ⟨S, 1, none⟩ (.slice A2 (k + 1) c2)) w3) (hg3 : (w'.setCell ⟨S, 1, none⟩ (.slice A2 (k + 1) c2)).grownBy w3 (Value.slice O k d).ownBlock)
    (hat : (Value.slice O3 (k + 1) d3).ownBlock = (Value.slice O k d).ownBlock ∨ ∃ q, (w'.setCell ⟨S, 1, none⟩ (.slice A2 (k + 1) c2)).heap.size ≤ q ∧ (Value.slice O3 (k + 1) d3).ownBlock = some q) (htop : base ≤ top) (htw : top ≤ w.heap.size) :
    Sch (w3.setCell ⟨S, 2, none⟩ (.slice O3 (k + 1) d3)) base w3.heap.size S p (k + 1) A2 c2 (R ++ [⟨A1, c1, ys⟩]) O3 d3 (xs ++ [y]) := by
  obtain ⟨b1, b2, b3⟩ := h.row (n1 := n1) ht hb hg
  have hlt1 : ∀ q, A1.map (·.block) = some q → top ≤ q ∧ q < w.heap.size := fun q hq => hrow.blk q (by rw [ownBlock_slice]; exact hq)
  have hOlt : ∀ q, O.map (·.block) = some q → q < w.heap.size := fun q hq => (h.own.blk q (by rw [ownBlock_slice]; exact hq)).2
  have hsz : (w'.setCell ⟨S, 1, none⟩ (.slice A2 (k + 1) c2)).heap.size = w'.heap.size := by simp [World.setCell]
  have z1 := hg.size
  have z2 := hg3.size
  rw [hsz] at z2
  -- the table, behind the first store
  have t1 : Tab (w'.setCell ⟨S, 1, none⟩ (.slice A2 (k + 1) c2)) base A2 (k + 1) c2 (R ++ [⟨A1, c1, ys⟩]) := by
    exact ⟨ht.1, own_of_block ht.2.1 fun q hq => Below.heap_setCell w' _ _ q (fun e => own_blk_ne' ht.2.1 b3 (by decide) (by rw [hq]; exact congrArg some e)), fun r hr => (ht.2.2 r hr).setFar (fun q hq e => own_blk_ne' (ht.2.2 r hr).2 b3 (by decide) (by rw [hq]; exact congrArg some e)) _⟩
  have hold : ∀ r ∈ R ++ [⟨A1, c1, ys⟩], ∀ q, r.blk = some q → q < w.heap.size := fun r hr q hq => by
    rw [List.mem_append, List.mem_singleton] at hr
    rcases hr with hr | rfl
    · have := (h.tab.under r hr q hq); omega
    · exact (hlt1 q hq).2
  have sepO : ∀ r ∈ R ++ [⟨A1, c1, ys⟩], r.blk = none ∨ r.blk ≠ O.map (·.block) := fun r hr => by
    rw [List.mem_append, List.mem_singleton] at hr
    rcases hr with hr | rfl
    · exact h.sep r hr
    · cases hA : (Sl.mk A1 c1 ys).blk with
      | none => exact .inl rfl
      | some q =>
        refine .inr fun e => ?_
        have h5 := (hlt1 q hA).1
        have h6 := h.under q e.symm
        omega
  have hblk3 : ∀ q, (Value.slice O k d).ownBlock = some q → base ≤ q := fun q hq => (h.own.blk q hq).1
  -- the table, behind the owner's append
  have t2 : Tab w3 base A2 (k + 1) c2 (R ++ [⟨A1, c1, ys⟩]) := by
    refine ⟨t1.1, t1.2.1.kept hg3 (own_ne t1.2.1 b2.2 (by decide)), fun r hr => (t1.2.2 r hr).kept hg3 ?_⟩
    rw [ownBlock_slice, ownBlock_slice]
    exact sepO r hr
  have hblk : Blk w3 S 29 #[.int .i64 p, .slice A2 (k + 1) c2, .slice O k d] := b1.grown hg3 (fun e => own_blk_ne' b2.2 b1 (by decide) e.symm)
  have t3 : Tab (w3.setCell ⟨S, 2, none⟩ (.slice O3 (k + 1) d3)) base A2 (k + 1) c2 (R ++ [⟨A1, c1, ys⟩]) :=
    ⟨t2.1, own_of_block t2.2.1 fun q hq => Below.heap_setCell w3 _ _ q (fun e => own_blk_ne' t2.2.1 hblk (by decide) (by rw [hq]; exact congrArg some e)), fun r hr => (t2.2.2 r hr).setFar (fun q hq e => own_blk_ne' (t2.2.2 r hr).2 hblk (by decide) (by rw [hq]; exact congrArg some e)) _⟩
  have o3 : Row (w3.setCell ⟨S, 2, none⟩ (.slice O3 (k + 1) d3)) base O3 (k + 1) d3 (xs ++ [y]) := ho.setFar (fun q hq e => own_blk_ne' ho.2 hblk (by decide) (by rw [hq]; exact congrArg some e)) _
  rw [hsz] at hat
  refine ⟨hblk.set_ 2 _, ?_, o3, fun r hr => ?_, fun q hq => (ho.blk q (by rw [ownBlock_slice]; exact hq)).2⟩
  · exact h.tab.push hrow t3 (by omega) (fun q hq => by have := (hlt1 q hq).2; omega)
  · rcases hat with e | ⟨q, hq, e⟩
    · rw [ownBlock_slice, ownBlock_slice] at e
      rw [e]
      exact sepO r hr
    · rw [ownBlock_slice] at e
      rw [e]
      cases hb9 : r.blk with
      | none => exact .inl rfl
      | some q' =>
        refine .inr fun e9 => ?_
        have h8 := hold r hr q' hb9
        injection e9 with e9
        omega

/-- a scheme built is one that the laws can keep in view -/
theorem ST.of_sch (h : Sch w base top S p k A c R O d xs) : ST w base w.heap.size A k (fun i => (R.getD i ⟨none, 0, []⟩).xs.length) (fun i j => (R.getD i ⟨none, 0, []⟩).xs.getD j 0) O k (fun i => xs.getD i 0) := by
  obtain ⟨RR, hR, hRe⟩ : ∃ RR, MTR w base w.heap.size A k (fun i => (R.getD i ⟨none, 0, []⟩).xs.length) (fun i j => (R.getD i ⟨none, 0, []⟩).xs.getD j 0) RR ∧ RR = fun i => (R.getD i ⟨none, 0, []⟩).A := ⟨_, MTR.of_tab h.tab, rfl⟩
  refine ⟨RR, hR, IT.of_row h.own, fun i hi => ?_⟩
  subst hRe
  have hx : i < R.length := by rw [h.tab.tab.1]; exact hi
  simp only [List.getD, List.getElem?_eq_getElem hx, Option.getD_some]
  rcases h.sep _ (List.getElem_mem hx) with h1 | h1
  · refine .inl ?_
    cases hA : R[i].A with
    | none => rfl
    | some a => rw [Sl.blk, hA] at h1; cases h1
  · exact .inr fun e => h1 (by rw [Sl.blk, e])
end
end Go.Proofs.Ytcalfblghblhcaa
