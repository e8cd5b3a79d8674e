/-
  Slices of the call's own that grow by append: ints (Row) and rows of ints (Tab). No conditions: nothing is claimed of the program here.
-/
import Derived.Test.YtcalfblghblhcaaMem
import Derived.Laws.OwnMore
import Derived.Maps.AppendAt
import Derived.OwnWalk
namespace Go.Proofs.Ytcalfblghblhcaa
open Go.RowKit

theorem nameCalls {P : Program} {f : FuncId} {args : Array Value} {R : Ending → World → Prop} {W : World} (F : World → Prop) (h : F W) (k : ∀ w, F w → Calls P f args w R) : Calls P f args W R := k W h
theorem nameCode {P : Program} {c : Code} {Q : Exit → Act → World → Prop} {a : Act} {W : World} (F : World → Prop) (h : F W) (k : ∀ w, F w → Code.wp P c Q a w) : Code.wp P c Q a W := k W h

/-- a slice of the call's own: n ints xs, in a block from base on; or nil -/
def Row (w : World) (base : Nat) (A : Option Addr) (n c : Nat) (xs : List Int) : Prop :=
  xs.length = n ∧ w.ownsRow base 3 1 (.slice A n c) n (xs.map (Value.int .i64))

section
variable {w w' : World} {base n c : Nat} {A : Option Addr} {xs : List Int}

theorem own_mono {e : TypeId} {v : Value} {vs : List Value} {base' : Nat} (h : w.ownsRow base e 1 v n vs) (hb : base' ≤ base) : w.ownsRow base' e 1 v n vs := by
  refine ⟨h.1, h.2.imp id ?_⟩
  rintro ⟨g, cap, cur, h1, h2, h3⟩
  exact ⟨g, cap, cur, h1, by omega, h3⟩
theorem own_ne {b1 b2 n1 n2 s1 s2 : Nat} {e1 e2 : TypeId} {v1 v2 : Value} {x1 x2 : List Value} (h1 : w.ownsRow b1 e1 s1 v1 n1 x1) (h2 : w.ownsRow b2 e2 s2 v2 n2 x2) (hne : e1 ≠ e2) : v1.ownBlock = none ∨ v1.ownBlock ≠ v2.ownBlock := by
  rcases h1.2 with ⟨rfl, _⟩ | ⟨g, cap, cur, rfl, _, hg, _⟩
  · exact .inl rfl
  · rcases h2.2 with ⟨rfl, _⟩ | ⟨g2, cap2, cur2, rfl, _, hg2, _⟩
    · exact .inr (by simp [Value.ownBlock])
    · refine .inr fun he => ?_
      have : g = g2 := by simpa [Value.ownBlock] using he
      subst this
      rw [hg] at hg2
      injection hg2 with hg2
      injection hg2 with _ ht
      exact hne ht
theorem own_of_block {e : TypeId} {v : Value} {vs : List Value} (h : w.ownsRow base e 1 v n vs) (hk : ∀ k, v.ownBlock = some k → w'.heap[k]? = w.heap[k]?) : w'.ownsRow base e 1 v n vs := by
  refine ⟨h.1, h.2.imp id ?_⟩
  rintro ⟨g, cap, cur, rfl, h2, h3, h4⟩
  exact ⟨g, cap, cur, rfl, h2, (hk g rfl).trans h3, h4⟩
theorem own_below {e : TypeId} {v : Value} {vs : List Value} (h : w.ownsRow base e 1 v n vs) (hb : Below w.heap.size w w') : w'.ownsRow base e 1 v n vs :=
  own_of_block h fun k hk => hb.block k (h.lt k hk).2

theorem Row.nil (w : World) (base : Nat) : Row w base none 0 0 [] := ⟨rfl, World.ownsRow_nil w base _ 1⟩
theorem Row.mono {base' : Nat} (h : Row w base A n c xs) (hb : base' ≤ base) : Row w base' A n c xs := ⟨h.1, own_mono h.2 hb⟩
theorem Row.keep (h : Row w base A n c xs) (hb : Below w.heap.size w w') : Row w' base A n c xs := ⟨h.1, own_below h.2 hb⟩
theorem Row.drew (h : Row w base A n c xs) : Row w.drew base A n c xs := h
theorem Row.drewN (h : Row w base A n c xs) (k : Nat) : Row (w.drewN k) base A n c xs := h
theorem Row.alloc (h : Row w base A n c xs) (o : Obj) : Row (w.alloc o) base A n c xs := ⟨h.1, h.2.alloc o⟩
theorem Row.kept {row : Option Nat} (h : Row w base A n c xs) (hg : w.grownBy w' row) (hne : (Value.slice A n c).ownBlock = none ∨ (Value.slice A n c).ownBlock ≠ row) : Row w' base A n c xs := ⟨h.1, h.2.kept hg hne⟩
theorem Row.form (h : Row w base A n c xs) : (A = none ∧ n = 0 ∧ c = 0) ∨ ∃ g, A = some ⟨g, 0, none⟩ ∧ base ≤ g ∧ g < w.heap.size ∧ n ≤ c := by
  rcases h.2.2 with ⟨h1, h2⟩ | ⟨g, cap, cur, h1, h2, h3, h4, _⟩
  · injection h1 with h1 _ h3
    exact .inl ⟨h1, h2, h3⟩
  · injection h1 with h1 _ h5
    subst h1 h5
    exact .inr ⟨g, rfl, h2, (h.2.lt g rfl).2, h4⟩
theorem Row.lit {cs : Array Value} (hcs : cs = (xs.map (Value.int .i64)).toArray) (hn : xs.length = n) (hb : base ≤ w.heap.size) (hm : n ≤ 1000000 := by omega) : Row (w.alloc (.cells cs 3)) base (some ⟨w.heap.size, 0, none⟩) n n xs := by
  subst hcs
  refine ⟨hn, by simp [hn], .inr ⟨w.heap.size, n, _, rfl, hb, heap_alloc_new w _, Nat.le_refl _, by unfold maxLen; omega, by simp [hn], by rw [List.take_of_length_le (by simp [hn])]⟩⟩
theorem Row.empty (k : Nat) (z : Value) (hb : base ≤ w.heap.size) (hm : k ≤ 1000000 := by omega) : Row (w.alloc (.cells (madeCells #[z] k) 3)) base (some ⟨w.heap.size, 0, none⟩) 0 k [] :=
  ⟨rfl, by simp, .inr ⟨w.heap.size, k, _, rfl, hb, heap_alloc_new w _, Nat.zero_le _, by unfold maxLen; omega, by simp [madeCells], by simp⟩⟩
theorem Row.zeros (k : Nat) (hb : base ≤ w.heap.size) (hm : k ≤ 1000000 := by omega) : Row (w.alloc (.cells (madeCells #[.int .i64 0] k) 3)) base (some ⟨w.heap.size, 0, none⟩) k k (List.replicate k 0) :=
  ⟨by simp, by simp, .inr ⟨w.heap.size, k, _, rfl, hb, heap_alloc_new w _, Nat.le_refl _, by unfold maxLen; omega, by simp [madeCells], by simp [toList_madeCells_one]⟩⟩

theorem Row.at_ (h : Row w base A n c xs) {i : Nat} (hi : i < n) : ∃ b, A = some ⟨b, 0, none⟩ ∧ base ≤ b ∧ b < w.heap.size ∧ w.cell? ⟨b, i, none⟩ = some (.int .i64 (xs.getD i 0)) ∧ w.frozen? ⟨b, i, none⟩ = false ∧
    ∀ v, Row (w.setCell ⟨b, i, none⟩ (.int .i64 v)) base A n c (xs.set i v) := by
  rcases h.form with ⟨_, h0, _⟩ | ⟨g, rfl, h1, h2, h3⟩
  · omega
  · refine ⟨g, rfl, h1, h2, ?_, h.2.frozenAt i, fun v => ⟨by simp [h.1], ?_⟩⟩
    · rw [h.2.cellAt i (by omega)]
      have hl : i < xs.length := by have := h.1; omega
      simp [List.getD, hl]
    · have := (h.2.stored i (.int .i64 v)).1
      rw [List.map_set]
      exact this
theorem Row.ints (h : Row w base A n c xs) : Ints w w.heap.size A n (fun i => xs.getD i 0) := fun h0 => by
  rcases h.form with ⟨_, h0, _⟩ | ⟨g, rfl, h1, h2, h3⟩
  · omega
  · refine ⟨g, 0, rfl, h2, fun i hi => ?_⟩
    obtain ⟨b, e, _, _, hc, _⟩ := h.at_ hi
    injection e with e
    injection e with e
    subst e
    rw [Nat.zero_add]
    exact hc
theorem Row.blk (h : Row w base A n c xs) : ∀ k, (Value.slice A n c).ownBlock = some k → base ≤ k ∧ k < w.heap.size := h.2.lt
theorem Row.grown (h : Row w base A n c xs) (hg : w.grownBy w' (Value.slice A n c).ownBlock) (hb : base ≤ w.heap.size) : Below base w w' :=
  (Below.refl _ _).grown hg hb fun k hk => (h.blk k hk).1
theorem Row.setFar (h : Row w base A n c xs) {p : Addr} (hp : ∀ k, (Value.slice A n c).ownBlock = some k → k ≠ p.block) (u : Value) : Row (w.setCell p u) base A n c xs :=
  ⟨h.1, own_of_block h.2 fun k hk => Below.heap_setCell w p u k (hp k hk)⟩
theorem Row.cap (h : Row w base A n c xs) : n ≤ c := by
  rcases h.form with ⟨_, h0, h1⟩ | ⟨g, _, _, _, h3⟩ <;> omega
end

theorem parts_of {P : Program} {e : TypeId} {z : Value} {bytes : Nat} (h : (P.info? e).map (fun i => (i.zero, i.size, i.bytes)) = some (some z, 1, bytes)) : ∃ i, P.info? e = some i ∧ i.zero = some z ∧ i.size = 1 ∧ i.bytes = bytes := by
  cases hi : P.info? e with
  | none => rw [hi] at h; cases h
  | some i =>
    rw [hi] at h
    simp only [Option.map_some, Option.some.injEq, Prod.mk.injEq] at h
    exact ⟨i, rfl, h.1, h.2.1, h.2.2⟩

theorem run_make0 {P : Program} (t e : TypeId) (z : Value) (bytes : Nat) (ht : P.underlying t = some (.slice e)) (hinfo : (P.info? e).map (fun i => (i.zero, i.size, i.bytes)) = some (some z, 1, bytes)) (hz1 : z.cells = #[z]) (kl kc : IntKind) (c : Nat) (hb : bytes ≤ 24) (hc : c ≤ 1000000) (w : World) :
    (Instr.makeSlice t (.int kl 0) (.int kc (c : Int))).run P w = .ok (.slice (some ⟨w.heap.size, 0, none⟩) 0 c) (w.alloc (.cells (madeCells #[z] c) e)) := by
  obtain ⟨i0, hi, hz, hs1, hs2⟩ := parts_of hinfo
  have hbb : (i0.bytes : Int) * (c : Int) ≤ 281474976710656 := by
    have h : i0.bytes * c ≤ 24 * 1000000 := Nat.mul_le_mul (by omega) hc
    have h2 : ((i0.bytes * c : Nat) : Int) ≤ 281474976710656 := by omega
    rwa [Int.natCast_mul] at h2
  have hr := run_make (P := P) w t e i0 z ht hi hz kl kc 0 c (Int.le_refl _) (by omega) hbb (by omega)
  simp only [Int.toNat_zero, Int.toNat_natCast, hs1, Nat.mul_one, hz1] at hr
  exact hr

section
variable {ops : Array Oper} {rest : List Oper} {o : Oper} {a : Act} {Q : Exit → Act → World → Prop} {w : World} {base n c : Nat} {A : Option Addr}

theorem push_any (T E : TypeId) (z : Value) (bytes : Nat) (ht : Try.prog.underlying T = some (.slice E)) (hinfo : (Try.prog.info? E).map (fun i => (i.zero, i.size, i.bytes)) = some (some z, 1, bytes)) (hzc : z.cells.size = 1) (hby : bytes ≤ 24)
    (hgd : o.guard = none) (s x : Operand) (ho : o.op = .call { callee := .builtin .append, args := #[s, x], argTypes := #[T, T] })
    (vs : List Value) (hs : a.eval s = .slice A n c) (hown : w.ownsRow base E 1 (.slice A n c) n vs) (y : Value) (hy : y.oneCell' = true) (t : TypeId)
    (hx : a.eval x = .slice (some ⟨w.heap.size, 0, none⟩) 1 1) (hn : n ≤ 1000000) (hbase : base ≤ w.heap.size)
    (h : ∀ A' c' w', w'.ownsRow base E 1 (.slice A' (n + 1) c') (n + 1) (vs ++ [y]) → w.grownBy w' (Value.slice A n c).ownBlock → ((Value.slice A' (n + 1) c').ownBlock = (Value.slice A n c).ownBlock ∨ ∃ k, w.heap.size ≤ k ∧ (Value.slice A' (n + 1) c').ownBlock = some k) →
      wpList Try.prog ops Q rest (a.put o.dst (.slice A' (n + 1) c')) w') : wpList Try.prog ops Q (o :: rest) a (w.alloc (.cells #[y] t)) := by
  obtain ⟨i0, hi, hz, hz1, hz2⟩ := parts_of hinfo
  refine wpList_append_own_at (w := w.alloc (.cells #[y] t)) hgd s x T ho base E i0 z 1 bytes ht hi hz hz1 hz2 hzc (by omega) (.slice A n c) n vs hs (hown.alloc _) ⟨w.heap.size, 0, none⟩ 1 1 [y] hx rfl (cell_one_new _ _ _) (fun u hu => by simp at hu; subst hu; exact hy) (by unfold maxLen; omega) (by
    have : (n + 1) * bytes ≤ 1000001 * 24 := Nat.mul_le_mul (by omega) hby
    omega) (by simp; omega) ?_
  intro v' w' hown' hg _ hat
  have hval : ∃ A' c', v' = .slice A' (n + 1) c' := by
    rcases hown'.2 with ⟨_, h0⟩ | ⟨g, cap, cur, h1, _⟩
    · omega
    · exact ⟨_, _, h1⟩
  obtain ⟨A', c', rfl⟩ := hval
  refine h A' c' w' hown' ⟨hg.os, hg.tape, hg.output, Nat.le_trans (by simp) hg.size, fun k hk hne => (hg.block k (by simp; omega) hne).trans (Below.heap_alloc w _ k hk)⟩ ?_
  rcases hat with h1 | h1
  · exact .inl h1
  · exact .inr ⟨_, by simp, h1⟩

theorem push_int (hgd : o.guard = none) (s x : Operand) (ho : o.op = .call { callee := .builtin .append, args := #[s, x], argTypes := #[23, 23] })
    (xs : List Int) (hs : a.eval s = .slice A n c) (hown : Row w base A n c xs) (y : Int) (t : TypeId)
    (hx : a.eval x = .slice (some ⟨w.heap.size, 0, none⟩) 1 1) (hn : n ≤ 1000000) (hbase : base ≤ w.heap.size)
    (h : ∀ A' c' w', Row w' base A' (n + 1) c' (xs ++ [y]) → Below base w w' → w.grownBy w' (Value.slice A n c).ownBlock → ((Value.slice A' (n + 1) c').ownBlock = (Value.slice A n c).ownBlock ∨ ∃ k, w.heap.size ≤ k ∧ (Value.slice A' (n + 1) c').ownBlock = some k) →
      wpList Try.prog ops Q rest (a.put o.dst (.slice A' (n + 1) c')) w') : wpList Try.prog ops Q (o :: rest) a (w.alloc (.cells #[.int .i64 y] t)) :=
  push_any 23 3 (.int .i64 0) 8 Try.underlying23 info_int rfl (by omega) hgd s x ho _ hs hown.2 (.int .i64 y) rfl t hx hn hbase fun A' c' w' h1 h2 h3 =>
    h A' c' w' ⟨by simp [hown.1], by rw [List.map_append]; exact h1⟩ (hown.grown h2 hbase) h2 h3
end

/-- a row of a table: where it lies, its capacity, its numbers -/
structure Sl where
  A : Option Addr
  c : Nat
  xs : List Int
def Sl.val (s : Sl) : Value := .slice s.A s.xs.length s.c

/-- a slice of rows, all of the call's own -/
def Tab (w : World) (base : Nat) (A : Option Addr) (n c : Nat) (R : List Sl) : Prop :=
  R.length = n ∧ w.ownsRow base 23 1 (.slice A n c) n (R.map Sl.val) ∧ ∀ r ∈ R, Row w base r.A r.xs.length r.c r.xs

section
variable {w w' : World} {base n c : Nat} {A : Option Addr} {R : List Sl}
theorem Tab.nil (w : World) (base : Nat) : Tab w base none 0 0 [] := ⟨rfl, World.ownsRow_nil w base _ 1, by simp⟩
theorem Tab.mono {base' : Nat} (h : Tab w base A n c R) (hb : base' ≤ base) : Tab w base' A n c R := ⟨h.1, own_mono h.2.1 hb, fun r hr => (h.2.2 r hr).mono hb⟩
theorem Tab.keep (h : Tab w base A n c R) (hb : Below w.heap.size w w') : Tab w' base A n c R := ⟨h.1, own_below h.2.1 hb, fun r hr => (h.2.2 r hr).keep hb⟩
theorem Tab.drew (h : Tab w base A n c R) : Tab w.drew base A n c R := h
theorem Tab.drewN (h : Tab w base A n c R) (k : Nat) : Tab (w.drewN k) base A n c R := h
theorem Tab.alloc (h : Tab w base A n c R) (o : Obj) : Tab (w.alloc o) base A n c R := ⟨h.1, h.2.1.alloc o, fun r hr => (h.2.2 r hr).alloc o⟩
theorem Tab.empty0 {cs : Array Value} (k : Nat) (hcs : cs.size = k) (hb : base ≤ w.heap.size) (hm : k ≤ 1000000 := by omega) : Tab (w.alloc (.cells cs 23)) base (some ⟨w.heap.size, 0, none⟩) 0 k [] :=
  ⟨rfl, ⟨by simp, .inr ⟨w.heap.size, k, _, rfl, hb, heap_alloc_new w _, Nat.zero_le _, by unfold maxLen; omega, by simp [hcs], by simp⟩⟩, by simp⟩
theorem Tab.form (h : Tab w base A n c R) : (A = none ∧ n = 0 ∧ c = 0) ∨ ∃ g, A = some ⟨g, 0, none⟩ ∧ base ≤ g ∧ g < w.heap.size ∧ n ≤ c := by
  rcases h.2.1.2 with ⟨h1, h2⟩ | ⟨g, cap, cur, h1, h2, h3, h4, _⟩
  · injection h1 with h1 _ h3
    exact .inl ⟨h1, h2, h3⟩
  · injection h1 with h1 _ h5
    subst h1 h5
    exact .inr ⟨g, rfl, h2, (h.2.1.lt g rfl).2, h4⟩
theorem Tab.at_ (h : Tab w base A n c R) {i : Nat} (hi : i < n) : ∃ b r, A = some ⟨b, 0, none⟩ ∧ base ≤ b ∧ b < w.heap.size ∧ R[i]? = some r ∧ w.cell? ⟨b, i, none⟩ = some (.slice r.A r.xs.length r.c) ∧ w.frozen? ⟨b, i, none⟩ = false ∧ Row w base r.A r.xs.length r.c r.xs := by
  have hl : i < R.length := by rw [h.1]; exact hi
  rcases h.form with ⟨_, h0, _⟩ | ⟨g, rfl, h1, h2, h3⟩
  · omega
  · refine ⟨g, R[i], rfl, h1, h2, List.getElem?_eq_getElem hl, ?_, h.2.1.frozenAt i, h.2.2 _ (List.getElem_mem hl)⟩
    rw [h.2.1.cellAt i (by omega)]
    simp [hl, Sl.val]
theorem Tab.mat (h : Tab w base A n c R) : Mat w w.heap.size A n (fun i => (R.getD i ⟨none, 0, []⟩).xs.length) (fun i j => (R.getD i ⟨none, 0, []⟩).xs.getD j 0) := fun h0 => by
  rcases h.form with ⟨_, h0, _⟩ | ⟨g, rfl, h1, h2, h3⟩
  · omega
  · refine ⟨g, 0, rfl, h2, fun i hi => ?_⟩
    obtain ⟨b, r, e, _, _, hr, hc, _, hrow⟩ := h.at_ hi
    injection e with e
    injection e with e
    subst e
    rw [Nat.zero_add]
    refine ⟨r.A, r.c, ?_, ?_⟩
    · rw [hc]; simp [List.getD, hr]
    · have := hrow.ints
      simp only [List.getD, hr, Option.getD_some]
      exact this
theorem Tab.blk (h : Tab w base A n c R) : ∀ k, (Value.slice A n c).ownBlock = some k → base ≤ k ∧ k < w.heap.size := h.2.1.lt
theorem Tab.grown (h : Tab w base A n c R) (hg : w.grownBy w' (Value.slice A n c).ownBlock) (hb : base ≤ w.heap.size) : Below base w w' :=
  (Below.refl _ _).grown hg hb fun k hk => (h.blk k hk).1
theorem Tab.cap (h : Tab w base A n c R) : n ≤ c := by
  rcases h.form with ⟨_, h0, h1⟩ | ⟨g, _, _, _, h3⟩ <;> omega
end

section
variable {ops : Array Oper} {rest : List Oper} {o : Oper} {a : Act} {Q : Exit → Act → World → Prop} {w : World} {base n c : Nat} {A : Option Addr}
theorem push_row (hgd : o.guard = none) (s x : Operand) (ho : o.op = .call { callee := .builtin .append, args := #[s, x], argTypes := #[22, 22] })
    (R : List Sl) (hs : a.eval s = .slice A n c) (hown : Tab w base A n c R) (A1 : Option Addr) (n1 c1 : Nat) (ys : List Int) (hrow : Row w base A1 n1 c1 ys) (t : TypeId)
    (hx : a.eval x = .slice (some ⟨w.heap.size, 0, none⟩) 1 1) (hn : n ≤ 1000000) (hbase : base ≤ w.heap.size)
    (h : ∀ A' c' w', Tab w' base A' (n + 1) c' (R ++ [⟨A1, c1, ys⟩]) → Below base w w' → w.grownBy w' (Value.slice A n c).ownBlock → ((Value.slice A' (n + 1) c').ownBlock = (Value.slice A n c).ownBlock ∨ ∃ k, w.heap.size ≤ k ∧ (Value.slice A' (n + 1) c').ownBlock = some k) →
      wpList Try.prog ops Q rest (a.put o.dst (.slice A' (n + 1) c')) w') : wpList Try.prog ops Q (o :: rest) a (w.alloc (.cells #[.slice A1 n1 c1] t)) :=
  push_any 22 23 (.slice none 0 0) 24 Try.underlying22 info_ints rfl (by omega) hgd s x ho _ hs hown.2.1 (.slice A1 n1 c1) rfl t hx hn hbase fun A' c' w' h1 h2 h3 =>
    h A' c' w' ⟨by simp [hown.1], by rw [List.map_append]; simpa [Sl.val, hrow.1] using h1, fun r hr => by
      have hr0 : Row w base r.A r.xs.length r.c r.xs := by
        rw [List.mem_append, List.mem_singleton] at hr
        rcases hr with hr | rfl
        · exact hown.2.2 r hr
        · have h1 := hrow
          have := h1.1
          subst this
          exact h1
      exact hr0.kept h2 (own_ne hr0.2 hown.2.1 (by decide))⟩ (hown.grown h2 hbase) h2 h3
end
end Go.Proofs.Ytcalfblghblhcaa
