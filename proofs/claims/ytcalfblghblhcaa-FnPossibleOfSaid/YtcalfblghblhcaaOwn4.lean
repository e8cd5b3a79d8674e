/-
  More small steps on slices of the call's own: a slice that can be read, appended whole; slices.Clone. Conditions: the source can be read.
-/
import Derived.Test.YtcalfblghblhcaaOwn3
import Derived.Lib.BufferMore
namespace Go.Proofs.Ytcalfblghblhcaa
open Go.RowKit

/-- the numbers of a slice, as a list -/
def listOf (m : Nat) (f : Nat → Int) : List Int := (List.range m).map f
theorem listOf_len (m : Nat) (f : Nat → Int) : (listOf m f).length = m := by simp [listOf]
theorem listOf_get {m j : Nat} (f : Nat → Int) (h : j < m) : (listOf m f)[j]? = some (f j) := by simp [listOf, h]
theorem listOf_getD {m j : Nat} (f : Nat → Int) (h : j < m) : (listOf m f).getD j 0 = f j := by rw [List.getD, listOf_get f h]; rfl

section
variable {ops : Array Oper} {rest : List Oper} {o : Oper} {a : Act} {Q : Exit → Act → World → Prop} {w : World} {base n c : Nat} {A : Option Addr}
/-- a slice of ints that can be read, appended whole -/
theorem push_ints (hgd : o.guard = none) (s x : Operand) (ho : o.op = .call { callee := .builtin .append, args := #[s, x], argTypes := #[23, 23] })
    (xs : List Int) (hs : a.eval s = .slice A n c) (hown : Row w base A n c xs) {B m c2 : Nat} {A2 : Option Addr} (f : Nat → Int) (hsrc : Ints w B A2 m f) (hm : 1 ≤ m)
    (hx : a.eval x = .slice A2 m c2) (hn : n + m ≤ 1000000) (hbase : base ≤ w.heap.size)
    (h : ∀ A' c' w', Row w' base A' (n + m) c' (xs ++ listOf m f) → Below base w w' → w.grownBy w' (Value.slice A n c).ownBlock → wpList Try.prog ops Q rest (a.put o.dst (.slice A' (n + m) c')) w') :
    wpList Try.prog ops Q (o :: rest) a w := by
  obtain ⟨i0, hi, hz, hz1, hz2⟩ := parts_of info_int
  obtain ⟨b, off, rfl, hb, hc⟩ := hsrc (by omega)
  refine wpList_append_own_at (w := w) hgd s x 23 ho base 3 i0 (.int .i64 0) 1 8 Try.underlying23 hi hz hz1 hz2 rfl (by omega) (.slice A n c) n (xs.map (Value.int .i64)) hs hown.2 ⟨b, off, none⟩ m c2 ((listOf m f).map (Value.int .i64)) hx (by simp [listOf_len]) (fun j u hu => ?_) (fun u hu => ?_) (by unfold maxLen; omega) (by omega) hbase ?_
  · have hj : j < m := by
      rcases Nat.lt_or_ge j m with h1 | h1
      · exact h1
      · rw [List.getElem?_eq_none (by simp [listOf_len]; exact h1)] at hu; cases hu
    rw [List.getElem?_map, listOf_get f hj] at hu
    have e : (⟨b, off, none⟩ : Addr).add j = ⟨b, off + j, none⟩ := by unfold Addr.add; split <;> simp_all
    rw [e, hc j hj]
    exact hu
  · obtain ⟨z, _, rfl⟩ := List.mem_map.1 hu
    rfl
  · intro v' w' hown' hg _ _
    have hval : ∃ A' c', v' = .slice A' (n + m) c' := by
      rcases hown'.2 with ⟨_, h0⟩ | ⟨g, cap, cur, h1, _⟩
      · omega
      · exact ⟨_, _, h1⟩
    obtain ⟨A', c', rfl⟩ := hval
    exact h A' c' w' ⟨by simp [hown.1, listOf_len], by rw [List.map_append]; exact hown'⟩ (hown.grown hg hbase) hg
end

/-- slices.Clone of a slice with something in it -/
theorem slClone_any (A : Option Addr) (n c : Nat) (f : Nat → Int) (w : World) (hn : 1 ≤ n ∧ n ≤ 1000000) (h : Ints w w.heap.size A n f) :
    Calls Try.prog 92 #[.slice A n c] w fun e w' => ∃ A' c', e = .returned (.slice A' n c') ∧ Row w' w.heap.size A' n c' (listOf n f) ∧ Below w.heap.size w w' := by
  have H := hide h
  obtain ⟨b, off, rfl, hb, _⟩ := h (by omega)
  clear h
  have HA := hide (show Ints (w.alloc (.cells #[] 3)) w.heap.size (some ⟨b, off, none⟩) n f from H.out.keep ((Below.refl _ _).alloc (Nat.le_refl _) _) (Nat.le_refl _))
  go_enter Try.func92, Try.ntmps92
  have hnil := Lib.run_eql_slice_some_nil (P := Try.prog) w ⟨b, off, none⟩ n c Try.underlying23
  go_wp2_with (at_builtin; refine push_ints rfl _ _ rfl [] rfl (Row.lit (cs := #[]) (xs := []) (n := 0) (base := w.heap.size) rfl rfl (Nat.le_refl _)) f HA.out (by omega) rfl (by omega) (by simp) ?_; intro A2 c2 w2 hr2 hb2 hg2; rw [Nat.zero_add]; have HF := hide (show _ ∧ _ from ⟨hr2, hb2⟩); clear hr2 hb2 hg2)
  go_ret
  exact ⟨_, _, rfl, by have := HF.out.1; rw [Nat.zero_add] at this; exact this, ((Below.refl _ _).alloc (Nat.le_refl _) _).trans HF.out.2⟩

end Go.Proofs.Ytcalfblghblhcaa
