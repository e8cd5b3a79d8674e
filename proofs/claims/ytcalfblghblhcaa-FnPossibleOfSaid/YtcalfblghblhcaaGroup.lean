/-
  The rows of a group, by both, and whether they know. Conditions: the scheme is valid and can be read, the group is a number below 32.
-/
import Derived.Test.YtcalfblghblhcaaSolveX
import Derived.Test.YtcalfblghblhcaaBits
namespace Go.Proofs.Ytcalfblghblhcaa
open Go.RowKit

/-- the rows that a group owns -/
def ownL (f : Nat → Int) (s n : Nat) : List Nat := (List.range n).filter fun i => bt s (f i).toNat
theorem ownL_succ (f : Nat → Int) (s n : Nat) : ownL f s (n + 1) = ownL f s n ++ if bt s (f n).toNat then [n] else [] := by
  rw [ownL, ownL, List.range_succ, List.filter_append]
  congr 1
  cases h : bt s (f n).toNat <;> simp [h]
theorem ownL_lt {f : Nat → Int} {s n j : Nat} (h : j < (ownL f s n).length) : (ownL f s n).getD j 0 < n := by
  have hx : (ownL f s n).getD j 0 ∈ ownL f s n := by
    simp only [List.getD, List.getElem?_eq_getElem h, Option.getD_some]
    exact List.getElem_mem _
  rw [ownL, List.mem_filter, List.mem_range] at hx
  exact hx.1
theorem ownL_len (f : Nat → Int) (s n : Nat) : (ownL f s n).length ≤ n := by
  have := List.length_filter_le (fun i => bt s (f i).toNat) (List.range n)
  simpa [ownL] using this
/-- the rows of a group -/
def gR (M : Nat → Nat → Int) (f : Nat → Int) (s n : Nat) (j : Nat) : Nat → Int := M ((ownL f s n).getD j 0)
/-- 1 at first, and 0 otherwise -/
def unitF (k : Nat) : Int := if k = 0 then 1 else 0
/-- the group knows -/
noncomputable def knB (p : Int) (n m : Nat) (M : Nat → Nat → Int) (f : Nat → Int) (s : Nat) : Bool := (solF p (ownL f s n).length m (gR M f s n) unitF).isSome
theorem kn_zero {p : Int} (hp : isP p = true) {n m : Nat} {M : Nat → Nat → Int} {f : Nat → Int} {s : Nat} (hm : 1 ≤ m) (h : (ownL f s n).length = 0) : knB p n m M f s = false := by
  have : ∀ g, ¬ Good p (ownL f s n).length m (gR M f s n) unitF g := fun g hg => by
    have h2 := hg.2.1 0 (by omega)
    rw [h, lc, unitF, if_pos rfl, Int.zero_sub] at h2
    exact one_not hp h2
  rw [knB, solF_none this]; rfl
theorem sol_kn {p : Int} (hp : isP p = true) {n m : Nat} {M : Nat → Nat → Int} {f : Nat → Int} {s : Nat} {w w' : World} {e : Ending} (h : SolPost p (ownL f s n).length m (gR M f s n) unitF w e w') :
    ∃ A' N c', e = .returned (.tuple #[.slice A' N c', .bool (knB p n m M f s)]) ∧ Below w.heap.size w w' ∧
      (knB p n m M f s = true → N = (ownL f s n).length ∧ ∃ g, solF p (ownL f s n).length m (gR M f s n) unitF = some g ∧ Good p (ownL f s n).length m (gR M f s n) unitF g ∧ Row w' w.heap.size A' (ownL f s n).length c' (listOf (ownL f s n).length g)) := by
  obtain ⟨hb, hx⟩ := h
  rcases hx with ⟨g, A', c', h1, rfl, h3⟩ | ⟨h1, rfl⟩
  · obtain ⟨g0, e0, g1, eg⟩ := solF_good hp h1
    have e1 : knB p n m M f s = true := by rw [knB, e0]; rfl
    exact ⟨A', _, c', by rw [e1], hb, fun _ => ⟨rfl, g0, e0, g1, by rw [← listOf_congr eg]; exact h3⟩⟩
  · have e1 : knB p n m M f s = false := by rw [knB, solF_none h1]; rfl
    exact ⟨none, 0, 0, by rw [e1], hb, fun h => by rw [e1] at h; cases h⟩

/-- rows of the caller's, in a slice of the call's own -/
def OutR (w : World) (base : Nat) (A : Option Addr) (c : Nat) (rv : Nat → Value) (l : List Nat) : Prop := w.ownsRow base 23 1 (.slice A l.length c) l.length (l.map rv)
theorem OutR.mat {w0 w : World} {base b off n m c : Nat} {A : Option Addr} {rv : Nat → Value} {l : List Nat} {M : Nat → Nat → Int} (h : OutR w base A c rv l) (hb : Below w0.heap.size w0 w)
    (hr : ∀ i, i < n → ∃ R C, rv i = .slice R m C ∧ w0.cell? ⟨b, off + i, none⟩ = some (rv i) ∧ Ints w0 w0.heap.size R m (M i)) (hl : ∀ j, j < l.length → l.getD j 0 < n) : Mat w w.heap.size A l.length (fun _ => m) (fun j => M (l.getD j 0)) := fun h0 => by
  rcases h.2 with ⟨_, h1⟩ | ⟨g, cap, cur, h1, h2, h3, h4, h5, h6, h7⟩
  · omega
  · injection h1 with e1 _ e3
    subst e1
    have hlt : g < w.heap.size := by
      rcases Nat.lt_or_ge g w.heap.size with hl | hl
      · exact hl
      · rw [Array.getElem?_eq_none hl] at h3; cases h3
    refine ⟨g, 0, rfl, hlt, fun j hj => ?_⟩
    obtain ⟨R, C, r1, _, r3⟩ := hr (l.getD j 0) (hl j hj)
    have hc := h.cells (g := g) rfl j (rv (l.getD j 0)) (by simp [List.getD, hj])
    rw [add_mk] at hc
    exact ⟨R, C, by rw [hc, r1], r3.keep hb hb.size⟩
theorem OutR.keep {w w' : World} {base c : Nat} {A : Option Addr} {rv : Nat → Value} {l : List Nat} (h : OutR w base A c rv l) (hb : Below w.heap.size w w') : OutR w' base A c rv l := own_below h hb
/-- the rows of a matrix, by name -/
theorem Mat.vals {w : World} {n m : Nat} {A : Option Addr} {M : Nat → Nat → Int} (h : Mat w w.heap.size A n (fun _ => m) M) (hn : 0 < n) : ∃ (b off : Nat) (rv : Nat → Value), A = some ⟨b, off, none⟩ ∧ b < w.heap.size ∧ ∀ i, i < n → ∃ R C, rv i = .slice R m C ∧ w.cell? ⟨b, off + i, none⟩ = some (rv i) ∧ Ints w w.heap.size R m (M i) := by
  obtain ⟨b, off, e, hb, hc⟩ := h hn
  refine ⟨b, off, fun i => (w.cell? ⟨b, off + i, none⟩).getD undef, e, hb, fun i hi => ?_⟩
  obtain ⟨R, C, h1, h2⟩ := hc i hi
  exact ⟨R, C, by simp only [h1, Option.getD_some], by simp only [h1, Option.getD_some], h2⟩

section
variable {ops : Array Oper} {rest : List Oper} {o : Oper} {a : Act} {Q : Exit → Act → World → Prop} {w : World} {base c : Nat} {A : Option Addr} {rv : Nat → Value} {l : List Nat}
theorem push_out (hgd : o.guard = none) (s x : Operand) (ho : o.op = .call { callee := .builtin .append, args := #[s, x], argTypes := #[22, 22] })
    (n : Nat) (hn : l.length = n) (hs : a.eval s = .slice A n c) (hown : OutR w base A c rv l) (i : Nat) {R : Option Addr} {m C : Nat} (hrv : rv i = .slice R m C) (t : TypeId)
    (hx : a.eval x = .slice (some ⟨w.heap.size, 0, none⟩) 1 1) (hn2 : n ≤ 1000000) (hbase : base ≤ w.heap.size)
    (h : ∀ A' c' w', OutR w' base A' c' rv (l ++ [i]) → Below base w w' → w.grownBy w' (Value.slice A n c).ownBlock → wpList Try.prog ops Q rest (a.put o.dst (.slice A' (n + 1) c')) w') : wpList Try.prog ops Q (o :: rest) a (w.alloc (.cells #[.slice R m C] t)) := by
  subst hn
  refine push_any 22 23 (.slice none 0 0) 24 Try.underlying22 info_ints rfl (by omega) hgd s x ho _ hs hown (.slice R m C) rfl t hx hn2 hbase fun A' c' w' h1 h2 _ => ?_
  refine h A' c' w' ?_ ((Below.refl _ _).grown h2 hbase fun k hk => (hown.lt k hk).1) h2
  unfold OutR
  rw [List.length_append, List.map_append, List.length_singleton, List.map_cons, List.map_nil, hrv]
  exact h1
end
end Go.Proofs.Ytcalfblghblhcaa
