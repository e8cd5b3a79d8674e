/-
  An append of one int at a step of a region that draws its order. No conditions: nothing is claimed of the program here.
-/
import Derived.Test.YtcalfblghblhcaaOwn2
import Derived.Deep.AppendLies
import Derived.Deep.RegionLaw
namespace Go.Proofs.Ytcalfblghblhcaa
open Go.RowKit

theorem Row.of_own {w : World} {base g n c : Nat} {xs : List Int} (hn : xs.length = n) (h : w.ownsRow base 3 1 (.slice (some ⟨g, 0, none⟩) n c) n (xs.map (Value.int .i64))) : Row w base (some ⟨g, 0, none⟩) n c xs := ⟨hn, h⟩

theorem step_push_int {ops : Array Oper} {o : Oper} {a : Act} {K : Act → World → Prop} {Q : Exit → Act → World → Prop} {E : Prop} {W : World} {base n c H c1 : Nat} {A : Option Addr} {fr : Nat × Nat} (hgd : o.guard = none) (s x : Operand)
    (ho : o.op = .call { callee := .builtin .append, args := #[s, x], argTypes := #[23, 23] })
    (xs : List Int) (hs : a.eval s = .slice A n c) (hown : Row W base A n c xs) (y : Int) (hx : a.eval x = .slice (some ⟨H, 0, none⟩) 1 c1) (hH : W.heap[H]? = some (.cells #[.int .i64 y] 3 fr)) (hn : n ≤ 1000000) (hbase : base ≤ W.heap.size)
    (h : ∀ g cap w', Row w' base (some ⟨g, 0, none⟩) (n + 1) cap (xs ++ [y]) → Below base W w' → K (a.put o.dst (.slice (some ⟨g, 0, none⟩) (n + 1) cap)) w') :
    if Region.wanted o (yielded ops a.tmps) = true then Oper.wp Try.prog o a W K Q else E := by
  obtain ⟨i0, hi, hz, hz1, hz2⟩ := parts_of info_int
  refine step_append_lies (w := W) hgd s x 23 ho base 3 i0 (.int .i64 0) 1 8 Try.underlying23 hi hz hz1 hz2 rfl (by omega) (.slice A n c) n (xs.map (Value.int .i64)) hs hown.2 ⟨H, 0, none⟩ 1 c1 [.int .i64 y] hx rfl (fun j u hu => World.news_of_block hH j u (by simpa using hu)) (fun u hu => by simp at hu; subst hu; rfl) (by omega) (by unfold maxLen; omega) (by omega) hbase _ rfl ?_
  intro g cap w' h1 h2 _ _
  exact h g cap w' (Row.of_own (by simp [hown.1]) (by rw [List.map_append]; exact h1)) (hown.grown h2 hbase)
end Go.Proofs.Ytcalfblghblhcaa
