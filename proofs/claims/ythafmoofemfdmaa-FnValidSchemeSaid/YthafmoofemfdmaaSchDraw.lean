/-
  The draws of schemes from a code. Conditions: the code is a slice of bytes that can be read.
-/
import Derived.Test.YthafmoofemfdmaaSomeS
import Derived.Test.YthafmoofemfdmaaDrawP
namespace Go.Proofs.Ythafmoofemfdmaa
open Go.RowKit

/-- a scheme drawn behind W -/
structure Sdx (W w' : World) (p : Int) (A : Option Addr) (n c : Nat) (O : Option Addr) (m d : Nat) (L : Nat → Nat) (M : Nat → Nat → Int) (f : Nat → Int) : Prop where
  nm : 1 ≤ n ∧ n ≤ m
  smx : Smx w' W.heap.size p A n c O m d L M f
  bel : Below W.heap.size W w'


set_option maxHeartbeats 1000000 in
theorem DrawValidScheme_any (a : Option Addr) (len cap : Nat) (zs : List Int) (w W : World) (h : IsRow .u8 w a len cap zs) (hb : Below w.heap.size w W) :
    Calls Try.prog 45 #[.slice a len cap] W fun e w' => ∃ p A n c O m d L M f, e = .returned (.agg #[.int .i64 p, .slice A n c, .slice O m d]) ∧ Sdx W w' p A n c O m d L M f := by
  have Hh := hide h
  have Hb := hide hb
  clear h hb
  go_enter Try.func45, Try.ntmps45
  go_wp2_with fail
  refine (newReader_of a len cap zs w _ Hh.out (Hb.out.alloc Hb.out.size _)).mono ?_
  rintro e w1 ⟨g, rfl, hg, hr, hb1⟩
  simp only [World.size_alloc] at hg
  have hgl := hr.lt
  have hbl : Blk w1 W.heap.size 44 #[.int .i64 0, .slice none 0 0, .slice none 0 0] := (Blk.new W _ _).below hb1 (by simp)
  have hz1 := hbl.lt
  have HBL := hide hbl
  have HB1 := hide (show Below W.heap.size W w1 from up hb1 (by go_grown) (by simp))
  clear hbl hb1
  go_wp2_with fail
  refine (someScheme_any g _ hr).mono ?_
  rintro e w2 ⟨p, A, n, c, O, m, d, L, M, f, rfl, hnm, hs, hr2, ho2⟩
  have hbl2 := (HBL.out).keepG ho2 (by omega)
  have g0 := hbl2.at_ (i := 0) rfl
  have g1 := hbl2.at_ (i := 1) rfl
  have g2 := hbl2.at_ (i := 2) rfl
  have gf0 := hbl2.frozen 0
  have gf1 := hbl2.frozen 1
  have gf2 := hbl2.frozen 2
  have HF := hide (show Sdx W (((w2.setCell ⟨W.heap.size, 0, none⟩ (.int .i64 p)).setCell ⟨W.heap.size, 1, none⟩ (.slice A n c)).setCell ⟨W.heap.size, 2, none⟩ (.slice O m d)) p A n c O m d L M f from
    ⟨hnm, (hs.put3 (by omega)).mono (by omega), (((ho2.up HB1.out (by omega) (by omega)).setCell (p := ⟨W.heap.size, 0, none⟩) (Nat.le_refl _) _).setCell (p := ⟨W.heap.size, 1, none⟩) (Nat.le_refl _) _).setCell (p := ⟨W.heap.size, 2, none⟩) (Nat.le_refl _) _⟩)
  clear hs hr2 ho2 hbl2 hnm
  go_wp2_with fail
  exact bodyPost_ret (v := .agg #[.int .i64 p, .slice A n c, .slice O m d]) (by simp [results, Try.results45, go_sem, g0, g1, g2]) rfl ⟨p, A, n, c, O, m, d, L, M, f, rfl, HF.out⟩
end Go.Proofs.Ythafmoofemfdmaa
