/-
  The draws of schemes from a code. Conditions: the code is a slice of bytes that can be read.
-/
import Derived.Test.YtcalfblghblhcaaSomeS
import Derived.Test.YtcalfblghblhcaaDrawP
namespace Go.Proofs.Ytcalfblghblhcaa
open Go.RowKit

/-- a scheme drawn behind W -/
structure Sdx (W w' : World) (p : Int) (A : Option Addr) (n c : Nat) (O : Option Addr) (m d : Nat) (L : Nat → Nat) (M : Nat → Nat → Int) (f : Nat → Int) : Prop where
  nm : 1 ≤ n ∧ n ≤ m
  smx : Smx w' W.heap.size p A n c O m d L M f
  bel : Below W.heap.size W w'

theorem groupOf_any (g k : Nat) (w : World) (h : Rd w g k) (hk : k ≤ 100000) :
    Calls Try.prog 65 #[.pointer (some ⟨g, 0, none⟩)] w fun e w' => ∃ v : Int, e = .returned (.int .i64 v) ∧ Rd w' g (k + 3) ∧ Only g w w' := by
  go_enter Try.func65, Try.ntmps65
  go_wp2_with fail
  refine (pick_rd g k _ _ h (by omega)).mono ?_
  rintro e w1 ⟨v1, rfl, hv1, hr1, ho1⟩
  clear hv1
  by_cases h0 : v1 = 0
  · subst h0
    go_wp2_with fail
    refine (one_lit g (k + 1) [-1, 32] _ 2 2 w1 _ hr1 rfl rfl (by omega) (by omega) (by omega)).mono ?_
    rintro e w2 ⟨v, hv, rfl, hr, ho⟩
    clear hv
    go_wp2_with fail
    go_ret
    exact ⟨v, rfl, hr.mono (by omega), ho1.trans ho⟩
  · have h1 : (v1 == 0) = false := by simp [h0]
    clear h0
    go_wp2_with fail
    refine (pick_rd g (k + 1) _ _ hr1 (by omega)).mono ?_
    rintro e w2 ⟨v2, rfl, hv2, hr2, ho2⟩
    go_wp2_with fail
    refine (one_lit g (k + 2) [0, 3, 0, 12, 31] _ 5 5 w2 _ hr2 rfl rfl (by omega) (by omega) (by omega)).mono ?_
    rintro e w3 ⟨v3, hv3, rfl, hr3, ho3⟩
    clear hv2 hv3
    go_wp2_with fail
    go_ret
    exact ⟨_, rfl, hr3, (ho1.trans ho2).trans ho3⟩

set_option maxHeartbeats 1000000 in
theorem DrawDoesKnow_any (a : Option Addr) (len cap : Nat) (zs : List Int) (w W : World) (h : IsRow .u8 w a len cap zs) (hb : Below w.heap.size w W) :
    Calls Try.prog 27 #[.slice a len cap] W fun e w' => ∃ p A n c O m d L M f, ∃ v : Int, e = .returned (.tuple #[.agg #[.int .i64 p, .slice A n c, .slice O m d], .int .i64 v]) ∧ Sdx W w' p A n c O m d L M f := by
  have Hh := hide h
  have Hb := hide hb
  clear h hb
  go_enter Try.func27, Try.ntmps27
  go_wp2_with fail
  refine (newReader_of a len cap zs w _ Hh.out (Hb.out.alloc Hb.out.size _)).mono ?_
  rintro e w1 ⟨g, rfl, hg, hr, hb1⟩
  simp only [World.size_alloc] at hg
  have hgl := hr.lt
  have hbl : Blk w1 W.heap.size 29 #[.int .i64 0, .slice none 0 0, .slice none 0 0] := (Blk.new W _ _).below hb1 (by simp)
  have hz1 := hbl.lt
  have HBL := hide hbl
  have HB1 := hide (show Below W.heap.size W w1 from up hb1 (by go_grown) (by simp))
  clear hbl hb1
  go_wp2_with fail
  refine (someScheme_any g _ hr).mono ?_
  rintro e w2 ⟨p, A, n, c, O, m, d, L, M, f, rfl, hnm, hs, hr2, ho2⟩
  have HS := hide hs
  have HNM := hide hnm
  have HO2 := hide ho2
  clear hs hnm ho2
  go_wp2_with fail
  refine (groupOf_any g 100 _ hr2 (by omega)).mono ?_
  rintro e w3 ⟨v, rfl, hr3, ho3⟩
  have hbl2 := (HBL.out).keepG (HO2.out.trans ho3) (by omega)
  have g0 := hbl2.at_ (i := 0) rfl
  have g1 := hbl2.at_ (i := 1) rfl
  have g2 := hbl2.at_ (i := 2) rfl
  have gf0 := hbl2.frozen 0
  have gf1 := hbl2.frozen 1
  have gf2 := hbl2.frozen 2
  have HF := hide (show Sdx W (((w3.setCell ⟨W.heap.size, 0, none⟩ (.int .i64 p)).setCell ⟨W.heap.size, 1, none⟩ (.slice A n c)).setCell ⟨W.heap.size, 2, none⟩ (.slice O m d)) p A n c O m d L M f from
    ⟨HNM.out, ((HS.out.keep (KeepL.only ho3 hgl)).put3 (by omega)).mono (by omega), ((((HO2.out.trans ho3).up HB1.out (by omega) (by omega)).setCell (p := ⟨W.heap.size, 0, none⟩) (Nat.le_refl _) _).setCell (p := ⟨W.heap.size, 1, none⟩) (Nat.le_refl _) _).setCell (p := ⟨W.heap.size, 2, none⟩) (Nat.le_refl _) _⟩)
  clear hr2 hr3 ho3 hbl2
  go_wp2_with fail
  exact bodyPost_ret (v := .tuple #[.agg #[.int .i64 p, .slice A n c, .slice O m d], .int .i64 v]) (by simp [results, Try.results27, go_sem, g0, g1, g2]) rfl ⟨p, A, n, c, O, m, d, L, M, f, v, rfl, HF.out⟩
end Go.Proofs.Ytcalfblghblhcaa
