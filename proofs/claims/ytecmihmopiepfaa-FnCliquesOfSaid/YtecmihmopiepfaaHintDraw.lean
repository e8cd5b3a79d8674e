/-
  The draws of hints. Conditions: the reader is one that newReader has made; the code is a slice of bytes that can be read.
-/
import Derived.Test.YtecmihmopiepfaaOwn3
import Derived.Test.YtecmihmopiepfaaBits
namespace Go.Proofs.Ytecmihmopiepfaa
open Go.RowKit

/-- what a draw of hints gives: a few numbers -/
def DrH (w : World) (g k : Nat) (w' : World) (e : Ending) : Prop := ∃ A n c xs, e = .returned (.slice A n c) ∧ Row w' w.heap.size A n c xs ∧ n ≤ 4 ∧ Rd w' g k ∧ Only g w w'

set_option maxHeartbeats 1000000 in
theorem someHints_any (g : Nat) (w : World) (h : Rd w g 0) :
    Calls Try.prog 63 #[.pointer (some ⟨g, 0, none⟩)] w fun e w' => DrH w g 20 w' e := by
  have hg := h.lt
  go_enter Try.func63, Try.ntmps63
  go_wp2_with fail
  rw [show w.heap.size + 1 = (w.alloc (.cells #[] 3)).heap.size by simp]
  refine (one_lit g 0 [3, 4, 2, 4, 1] _ 5 5 (w.alloc (.cells #[] 3)) _ (h.alloc _) rfl rfl (by omega) (by omega) (by omega)).mono ?_
  rintro e w1 ⟨v, hv, rfl, hr1, ho1⟩
  have hn : 1 ≤ v ∧ v ≤ 4 := by simp at hv; omega
  clear hv
  obtain ⟨n, rfl⟩ := Int.eq_ofNat_of_zero_le (show 0 ≤ v by omega)
  have HO1 := hide (show Only g w w1 from ((Only.refl g w).alloc _).trans ho1)
  have HR := hide (show Row w1 w.heap.size (some ⟨w.heap.size, 0, none⟩) 0 0 [] from (Row.lit (cs := #[]) (xs := []) (n := 0) (base := w.heap.size) rfl rfl (Nat.le_refl _)).only ho1 (by omega))
  have hz1 : w.heap.size ≤ w1.heap.size := HO1.out.size
  clear ho1
  go_wp2_with fail
  go_loopw [3, 5] (fun v i wr => ∃ (k : Nat) (A : Option Addr) (c : Nat) (xs : List Int), k ≤ n ∧ i = .int .i64 k ∧ v = .slice A k c ∧ Row wr w.heap.size A k c xs ∧ Rd wr g (1 + k) ∧ Only g w wr) (fun _ i _ => n - (intOf i).toNat)
  case atStart => exact ⟨0, _, _, [], by omega, rfl, rfl, HR.out, hr1, HO1.out⟩
  case round =>
    obtain ⟨k, A, c, xs, hk, rfl, rfl, hrow, hr, ho⟩ := hrel
    have Hrow := hide hrow
    clear hrow
    have hz := ho.size
    have HPn := hide (fun W => powerS_any n W (by omega))
    have p1 := two_pow_pos n
    have p2 := two_pow_le (show n ≤ 4 by omega)
    rw [show (2 : Int) ^ 4 = 16 by decide] at p2
    by_cases hlt : k < n
    · have HPk := hide (fun W => powerS_any k W (by omega))
      generalize (2 : Int) ^ n = pn at *
      generalize (2 : Int) ^ k = pk at *
      go_wp2_with fail
      refine (HPn.out _).mono ?_
      rintro e _ ⟨rfl, rfl⟩
      go_wp2_with fail
      refine (pick_rd g _ _ _ hr (by omega)).mono ?_
      rintro e w2 ⟨v, rfl, hv, hr2, ho2⟩
      have hz2 : wr.heap.size ≤ w2.heap.size := ho2.size
      have Hrow2 := hide (Hrow.out.only ho2 (by omega))
      clear hv
      go_wp2_with fail
      refine (HPn.out _).mono ?_
      rintro e _ ⟨rfl, rfl⟩
      go_wp2_with fail
      refine (HPk.out _).mono ?_
      rintro e _ ⟨rfl, rfl⟩
      go_wp2_with (at_builtin; refine push_int rfl _ _ rfl xs rfl Hrow2.out _ _ rfl (by omega) (by omega) ?_; intro A2 c2 w3 hr3 hb3 hg3 hat3; have HF := hide (show _ ∧ _ ∧ _ from ⟨hr3, Rd.grown hr2 hg3 (fun b hb => by have := (Hrow2.out.blk b hb).1; omega), (ho.trans ho2).of_grown hg3 (fun b hb => (Hrow2.out.blk b hb).1)⟩); clear hr3 hb3 hg3 hat3)
      go_roundw
      case rel => exact ⟨k + 1, _, _, _, by omega, by go_num, rfl, HF.out.1, HF.out.2.1.mono (by omega), HF.out.2.2⟩
      case measure => simp [intOf]; omega
    · obtain rfl : k = n := by omega
      go_wp2_with fail
      refine (pick_rd g _ _ _ hr (by omega)).mono ?_
      rintro e w2 ⟨v, rfl, hv, hr2, ho2⟩
      have Hrow2 := hide (Hrow.out.only ho2 (by omega))
      clear hv
      have hzz : wr.heap.size ≤ w2.heap.size := ho2.size
      have hO2 := hide (ho.trans ho2)
      by_cases v0 : v = 0
      · subst v0
        generalize (2 : Int) ^ k = pn at *
        go_wp2_with fail
        refine (HPn.out _).mono ?_
        rintro e _ ⟨rfl, rfl⟩
        go_wp2_with fail
        refine (one_lit g _ [1, -1, pn] _ 3 3 w2 _ hr2 rfl rfl (by omega) (by omega) (by omega)).mono ?_
        rintro e w3 ⟨x, hx, rfl, hr3, ho3⟩
        clear hx
        obtain ⟨b0, rfl, q1, q2, q3, q4, q5⟩ := (Hrow2.out.only ho3 (by omega)).at_ (i := 0) (by omega)
        have Q := hide q5
        clear q5
        go_wp2_with fail
        go_ret
        exact ⟨_, _, _, _, rfl, Q.out _, by omega, (hr3.set1 (p := ⟨b0, 0, none⟩) (by dsimp only; omega) _).mono (by omega), (hO2.out.trans ho3).setCell (.inr (by dsimp only; omega)) _⟩
      have w0 : (v == 0) = false := by simp [v0]
      by_cases v1 : v = 1
      · subst v1
        go_wp2_with fail
        go_ret
        exact ⟨_, _, _, [], rfl, Row.lit (cs := #[]) (xs := []) (n := 0) (base := w.heap.size) rfl rfl (by omega), by omega, (hr2.alloc _).mono (by omega), hO2.out.alloc _⟩
      have w1' : (v == 1) = false := by simp [v1]
      clear v0 v1
      go_wp2_with fail
      go_ret
      exact ⟨_, _, _, _, rfl, Hrow2.out, by omega, hr2.mono (by omega), hO2.out⟩
theorem DrawLooplessOf_any (a : Option Addr) (len cap : Nat) (zs : List Int) (w W : World) (h : IsRow .u8 w a len cap zs) (hb : Below w.heap.size w W) :
    Calls Try.prog 40 #[.slice a len cap] W fun e w' => ∃ A n c xs, e = .returned (.slice A n c) ∧ Row w' W.heap.size A n c xs ∧ n ≤ 4 ∧ Below W.heap.size W w' := by
  have Hh := hide h
  have Hb := hide hb
  clear h hb
  go_enter Try.func40, Try.ntmps40
  go_wp2_with fail
  refine (newReader_of a len cap zs w _ Hh.out Hb.out).mono ?_
  rintro e w1 ⟨g, rfl, hg, hr, hb1⟩
  go_wp2_with fail
  refine (someHints_any g _ hr).mono ?_
  rintro e w2 ⟨A, n, c, xs, rfl, hrow, hn, hr2, ho2⟩
  have hR := hrow.mono hb1.size
  have hB := ho2.up hb1 hb1.size hg
  have HF := hide (⟨hR, hB⟩ : _ ∧ _)
  clear hrow hr2 ho2 hR hB
  go_wp2_with fail
  go_ret
  exact ⟨_, _, _, _, rfl, HF.out.1, hn, HF.out.2⟩

theorem DrawCliquesOf_any (a : Option Addr) (len cap : Nat) (zs : List Int) (w W : World) (h : IsRow .u8 w a len cap zs) (hb : Below w.heap.size w W) :
    Calls Try.prog 36 #[.slice a len cap] W fun e w' => ∃ A n c xs, e = .returned (.slice A n c) ∧ Row w' W.heap.size A n c xs ∧ n ≤ 4 ∧ Below W.heap.size W w' := by
  have Hh := hide h
  have Hb := hide hb
  clear h hb
  go_enter Try.func36, Try.ntmps36
  go_wp2_with fail
  refine (newReader_of a len cap zs w _ Hh.out Hb.out).mono ?_
  rintro e w1 ⟨g, rfl, hg, hr, hb1⟩
  go_wp2_with fail
  refine (someHints_any g _ hr).mono ?_
  rintro e w2 ⟨A, n, c, xs, rfl, hrow, hn, hr2, ho2⟩
  have hR := hrow.mono hb1.size
  have hB := ho2.up hb1 hb1.size hg
  have HF := hide (⟨hR, hB⟩ : _ ∧ _)
  clear hrow hr2 ho2 hR hB
  go_wp2_with fail
  go_ret
  exact ⟨_, _, _, _, rfl, HF.out.1, hn, HF.out.2⟩

end Go.Proofs.Ytecmihmopiepfaa
