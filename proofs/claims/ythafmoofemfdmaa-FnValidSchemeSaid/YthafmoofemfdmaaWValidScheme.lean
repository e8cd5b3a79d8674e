/-
  FnValidScheme returns true for every code: the walk. Conditions: none.
-/
import Derived.Test.YthafmoofemfdmaaSchDraw
import Derived.Test.YthafmoofemfdmaaScheme
import Derived.Deep.RegionHeld3
import Derived.Test.YthafmoofemfdmaaWExactValidTable
namespace Go.Proofs.Ythafmoofemfdmaa
open Go.RowKit

theorem boxP {w w1 : World} {t : TypeId} {cs : Array Value} (hb : Below (w.alloc (.cells cs t)).heap.size (w.alloc (.cells cs t)) w1) : Below w.heap.size w w1 ∧ Blk w1 w.heap.size t cs :=
  ⟨((Below.refl w.heap.size w).alloc (Nat.le_refl _) (.cells cs t)).trans (hb.mono (by simp)), Blk.below (Blk.new w t cs) hb (by simp)⟩
theorem boxB {w : World} (o : Obj) : Below w.heap.size w (w.alloc o) := (Below.refl w.heap.size w).alloc (Nat.le_refl _) o
theorem vSch_less {p : Int} {n m : Nat} {L : Nat → Nat} {M : Nat → Nat → Int} {f : Nat → Int} (h : vSch p n L M m f = true) (hn : n ≠ 1) : vSch p (n - 1) L M (n - 1) f = true ∧ m = n := by
  obtain ⟨h1, h2, h3⟩ := vSch_true.1 h
  obtain ⟨a1, a2, a3, a4⟩ := vTab_true.1 h1
  have := inR_true.1 a2
  exact ⟨vSch_true.2 ⟨vTab_true.2 ⟨a1, inR_mk (by omega) (by omega), a3, fun i hi => a4 i (by omega)⟩, rfl, noneB_true.2 fun i hi => noneB_true.1 h3 i (by omega)⟩, h2⟩
set_option maxHeartbeats 1000000 in
theorem fnValidScheme_walk (a : Option Addr) (len cap : Nat) (zs : List Int) (w : World) (h : IsRow .u8 w a len cap zs) :
    Calls Try.prog 11 #[.slice a len cap] w fun e w' => e = .returned (.bool true) ∧ Below w.heap.size w w' := by
  have hlen : len ≤ 9223372036854775807 := by obtain ⟨h1, h2, _⟩ := bytes_in h; unfold maxLen at h2; omega
  have Hh := hide h
  clear h
  by_cases hl : 1048576 < len
  · go_enter Try.func11, Try.ntmps11
    go_wp2_with fail
    go_ret
    exact ⟨rfl, by go_grown⟩
  go_enter Try.func11, Try.ntmps11
  go_wp2_with fail
  refine (DrawValidScheme_any a len cap zs w _ Hh.out (by go_grown)).mono ?_
  rintro e w1 ⟨p, A, n, c, O, m, d, L, M, f, rfl, ⟨hn1, hnm⟩, ⟨⟨hp, hn6, hm7, hL⟩, ⟨hnc, hmd⟩, hmat, hint⟩, B1⟩
  have HM := hide (fun (W : World) (hb : Below w1.heap.size w1 W) => hmat.mat.keep hb hb.size)
  have HI := hide (fun (W : World) (hb : Below w1.heap.size w1 W) => hint.ints.keep hb hb.size)
  have HL := hide (fun i (hi : i < n) => Nat.le_trans (hL i hi).2 (show 4 ≤ 1048576 by omega))
  have I := hide (fun W hb => ValidSchemeI_any p A n c L M O m d f W (by omega) HL.out (by omega) (HM.out W hb) (HI.out W hb))
  have S := hide (fun W hb => ValidSchemeS_any p A n c L M O m d f W (by omega) HL.out (by omega) (HM.out W hb) (HI.out W hb))
  have HB1 := hide B1
  have z1 := B1.size
  clear hmat hint hL hp B1
  have bx : ∀ (W : World), Below (w1.alloc (.cells #[.int .i64 p, .slice A n c, .slice O m d] 44)).heap.size (w1.alloc (.cells #[.int .i64 p, .slice A n c, .slice O m d] 44)) W → Below w1.heap.size w1 W ∧ Blk W w1.heap.size 44 #[.int .i64 p, .slice A n c, .slice O m d] := fun W hb => boxP hb
  have BX := hide bx
  clear bx
  cases hv : vSch p n L M m f
  · rw [hv] at I S
    clear hv
    go_wp2_with fail
    refine (I.out _ (boxB _)).mono ?_
    rintro e w2 ⟨rfl, hb2⟩
    obtain ⟨b2, k2⟩ := BX.out _ hb2
    have x0 := k2.at_ (i := 0) rfl
    have x1 := k2.at_ (i := 1) rfl
    have x2 := k2.at_ (i := 2) rfl
    have K2 := hide k2
    have B2 := hide b2
    clear k2 b2 hb2
    go_wp2_with fail
    refine (S.out _ B2.out).mono ?_
    rintro e w3 ⟨rfl, hb3⟩
    clear x0 x1 x2
    have k3 := K2.out.below hb3 K2.out.lt
    have x0 := k3.at_ (i := 0) rfl
    have x1 := k3.at_ (i := 1) rfl
    have x2 := k3.at_ (i := 2) rfl
    have B3 := hide (up hb3 B2.out B2.out.size)
    clear k3 hb3
    go_wp2_with fail
    refine (S.out _ B3.out).mono ?_
    rintro e w4 ⟨rfl, hb4⟩
    go_wp2_with fail
    go_ret
    exact ⟨rfl, up (up hb4 B3.out B3.out.size) HB1.out z1⟩
  by_cases hn : n = 1
  · subst hn
    rw [hv] at I S
    clear hv
    go_wp2_with fail
    refine (I.out _ (boxB _)).mono ?_
    rintro e w2 ⟨rfl, hb2⟩
    obtain ⟨b2, k2⟩ := BX.out _ hb2
    have x0 := k2.at_ (i := 0) rfl
    have x1 := k2.at_ (i := 1) rfl
    have x2 := k2.at_ (i := 2) rfl
    have K2 := hide k2
    have B2 := hide b2
    clear k2 b2 hb2
    go_wp2_with fail
    refine (S.out _ B2.out).mono ?_
    rintro e w3 ⟨rfl, hb3⟩
    clear x0 x1 x2
    have k3 := K2.out.below hb3 K2.out.lt
    have x0 := k3.at_ (i := 0) rfl
    have x1 := k3.at_ (i := 1) rfl
    have x2 := k3.at_ (i := 2) rfl
    have B3 := hide (up hb3 B2.out B2.out.size)
    clear k3 hb3
    have h11 : (((1 : Nat) : Int) == 1) = true := by decide
    go_wp2_with fail
    go_quiet (fail)
    go_wp2_with fail
    go_ret
    exact ⟨rfl, by first | exact up B3.out HB1.out z1 | exact (up B3.out HB1.out z1).drew | exact below_drewN (up B3.out HB1.out z1) _⟩
  obtain ⟨hv2, rfl⟩ := vSch_less hv hn
  obtain ⟨b, off, rfl, hbl, hcc⟩ := HM.out w1 (Below.refl _ _) (by omega)
  obtain ⟨bo, oo, rfl, hbo, hco⟩ := HI.out w1 (Below.refl _ _) (by omega)
  clear hcc hco
  have I2 := hide (fun (W : World) (c d : Nat) (hb : Below w1.heap.size w1 W) => ValidSchemeI_any p (some ⟨b, off, none⟩) (m - 1) c L M (some ⟨bo, oo, none⟩) (m - 1) d f W (by omega) (fun i hi => HL.out i (by omega)) (by omega) (fun _ => by
    obtain ⟨b', off', e1, e2, e3⟩ := HM.out W hb (by omega)
    exact ⟨b', off', e1, e2, fun i hi => e3 i (by omega)⟩) (fun _ => by
    obtain ⟨b', off', e1, e2, e3⟩ := HI.out W hb (by omega)
    exact ⟨b', off', e1, e2, fun i hi => e3 i (by omega)⟩))
  rw [hv] at I S
  rw [hv2] at I2
  have hn1' : ((m : Int) == 1) = false := by simp; omega
  clear hv hv2
  go_wp2_with fail
  refine (I.out _ (boxB _)).mono ?_
  rintro e w2 ⟨rfl, hb2⟩
  obtain ⟨b2, k2⟩ := BX.out _ hb2
  have x0 := k2.at_ (i := 0) rfl
  have x1 := k2.at_ (i := 1) rfl
  have x2 := k2.at_ (i := 2) rfl
  have K2 := hide k2
  have B2 := hide b2
  clear k2 b2 hb2
  go_wp2_with fail
  refine (S.out _ B2.out).mono ?_
  rintro e w3 ⟨rfl, hb3⟩
  clear x0 x1 x2
  have k3 := K2.out.below hb3 K2.out.lt
  have x0 := k3.at_ (i := 0) rfl
  have x1 := k3.at_ (i := 1) rfl
  have x2 := k3.at_ (i := 2) rfl
  have B3 := hide (up hb3 B2.out B2.out.size)
  have l3k := k3.lt
  clear k3 hb3
  obtain ⟨q, hq⟩ : ∃ q, m = q + 1 := ⟨m - 1, by omega⟩
  have hq1 : m - 1 = q := by omega
  rw [hq1] at I2
  have hwr : IntKind.i64.wrap ((m : Int) - 1) = (q : Int) := (IntWalk.i64_in _ (by omega)).trans (by omega)
  have hqc : (q : Int) ≤ (c : Int) := by omega
  have hqd : (q : Int) ≤ (d : Int) := by omega
  have hq0 : (0 : Int) ≤ (q : Int) := by omega
  have HQ := hide hq
  have hm1 : ¬ m = 1 := hn
  have hm1' : ¬ (m : Int) = 1 := by omega
  clear hq hq1
  have l3 := K2.out.lt
  have z3 := B3.out.size
  have l3' : w1.heap.size < w3.heap.size := l3k
  go_wp2_with fail
  go_region_held3 (fun w' => w'.cell? ⟨w1.heap.size, 0, none⟩ = some (.int .i64 p) ∧ w'.cell? ⟨w1.heap.size, 1, none⟩ = some (.slice (some ⟨b, off, none⟩) m c) ∧ w'.cell? ⟨w1.heap.size, 2, none⟩ = some (.slice (some ⟨bo, oo, none⟩) m d)) (first | exact ⟨x0, x1, x2⟩ | exact ⟨y0, y1, y2⟩) (first | (go_at_call 43; refine (I2.out _ _ _ (by first | exact B3.out | exact B3.out.drew | exact below_drewN B3.out _)).mono ?_; rintro e w4 ⟨rfl, hb4⟩; have hb34 : Below w3.heap.size w3 w4 := (by first | exact hb4 | exact up hb4 (Below.refl w3.heap.size w3).drew (Nat.le_refl _)); have y0 := (hb34.cell (p := ⟨w1.heap.size, 0, none⟩) l3').trans x0; have y1 := (hb34.cell (p := ⟨w1.heap.size, 1, none⟩) l3').trans x1; have y2 := (hb34.cell (p := ⟨w1.heap.size, 2, none⟩) l3').trans x2))
  go_wp2_with fail
  go_ret
  exact ⟨rfl, up (up hb34 B3.out B3.out.size) HB1.out z1⟩
end Go.Proofs.Ythafmoofemfdmaa
