/-
  Solving rows, the program's: a list less multiples of the rows that are kept. Conditions: as stated.
  Solving rows, the program's: the first number that is not 0, a multiple of a list added, in place. Conditions: the lists can be read, of numbers over a prime.
-/
import Derived.Test.YtcalfblghblhcaaSolveS
import Derived.Deep.RegionHeld3
import Derived.Deep.DeepCutAuto
namespace Go.Proofs.Ytcalfblghblhcaa
open Go.RowKit

theorem quietM {P : Program} {f : FuncId} {args : Array Value} {w : World} {n : Nat} {v : Value}
    (h : Calls P f args (w.drewN n) fun e w' => e = .returned v ∧ w.drewN n = w') :
    Calls P f args (w.drewN n) fun e w'' => e = .returned v ∧ ∃ m, w'' = w.drewN m :=
  h.mono fun _ _ ⟨he, hm⟩ => ⟨he, n, hm.symm⟩

/-- the index of the first number that is not 0, or -1 -/
def ldF (f : Nat → Int) (n : Nat) : Int := match (List.range n).find? (fun i => f i != 0) with | some k => (k : Int) | none => -1
theorem ldF_some {f : Nat → Int} {n k : Nat} (hk : k < n) (h : f k ≠ 0) (hl : ∀ i, i < k → f i = 0) : ldF f n = k := by
  have : (List.range n).find? (fun i => f i != 0) = some k := by
    rw [List.find?_range_eq_some]
    exact ⟨by simp [h], List.mem_range.2 hk, fun j hj => by simp [hl j hj]⟩
  rw [ldF, this]
theorem ldF_none {f : Nat → Int} {n : Nat} (h : ∀ i, i < n → f i = 0) : ldF f n = -1 := by
  have : (List.range n).find? (fun i => f i != 0) = none := by
    rw [List.find?_eq_none]
    intro j hj
    rw [List.mem_range] at hj
    simp [h j hj]
  rw [ldF, this]
theorem lead1_any (x : Int) (w : World) : Calls Try.prog 100 #[.int .i64 x] w fun e w' => e = .returned (.bool (x != 0)) ∧ w = w' := by
  go_enter Try.func100, Try.ntmps100
  go_wp2_with fail
  go_ret
  exact ⟨rfl, rfl⟩
theorem leadIndex_any (A : Option Addr) (n c : Nat) (f : Nat → Int) (w : World) (hn : n ≤ 9223372036854775807) (h : Ints w w.heap.size A n f) :
    Calls Try.prog 96 #[.slice A n c, .func (.func 100) #[] #[]] w fun e w' => e = .returned (.int .i64 (ldF f n)) ∧ w = w' := by
  have H := hide h
  have HC := hide (fun x => lead1_any x w)
  clear h
  go_enter Try.func96, Try.ntmps96
  go_wp2_with fail
  go_loop [8] (fun i => ∃ k : Nat, k ≤ n ∧ i = .int .i64 k ∧ (∀ j, j < k → f j = 0)) (fun i => n - (intOf i).toNat)
  case atStart => exact ⟨0, Nat.zero_le _, rfl, by simp⟩
  case round =>
    obtain ⟨k, hk, rfl, hall⟩ := hrel
    have Hall := hide hall
    clear hall
    by_cases hlt : k < n
    · obtain ⟨b, off, rfl, hbl, hc⟩ := H.out (by omega)
      have hck := hc k hlt
      clear hc
      by_cases h0 : f k = 0
      · have hx : (f k != 0) = false := by simp [h0]
        have H0 := hide h0
        clear h0
        go_wp2_with fail
        refine (HC.out _).mono ?_
        rintro e w' ⟨rfl, rfl⟩
        rw [hx]
        go_wp2_with fail
        go_round
        case rel => exact ⟨k + 1, by omega, by go_num, fun j hj => by
          by_cases e : j = k
          · subst e; exact H0.out
          · exact Hall.out j (by omega)⟩
        case measure => simp [intOf]; omega
      · have hx : (f k != 0) = true := by simp [h0]
        have HF := hide (ldF_some hlt h0 Hall.out)
        clear h0
        go_wp2_with fail
        refine (HC.out _).mono ?_
        rintro e w' ⟨rfl, rfl⟩
        rw [hx]
        go_wp2_with fail
        go_ret
        exact ⟨ret_int HF.out.symm, rfl⟩
    · obtain rfl : k = n := by omega
      have HF := hide (ldF_none Hall.out)
      go_wp2_with fail
      go_ret
      exact ⟨ret_int HF.out.symm, rfl⟩
theorem lead_any (A : Option Addr) (n c : Nat) (f : Nat → Int) (w : World) (hn : n ≤ 9223372036854775807) (h : Ints w w.heap.size A n f) :
    Calls Try.prog 90 #[.slice A n c] w fun e w' => e = .returned (.int .i64 (ldF f n)) ∧ w = w' := by
  have H := hide (leadIndex_any A n c f w hn h)
  clear h
  go_enter Try.func90, Try.ntmps90
  go_wp2_with fail
  refine (H.out).mono ?_
  rintro e w' ⟨rfl, rfl⟩
  go_wp2_with fail
  go_ret
  exact ⟨rfl, rfl⟩

theorem listOf_setAt {m j : Nat} {f : Nat → Int} {v : Int} : (listOf m f).set j v = listOf m (fun i => if i = j then v else f i) := listOf_set m f j v
/-- a multiple of a list added in place, up to index j -/
def addU (p : Int) (x : Nat → Int) (t : Int) (y : Nat → Int) (j i : Nat) : Int := if i < j then addm p x t y i else x i
theorem add_any (p t : Int) (b m c b2 o2 c2 : Nat) (x y : Nat → Int) (w : World) (hp : isP p = true) (ht : -7 ≤ t ∧ t ≤ 7) (hm : m ≤ 1000) (hx : ∀ i, i < m → 0 ≤ x i ∧ x i < p) (hy : ∀ i, i < m → 0 ≤ y i ∧ y i < p) (h : Row w 0 (some ⟨b, 0, none⟩) m c (listOf m x)) (hb : b2 ≠ b)
    (h2 : ∀ i, i < m → w.cell? ⟨b2, o2 + i, none⟩ = some (.int .i64 (y i))) :
    Calls Try.prog 91 #[.int .i64 p, .slice (some ⟨b, 0, none⟩) m c, .int .i64 t, .slice (some ⟨b2, o2, none⟩) m c2] w fun e w' => e = .returned (.tuple #[]) ∧ Row w' 0 (some ⟨b, 0, none⟩) m c (listOf m (addm p x t y)) ∧ OnlyA (some ⟨b, 0, none⟩) w w' ∧ w'.heap.size = w.heap.size := by
  have hpb := isP_pos hp
  have HX := hide hx
  have HY := hide hy
  have HR := hide h
  have H2 := hide h2
  clear hx hy h h2 hp
  go_enter Try.func91, Try.ntmps91
  go_wp2_with fail
  go_loopw [12] (fun i wr => ∃ j : Nat, j ≤ m ∧ i = .int .i64 j ∧ Row wr 0 (some ⟨b, 0, none⟩) m c (listOf m (addU p x t y j)) ∧ OnlyA (some ⟨b, 0, none⟩) w wr ∧ wr.heap.size = w.heap.size ∧ ∀ i, i < m → wr.cell? ⟨b2, o2 + i, none⟩ = some (.int .i64 (y i))) (fun i _ => m - (intOf i).toNat)
  case atStart => exact ⟨0, by omega, rfl, by rw [listOf_congr (g := x) (fun i _ => by simp [addU])]; exact HR.out, OnlyA.refl _ _, rfl, H2.out⟩
  case round =>
    obtain ⟨j, hj, rfl, hrow, ho, hz, hc⟩ := hrel
    have HO := hide ho
    have HC := hide hc
    have HZ := hide hz
    by_cases hlt : j < m
    · obtain ⟨b0, e0, q1, q2, q3, q4, q5⟩ := hrow.at_ (i := j) hlt
      obtain rfl : b = b0 := by simpa using e0
      have hcj := hc j hlt
      rw [listOf_getD _ hlt, addU, if_neg (by omega)] at q3
      have HS := hide (show Row (wr.setCell ⟨b, j, none⟩ (.int .i64 (addm p x t y j))) 0 (some ⟨b, 0, none⟩) m c (listOf m (addU p x t y (j + 1))) from by
        have := q5 (addm p x t y j)
        rw [listOf_set] at this
        rw [show addU p x t y (j + 1) = fun i => if i = j then addm p x t y j else addU p x t y j i from by
          funext i
          unfold addU
          by_cases e : i = j
          · subst e; rw [if_pos (by omega), if_pos rfl]
          · rw [if_neg e]
            by_cases h : i < j
            · rw [if_pos h, if_pos (by omega)]
            · rw [if_neg h, if_neg (by omega)]]
        exact this)
      have HC2 := hide (show ∀ v i, i < m → (wr.setCell ⟨b, j, none⟩ v).cell? ⟨b2, o2 + i, none⟩ = some (.int .i64 (y i)) from fun v i hi => by
        rw [World.cell?_setCell_other _ _ _ _ (fun h => hb (by injection h with h; exact h.symm))]
        exact HC.out i hi)
      have b1 := HX.out j hlt
      have b2' := HY.out j hlt
      have hpr : -49 ≤ t * y j ∧ t * y j ≤ 49 := by
        rcases Int.le_total 0 t with h | h
        · have := mul_bd (a := 7) (b := 7) (show 0 ≤ t ∧ t ≤ 7 by omega) (show 0 ≤ y j ∧ y j ≤ 7 by omega)
          omega
        · have h1 := mul_bd (a := 7) (b := 7) (show 0 ≤ -t ∧ -t ≤ 7 by omega) (show 0 ≤ y j ∧ y j ≤ 7 by omega)
          rw [Int.neg_mul] at h1
          omega
      have HA := hide (show addm p x t y j = (x j + t * y j) % p from rfl)
      have HRS := hide (fun W => rest_any p (x j + t * y j) W (by omega) (by omega))
      clear q5 e0 hrow ho hc
      generalize addm p x t y j = z at *
      generalize x j = x1 at *
      generalize y j = y1 at *
      go_wp2_with fail
      refine (HRS.out _).mono ?_
      rintro e _ ⟨rfl, rfl⟩
      rw [← HA.out]
      go_wp2_with fail
      go_roundw
      case rel => exact ⟨j + 1, by omega, by go_num, HS.out, HO.out.set_ _, by simpa [World.setCell] using HZ.out, HC2.out _⟩
      case measure => simp [intOf]; omega
    · obtain rfl : j = m := by omega
      have HF := hide (show Row wr 0 (some ⟨b, 0, none⟩) j c (listOf j (addm p x t y)) from by
        rw [listOf_congr (g := addU p x t y j) (fun i hi => by rw [addU, if_pos hi])]; exact hrow)
      clear hrow hc
      go_wp2_with fail
      go_end0
      exact ⟨rfl, HF.out, HO.out, HZ.out⟩
end Go.Proofs.Ytcalfblghblhcaa
namespace Go.Proofs.Ytcalfblghblhcaa
open Go.RowKit

theorem nameX {E : Act → World → Prop} {a : Act} {W : World} (F : World → Prop) (h : F W) (k : ∀ w, F w → E a w) : E a W := k W h
/-- the old blocks, but two of them, are as they were -/
structure On2 (bx bf : Nat) (w w' : World) : Prop where
  os : w'.os = w.os
  tape : w'.tape = w.tape
  output : w'.output = w.output
  size : w.heap.size ≤ w'.heap.size
  block : ∀ k, k < w.heap.size → k ≠ bx → k ≠ bf → w'.heap[k]? = w.heap[k]?
section
variable {bx bf : Nat} {a b c : World}
theorem On2.refl (bx bf : Nat) (w : World) : On2 bx bf w w := ⟨rfl, rfl, rfl, Nat.le_refl _, fun _ _ _ _ => rfl⟩
theorem On2.trans (h : On2 bx bf a b) (k : On2 bx bf b c) : On2 bx bf a c :=
  ⟨k.os.trans h.os, k.tape.trans h.tape, k.output.trans h.output, Nat.le_trans h.size k.size, fun i hi h1 h2 => (k.block i (Nat.lt_of_lt_of_le hi h.size) h1 h2).trans (h.block i hi h1 h2)⟩
theorem On2.of_below (h : Below a.heap.size a b) : On2 bx bf a b := ⟨h.os, h.tape, h.output, h.size, fun k hk _ _ => h.block k hk⟩
theorem On2.of_x (h : OnlyA (some ⟨bx, 0, none⟩) a b) : On2 bx bf a b := ⟨h.os, h.tape, h.output, h.size, fun k hk h1 _ => h.block k hk (fun e => h1 (by injection e))⟩
theorem On2.of_f (h : OnlyA (some ⟨bf, 0, none⟩) a b) : On2 bx bf a b := ⟨h.os, h.tape, h.output, h.size, fun k hk _ h2 => h.block k hk (fun e => h2 (by injection e))⟩
theorem On2.drewN (h : On2 bx bf a b) (n : Nat) : On2 bx bf a (b.drewN n) := ⟨h.os, h.tape, h.output, h.size, h.block⟩
theorem On2.below {B : Nat} (h : On2 bx bf a b) (h1 : B ≤ bx) (h2 : B ≤ bf) (h3 : B ≤ a.heap.size) : Below B a b := ⟨h.os, h.tape, h.output, h.size, fun k hk => h.block k (by omega) (by omega) (by omega)⟩
theorem cell_of_block {w w' : World} {k o : Nat} (h : w'.heap[k]? = w.heap[k]?) : w'.cell? ⟨k, o, none⟩ = w.cell? ⟨k, o, none⟩ := by unfold World.cell?; dsimp only; rw [h]
theorem On2.cell (h : On2 bx bf a b) {k : Nat} (o : Nat) (hk : k < a.heap.size) (h1 : k ≠ bx) (h2 : k ≠ bf) : b.cell? ⟨k, o, none⟩ = a.cell? ⟨k, o, none⟩ := cell_of_block (h.block k hk h1 h2)
end
theorem Row.rebase {w : World} {b n c base : Nat} {xs : List Int} (h : Row w 0 (some ⟨b, 0, none⟩) n c xs) (hb : base ≤ b) : Row w base (some ⟨b, 0, none⟩) n c xs := by
  refine ⟨h.1, h.2.1, ?_⟩
  rcases h.2.2 with ⟨e, _⟩ | ⟨g, cap, cur, e, h2, h3⟩
  · injection e with e; cases e
  · have eg : b = g := by injection e with e; injection e with e; injection e
    subst eg
    exact .inr ⟨b, cap, cur, e, hb, h3⟩
theorem Row.far {w w' : World} {b n c base : Nat} {xs : List Int} (h : Row w base (some ⟨b, 0, none⟩) n c xs) (hk : w'.heap[b]? = w.heap[b]?) : Row w' base (some ⟨b, 0, none⟩) n c xs :=
  ⟨h.1, own_of_block h.2 fun k hk2 => by
    have : k = b := by injection hk2 with e; exact e.symm
    subst this; exact hk⟩
theorem Row.cells {w : World} {b n c base : Nat} {f : Nat → Int} (h : Row w base (some ⟨b, 0, none⟩) n c (listOf n f)) : ∀ i, i < n → w.cell? ⟨b, i, none⟩ = some (.int .i64 (f i)) := fun i hi => by
  obtain ⟨b0, e0, _, _, q3, _⟩ := h.at_ hi
  obtain rfl : b = b0 := by simpa using e0
  rwa [listOf_getD _ hi] at q3
theorem Row.bl {w : World} {b n c base : Nat} {xs : List Int} (h : Row w base (some ⟨b, 0, none⟩) n c xs) : base ≤ b ∧ b < w.heap.size := h.blk b rfl

/-- the rows that are kept, as they lie in memory, all below block B -/
def KS (w : World) (B bk bp : Nat) (p : Int) (n m t : Nat) (K F : Nat → Nat → Int) : Prop :=
  ∃ (g cap : Nat) (KR KC FR FC : Nat → Nat), w.cell? ⟨bk, 0, none⟩ = some (.slice (some ⟨g, 0, none⟩) t cap) ∧ w.cell? ⟨bp, 0, none⟩ = some (.int .i64 p) ∧ (bk < B ∧ bp < B ∧ g < B ∧ B ≤ w.heap.size) ∧
    ∀ a, a < t → w.cell? ⟨g, a * 2, none⟩ = some (.slice (some ⟨KR a, 0, none⟩) m (KC a)) ∧ w.cell? ⟨g, a * 2 + 1, none⟩ = some (.slice (some ⟨FR a, 0, none⟩) n (FC a)) ∧ KR a < B ∧ FR a < B ∧
      (∀ i, i < m → w.cell? ⟨KR a, i, none⟩ = some (.int .i64 (K a i))) ∧ (∀ j, j < n → w.cell? ⟨FR a, j, none⟩ = some (.int .i64 (F a j)))
theorem KS.keep {w w' : World} {B bk bp : Nat} {p : Int} {n m t : Nat} {K F : Nat → Nat → Int} (h : KS w B bk bp p n m t K F) (hb : Below B w w') : KS w' B bk bp p n m t K F := by
  obtain ⟨g, cap, KR, KC, FR, FC, h1, h2, h3, h4⟩ := h
  refine ⟨g, cap, KR, KC, FR, FC, (hb.cell (p := ⟨bk, 0, none⟩) h3.1).trans h1, (hb.cell (p := ⟨bp, 0, none⟩) h3.2.1).trans h2, ⟨h3.1, h3.2.1, h3.2.2.1, Nat.le_trans h3.2.2.2 hb.size⟩, fun a ha => ?_⟩
  obtain ⟨a1, a2, a3, a4, a5, a6⟩ := h4 a ha
  exact ⟨(hb.cell (p := ⟨g, a * 2, none⟩) h3.2.2.1).trans a1, (hb.cell (p := ⟨g, a * 2 + 1, none⟩) h3.2.2.1).trans a2, a3, a4, fun i hi => (hb.cell (p := ⟨KR a, i, none⟩) a3).trans (a5 i hi), fun j hj => (hb.cell (p := ⟨FR a, j, none⟩) a4).trans (a6 j hj)⟩
/-- numbers over the prime -/
def Rg (p : Int) (m : Nat) (x : Nat → Int) : Prop := ∀ i, i < m → 0 ≤ x i ∧ x i < p
theorem Rg.addm {p : Int} (hp : isP p = true) {m : Nat} (x : Nat → Int) (t : Int) (y : Nat → Int) : Rg p m (addm p x t y) := fun i _ => addm_bd hp x t y i

set_option maxHeartbeats 4000000 in
theorem less_any (p : Int) (hp : isP p = true) {n m i t : Nat} {R K F : Nat → Nat → Int} {l : Nat → Nat} {P : Nat → Prop} {D x0 : Nat → Int} (hn : n ≤ 6) (hm : 1 ≤ m ∧ m ≤ 7) (ht : t ≤ 6) (hk : Kp p n m R i t K F l) (hkr : ∀ a, a < t → Rg p m (K a) ∧ Rg p n (F a)) (hP : ∀ j, j < n → (j < i ∧ ¬ Spn p m R j (R j)) → P j)
    (x f : Nat → Int) (hl : Ls p n m R t K l P D x0 0 x f) (hxr : Rg p m x) (hfr : Rg p n f) (B bk bp bx cx bf cf : Nat) (w : World) (hks : KS w B bk bp p n m t K F) (hx : Row w B (some ⟨bx, 0, none⟩) m cx (listOf m x)) (hf : Row w B (some ⟨bf, 0, none⟩) n cf (listOf n f)) (hne : bx ≠ bf) :
    Calls Try.prog 89 #[.agg #[.slice (some ⟨bx, 0, none⟩) m cx, .slice (some ⟨bf, 0, none⟩) n cf], .pointer (some ⟨bk, 0, none⟩), .pointer (some ⟨bp, 0, none⟩)] w fun e w' => e = .returned (.tuple #[]) ∧ ∃ x' f', Ls p n m R t K l P D x0 t x' f' ∧ (Rg p m x' ∧ Rg p n f') ∧ Row w' B (some ⟨bx, 0, none⟩) m cx (listOf m x') ∧ Row w' B (some ⟨bf, 0, none⟩) n cf (listOf n f') ∧ On2 bx bf w w' := by
  obtain ⟨g, cap, KR, KC, FR, FC, h1, h2, h3, h4⟩ := hks
  have bx1 := hx.bl
  have bf1 := hf.bl
  have HK := hide hk
  have HKR := hide hkr
  have HPP := hide hP
  have HL := hide hl
  have HXR := hide hxr
  have HFR := hide hfr
  have HX := hide hx
  have HF := hide hf
  have H4 := hide h4
  have HP := hide hp
  have H2 := hide h2
  have hpb := isP_pos hp
  clear hk hkr hP hl hxr hfr hx hf h4 hp h2
  have hbkl : bk < w.heap.size := by omega
  go_enter Try.func89, Try.ntmps89
  go_wp2_with fail
  clear h1
  go_loopw [9] (fun v wr => ∃ (a : Nat) (x f : Nat → Int), a ≤ t ∧ v = .int .i64 a ∧ Ls p n m R t K l P D x0 a x f ∧ (Rg p m x ∧ Rg p n f) ∧ Row wr B (some ⟨bx, 0, none⟩) m cx (listOf m x) ∧ Row wr B (some ⟨bf, 0, none⟩) n cf (listOf n f) ∧ On2 bx bf (w.alloc (.cells #[.slice (some ⟨bx, 0, none⟩) m cx, .slice (some ⟨bf, 0, none⟩) n cf] 99)) wr) (fun v _ => t - (intOf v).toNat)
  case atStart => exact ⟨0, x, f, by omega, rfl, HL.out, ⟨HXR.out, HFR.out⟩, HX.out.alloc _, HF.out.alloc _, On2.refl _ _ _⟩
  case round =>
    clear HL HXR HFR HX HF x f
    obtain ⟨a, x, f, ha, rfl, hl, hr, hx, hf, ho⟩ := hrel
    have HL := hide hl
    have HRG := hide hr
    have HX := hide hx
    have HF := hide hf
    have HO := hide ho
    have hzo := ho.size
    simp only [World.size_alloc] at hzo
    obtain ⟨w4, hw4⟩ : ∃ x, x = wr := ⟨_, rfl⟩
    rw [← hw4] at HX HF HO hzo
    rw [← hw4]
    clear hw4 hl hr hx hf ho
    by_cases hat : a < t
    · have haI : (a : Int) < (t : Int) := by omega
      obtain ⟨a1, a2, a3, a4, a5, a6⟩ := H4.out a hat
      have far : ∀ k o, k < B → w4.cell? ⟨k, o, none⟩ = w.cell? ⟨k, o, none⟩ := fun k o hkB => (HO.out.cell o (by simp; omega) (by omega) (by omega)).trans (World.cell?_alloc_past _ _ _ (by omega))
      have c1 := (far g (a * 2) h3.2.2.1).trans a1
      have c2 := (far g (a * 2 + 1) h3.2.2.1).trans a2
      have hgl : g < w4.heap.size := by omega
      have FAR := hide far
      have A5 := hide a5
      have A6 := hide a6
      clear far a1 a2 a5 a6
      go_wp2_with fail
      refine nameCode (fun wx => (wx.cell? ⟨w.heap.size, 0, none⟩ = some (.slice (some ⟨bx, 0, none⟩) m cx) ∧ wx.cell? ⟨w.heap.size, 1, none⟩ = some (.slice (some ⟨bf, 0, none⟩) n cf)) ∧ (wx.cell? ⟨w4.heap.size, 0, none⟩ = some (.slice (some ⟨KR a, 0, none⟩) m (KC a)) ∧ wx.cell? ⟨w4.heap.size, 1, none⟩ = some (.slice (some ⟨FR a, 0, none⟩) n (FC a))) ∧ Row wx B (some ⟨bx, 0, none⟩) m cx (listOf m x) ∧ Row wx B (some ⟨bf, 0, none⟩) n cf (listOf n f) ∧ (∀ k o, k < B → wx.cell? ⟨k, o, none⟩ = w.cell? ⟨k, o, none⟩) ∧ Below w4.heap.size w4 wx ∧ w4.heap.size + 1 ≤ wx.heap.size) ?_ ?_
      · have hxb : w.heap.size < w4.heap.size := by omega
        refine ⟨⟨?_, ?_⟩, ⟨by simp, by simp⟩, HX.out.alloc _, HF.out.alloc _, fun k o hkB => ?_, (Below.refl _ _).alloc (Nat.le_refl _) _, by simp⟩
        · rw [World.cell?_alloc_past _ _ _ hxb, HO.out.cell 0 (by simp) (by omega) (by omega)]; exact World.cell?_alloc_at _ _ _ _ rfl
        · rw [World.cell?_alloc_past _ _ _ hxb, HO.out.cell 1 (by simp) (by omega) (by omega)]; exact World.cell?_alloc_at _ _ _ _ rfl
        · rw [World.cell?_alloc_past _ _ _ (by omega)]; exact FAR.out k o hkB
      rintro w5 ⟨⟨x1, x2⟩, ⟨k1, k2⟩, hx5, hf5, hfar5, hb5, hz5⟩
      have HX5 := hide hx5
      have HF5 := hide hf5
      have HFAR5 := hide hfar5
      have hO := HK.out.one a hat
      have HLD := hide (fun (q : Nat) => (show Calls Try.prog 90 #[.slice (some ⟨KR a, 0, none⟩) m (KC a)] (w5.drewN q) fun e w' => e = .returned (.int .i64 (l a : Nat)) ∧ w5.drewN q = w' from by
        have := lead_any (some ⟨KR a, 0, none⟩) m (KC a) (K a) (w5.drewN q) (by omega) (fun _ => ⟨KR a, 0, rfl, by show KR a < w5.heap.size; omega, fun i hi => by
          rw [Nat.zero_add]
          exact (HFAR5.out (KR a) i a3).trans (A5.out i hi)⟩)
        rwa [ldF_some hO.1 (by rw [hO.2]; omega) (HK.out.low a hat)] at this))
      have hxl := hx5.cells (l a) hO.1
      have hxlb := HRG.out.1 (l a) hO.1
      have HB5 := hide hb5
      have X1 := hide x1
      have X2 := hide x2
      have K1 := hide k1
      have K2 := hide k2
      have hp5 := (HFAR5.out bp 0 h3.2.1).trans H2.out
      have hla := hO.1
      have hlI : ((l a : Nat) : Int) < (m : Int) := by omega
      have hlI0 : (0 : Int) ≤ ((l a : Nat) : Int) := by omega
      have HST := hide (Ls.step HK.out HPP.out HL.out hat)
      clear hx5 hf5 hfar5 hO hb5 x2 k2
      generalize hby : x (l a) = y at *
      generalize l a = la at *
      go_quiet ((first | (go_at_call 90; exact quietM (HLD.out _))))
      refine nameX (fun wx => (wx.cell? ⟨w.heap.size, 0, none⟩ = some (.slice (some ⟨bx, 0, none⟩) m cx) ∧ wx.cell? ⟨w.heap.size, 1, none⟩ = some (.slice (some ⟨bf, 0, none⟩) n cf)) ∧ (wx.cell? ⟨w4.heap.size, 0, none⟩ = some (.slice (some ⟨KR a, 0, none⟩) m (KC a)) ∧ wx.cell? ⟨w4.heap.size, 1, none⟩ = some (.slice (some ⟨FR a, 0, none⟩) n (FC a))) ∧ Row wx B (some ⟨bx, 0, none⟩) m cx (listOf m x) ∧ Row wx B (some ⟨bf, 0, none⟩) n cf (listOf n f) ∧ (∀ k o, k < B → wx.cell? ⟨k, o, none⟩ = w.cell? ⟨k, o, none⟩) ∧ Below w4.heap.size w4 wx ∧ w4.heap.size + 1 ≤ wx.heap.size) ⟨⟨X1.out, X2.out⟩, ⟨K1.out, K2.out⟩, HX5.out.drewN _, HF5.out.drewN _, HFAR5.out, below_drewN HB5.out _, hz5⟩ ?_
      clear x1 k1 hxl hp5 X1 X2 K1 K2 HX5 HF5 HFAR5 HB5 HLD hz5
      rintro w6 ⟨⟨x1, x2⟩, ⟨k1, k2⟩, hx6, hf6, hfar6, hb6, hz6⟩
      have hp6 := (hfar6 bp 0 h3.2.1).trans H2.out
      have hx6l := hx6.bl.2
      have hf6l := hf6.bl.2
      have HAX := hide (add_any p (-y) bx m cx (KR a) 0 (KC a) x (K a) w6 HP.out (by omega) (by omega) HRG.out.1 (HKR.out a hat).1 (hx6.mono (Nat.zero_le _)) (by omega) (fun i hi => by rw [Nat.zero_add]; exact (hfar6 (KR a) i a3).trans (A5.out i hi)))
      have HF6 := hide hf6
      have HFAR6 := hide hfar6
      have HB6 := hide hb6
      have X1 := hide x1
      have X2 := hide x2
      have K1 := hide k1
      have K2 := hide k2
      have HP6 := hide hp6
      clear hx6 hf6 hfar6 hb6 x2 k2
      go_wp2_with fail
      refine (HAX.out).mono ?_
      rintro e w7 ⟨rfl, hx7, ho7, hz7⟩
      clear x1 k1 hp6
      have o7 : On2 bx bf w6 w7 := On2.of_x ho7
      have x2 := (o7.cell 1 (by omega) (by omega) (by omega)).trans X2.out
      have k2 := (o7.cell 1 (by omega) (by omega) (by omega)).trans K2.out
      have hp7 := (o7.cell 0 (by omega) (by omega) (by omega)).trans HP6.out
      have hf7 : Row w7 B (some ⟨bf, 0, none⟩) n cf (listOf n f) := HF6.out.far (ho7.block bf hf6l (fun e => hne (by injection e with e; exact e.symm)))
      have HAF := hide (add_any p (-y) bf n cf (FR a) 0 (FC a) f (F a) w7 HP.out (by omega) (by omega) HRG.out.2 (HKR.out a hat).2 (hf7.mono (Nat.zero_le _)) (by omega) (fun j hj => by rw [Nat.zero_add]; exact (o7.cell j (by omega) (by omega) (by omega)).trans ((HFAR6.out (FR a) j a4).trans (A6.out j hj))))
      have HX7 := hide hx7
      have HO7 := hide o7
      clear hx7 ho7 o7 hf7 X1 X2 K1 K2 HP6
      go_wp2_with fail
      refine (HAF.out).mono ?_
      rintro e w8 ⟨rfl, hf8, ho8, hz8⟩
      clear x2 k2 hp7
      have hx8 : Row w8 B (some ⟨bx, 0, none⟩) m cx (listOf m (addm p x (-y) (K a))) := (HX7.out.rebase bx1.1).far (ho8.block bx (by omega) (fun e => hne (by injection e)))
      have HX8 := hide hx8
      have HF8 := hide (show Row w8 B (some ⟨bf, 0, none⟩) n cf (listOf n (addm p f (-y) (F a))) from hf8.rebase bf1.1)
      have HO8 := hide (HO.out.trans (((On2.of_below HB6.out).trans HO7.out).trans (On2.of_f ho8)))
      clear hx8 hf8 ho8
      go_wp2_with fail
      go_roundw
      case rel => first | exact ⟨a + 1, _, _, by omega, by go_num, HST.out, ⟨Rg.addm HP.out _ _ _, Rg.addm HP.out _ _ _⟩, HX8.out, HF8.out, HO8.out⟩ | ((repeat apply Exists.intro); exact ⟨⟨a + 1, _, _, by omega, by go_num, HST.out, ⟨Rg.addm HP.out _ _ _, Rg.addm HP.out _ _ _⟩, HX8.out, HF8.out, HO8.out⟩, rfl⟩)
      case measure => simp [intOf]; omega
    · obtain rfl : a = t := by omega
      go_wp2_with fail
      go_end0
      exact ⟨rfl, x, f, HL.out, HRG.out, HX.out, HF.out, (On2.of_below ((Below.refl _ _).alloc (Nat.le_refl _) _)).trans HO.out⟩
end Go.Proofs.Ytcalfblghblhcaa
