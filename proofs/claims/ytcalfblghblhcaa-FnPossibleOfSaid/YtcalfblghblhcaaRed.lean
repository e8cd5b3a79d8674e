/-
  Reduced rows, the reference's: copies, what stands ahead, reduce. Conditions: the rows can be read, of at most 7 rows and columns of numbers over a prime.
-/
import Derived.Test.YtcalfblghblhcaaSolveRed
import Derived.Test.YtcalfblghblhcaaTabC
import Derived.StillTailTactics
namespace Go.Proofs.Ytcalfblghblhcaa
open Go.RowKit

/-- what a maker of tables gives -/
def CpPost (n m : Nat) (C : Nat → Nat → Int) (w : World) (e : Ending) (w' : World) : Prop :=
  ∃ A' c' R, e = .returned (.slice A' n c') ∧ TabD w' w.heap.size w'.heap.size A' n c' R ∧ TbC R n m C ∧ Below w.heap.size w w'

set_option maxHeartbeats 1000000 in
theorem copyRows_any (A : Option Addr) (n c q : Nat) (M : Nat → Nat → Int) (w : World) (hn : n ≤ 100) (hq : 1 ≤ q ∧ q ≤ 100) (h : Mat w w.heap.size A n (fun _ => q) M) :
    Calls Try.prog 94 #[.slice A n c] w (CpPost n q M w) := by
  have Hh := hide h
  clear h
  go_enter Try.func94, Try.ntmps94
  go_wp2_with fail
  go_loopw [3, 4] (fun v i wr => ∃ (k : Nat) (A' : Option Addr) (c' : Nat) (R : List Sl), k ≤ n ∧ i = .int .i64 k ∧ v = .slice A' k c' ∧ TabD wr w.heap.size wr.heap.size A' k c' R ∧ TbC R k q M ∧ Below w.heap.size w wr) (fun _ i _ => n - (intOf i).toNat)
  case atStart => exact ⟨0, _, _, [], by omega, rfl, rfl, TabD.empty0 0 rfl (Nat.le_refl _), TbC.nil _ _, by go_grown⟩
  case round =>
    obtain ⟨k, A', c', R, hk, rfl, rfl, ht, hcp, hb⟩ := hrel
    have HT := hide ht
    have HC := hide hcp
    have hz := hb.size
    clear ht hcp
    by_cases hlt : k < n
    · obtain ⟨b, off, rfl, hbl, hc⟩ := Hh.out (by omega)
      obtain ⟨R1, C1, e1, e2⟩ := hc k hlt
      have hck := (hb.cell (p := ⟨b, off + k, none⟩) hbl).trans e1
      have hbl2 : b < wr.heap.size := by omega
      have HI := hide (show Ints (wr.alloc (.cells #[] 3)) w.heap.size R1 q (M k) from e2.keep (hb.alloc (by omega) _) (Nat.le_refl _))
      have HP := hide (fun (A : Option Addr) (c : Nat) => HC.out.push (A := A) (c := c) (xs := listOf q (M k)) (by simp [listOf_len]) (fun j hj => listOf_getD _ hj))
      clear hc e1 e2
      go_wp2_with (first | (at_builtin; (refine push_ints rfl _ _ rfl [] rfl (Row.lit (cs := #[]) (xs := []) (n := 0) (base := wr.heap.size) rfl rfl (Nat.le_refl _)) (M k) HI.out (by omega) rfl (by omega) (by simp) ?_; intro A5 c5 w5 hr5 hb5 hg5; rw [Nat.zero_add] at hr5; rw [List.nil_append] at hr5; rw [Nat.zero_add]; have hz5 : wr.heap.size + 1 ≤ w5.heap.size := (by have := hg5.size; simpa using this); have HF := hide (show Row w5 wr.heap.size A5 q c5 (listOf q (M k)) ∧ Below wr.heap.size wr w5 from ⟨hr5, ((Below.refl _ _).alloc (Nat.le_refl _) _).trans hb5⟩); clear hr5 hb5 hg5)) | (at_builtin; (refine push_row rfl _ _ rfl R rfl (HT.out.keep HF.out.2).tab A5 q c5 (listOf q (M k)) (HF.out.1.mono hz) _ rfl (by omega) (by omega) ?_; intro A6 c6 w6 ht6 hb6 hg6 hat6; have hz6 := hb6.size; have HX := hide (show _ ∧ _ from ⟨(HT.out.keep HF.out.2).push (top' := w6.heap.size) HF.out.1 ht6 (by omega) (fun q hq => by have := (HF.out.1.blk q (by rw [ownBlock_slice]; exact hq)).2; omega), (hb.trans (HF.out.2.mono hz)).trans (hb6.mono (by omega))⟩); clear ht6 hb6 hg6 hat6)))
      go_roundw
      case rel => first | exact ⟨k + 1, _, _, _, by omega, by go_num, rfl, HX.out.1, HP.out A5 c5, HX.out.2⟩ | ((repeat apply Exists.intro); exact ⟨⟨k + 1, _, _, _, by omega, by go_num, rfl, HX.out.1, HP.out A5 c5, HX.out.2⟩, rfl⟩)
      case measure => simp [intOf]; omega
    · obtain rfl : k = n := by omega
      go_wp2_with fail
      go_ret
      exact ⟨_, _, _, rfl, HT.out, HC.out, hb⟩

/-- the first k numbers are 0 -/
def ahd (f : Nat → Int) (k : Nat) : Bool := decide (∀ i, i < k → f i = 0)
theorem ahd_true {f : Nat → Int} {k : Nat} : ahd f k = true ↔ ∀ i, i < k → f i = 0 := by simp [ahd]
theorem ahead_any (A : Option Addr) (n c k : Nat) (f : Nat → Int) (w : World) (hn : n ≤ 1000) (hk : k ≤ n) (h : Ints w w.heap.size A n f) :
    Calls Try.prog 74 #[.slice A n c, .int .i64 k] w fun e w' => e = .returned (.bool (ahd f k)) ∧ w = w' := by
  have H := hide h
  clear h
  go_enter Try.func74, Try.ntmps74
  go_wp2_with fail
  go_loop [5] (fun i => ∃ j : Nat, j ≤ k ∧ i = .int .i64 j ∧ ∀ t, t < j → f t = 0) (fun i => k - (intOf i).toNat)
  case atStart => exact ⟨0, by omega, rfl, by simp⟩
  case round =>
    obtain ⟨j, hj, rfl, hall⟩ := hrel
    have Hall := hide hall
    clear hall
    by_cases hlt : j < k
    · obtain ⟨b, off, rfl, hb, hc⟩ := H.out (by omega)
      have hcj := hc j (by omega)
      have hI : (j : Int) < (n : Int) := by omega
      clear hc
      by_cases h0 : f j = 0
      · have H0 := hide h0
        have hne : (f j != 0) = false := by simp [h0]
        clear h0
        go_wp2_with fail
        go_round
        case rel => exact ⟨j + 1, by omega, by go_num, fun t ht => by
          by_cases e : t = j
          · subst e; exact H0.out
          · exact Hall.out t (by omega)⟩
        case measure => simp [intOf]; omega
      · have HX := hide (show ahd f k = false by
          rw [← Bool.not_eq_true, ahd_true]
          exact fun hh => h0 (hh j hlt))
        have hne : (f j != 0) = true := by simp [h0]
        clear h0
        go_wp2_with fail
        go_ret
        exact ⟨ret_bool HX.out.symm, rfl⟩
    · obtain rfl : j = k := by omega
      have HX := hide (ahd_true.2 Hall.out)
      go_wp2_with fail
      go_ret
      exact ⟨ret_bool HX.out.symm, rfl⟩

theorem Mat.cut {w : World} {B n t : Nat} {A : Option Addr} {L : Nat → Nat} {M : Nat → Nat → Int} (h : Mat w B A n L M) (ht : t ≤ n) : Mat w B A t L M := fun h0 => by
  obtain ⟨b, off, e, hb, hc⟩ := h (by omega)
  exact ⟨b, off, e, hb, fun i hi => hc i (by omega)⟩
/-- row t goes to the place q, and a row of noughts to the place t -/
theorem TabD.swap {w : World} {base top bA n c q t N : Nat} {R : List Sl} {rt : Sl} (h : TabD w base top (some ⟨bA, 0, none⟩) n c R) (hq : q < n) (ht : t < n) (hrt : R[t]? = some rt) (htop : top ≤ w.heap.size) (hb : base ≤ w.heap.size) (hN : N ≤ 1000000) :
    TabD (((w.setCell ⟨bA, q, none⟩ rt.val).setCell ⟨bA, t, none⟩ (.slice (some ⟨w.heap.size, 0, none⟩) N N)).alloc (.cells (madeCells #[.int .i64 0] N) 3)) base (w.heap.size + 1) (some ⟨bA, 0, none⟩) n c ((R.set q rt).set t ⟨some ⟨w.heap.size, 0, none⟩, N, List.replicate N 0⟩) := by
  have hl : R.length = n := h.tab.1
  obtain ⟨b1, e1, _, hbl, _, _, t1⟩ := h.tab.setRow hq rt (h.tab.2.2 rt (List.mem_of_getElem? hrt))
  obtain rfl : bA = b1 := by simpa using e1
  have hz : (w.setCell ⟨bA, q, none⟩ rt.val).heap.size = w.heap.size := by simp [World.setCell]
  have hrow := Row.zeros (w := w.setCell ⟨bA, q, none⟩ rt.val) (base := base) N (by rw [hz]; exact hb) hN
  rw [hz] at hrow
  have hrow2 : Row ((w.setCell ⟨bA, q, none⟩ rt.val).alloc (.cells (madeCells #[.int .i64 0] N) 3)) base (Sl.mk (some ⟨w.heap.size, 0, none⟩) N (List.replicate N 0)).A (Sl.mk (some ⟨w.heap.size, 0, none⟩) N (List.replicate N 0)).xs.length (Sl.mk (some ⟨w.heap.size, 0, none⟩) N (List.replicate N 0)).c (Sl.mk (some ⟨w.heap.size, 0, none⟩) N (List.replicate N 0)).xs := by
    simpa using hrow
  obtain ⟨b2, e2, _, _, _, _, t2⟩ := (t1.alloc (.cells (madeCells #[.int .i64 0] N) 3)).setRow ht _ hrow2
  obtain rfl : bA = b2 := by simpa using e2
  have key : ∀ (i : Nat) (r : Sl), ((R.set q rt).set t ⟨some ⟨w.heap.size, 0, none⟩, N, List.replicate N 0⟩)[i]? = some r → (i = t ∧ r.blk = some w.heap.size) ∨ (i ≠ t ∧ ((i = q ∧ r = rt) ∨ (i ≠ q ∧ R[i]? = some r))) := fun i r hr => by
    rw [List.getElem?_set] at hr
    by_cases e : t = i
    · subst e
      rw [if_pos rfl] at hr
      split at hr
      · injection hr with hr
        subst hr
        exact .inl ⟨rfl, rfl⟩
      · cases hr
    · rw [if_neg e, List.getElem?_set] at hr
      by_cases e3 : q = i
      · subst e3
        rw [if_pos rfl] at hr
        split at hr
        · injection hr with hr
          exact .inr ⟨fun h => e h.symm, .inl ⟨rfl, hr.symm⟩⟩
        · cases hr
      · rw [if_neg e3] at hr
        exact .inr ⟨fun h => e h.symm, .inr ⟨fun h => e3 h.symm, hr⟩⟩
  have low : ∀ (i : Nat) (r : Sl), (i ≠ t ∧ ((i = q ∧ r = rt) ∨ (i ≠ q ∧ R[i]? = some r))) → ∀ k, r.blk = some k → k < w.heap.size := fun i r hr k hk => by
    rcases hr.2 with ⟨_, rfl⟩ | ⟨_, h2⟩
    · exact Nat.lt_of_lt_of_le (h.under _ (List.mem_of_getElem? hrt) k hk) htop
    · exact Nat.lt_of_lt_of_le (h.under _ (List.mem_of_getElem? h2) k hk) htop
  have t3 : Tab ((w.setCell ⟨bA, q, none⟩ rt.val).alloc (.cells (madeCells #[.int .i64 0] N) 3) |>.setCell ⟨bA, t, none⟩ (.slice (some ⟨w.heap.size, 0, none⟩) N N)) base (some ⟨bA, 0, none⟩) n c ((R.set q rt).set t ⟨some ⟨w.heap.size, 0, none⟩, N, List.replicate N 0⟩) := by simpa [Sl.val] using t2
  rw [World.setCell_alloc_past _ _ _ _ (by simp [World.setCell]; exact hbl)] at t3
  refine ⟨t3, fun i j r s hi hj hne => ?_, fun r hr k hk => ?_⟩
  · have ki := key i r hi
    have kj := key j s hj
    rcases ki with ⟨rfl, bi⟩ | hi2
    · rcases kj with ⟨rfl, bj⟩ | hj2
      · exact absurd rfl hne
      · refine .inr fun e => ?_
        rw [bi] at e
        have := low j s hj2 _ e.symm
        omega
    · rcases kj with ⟨rfl, bj⟩ | hj2
      · cases hb : r.blk with
        | none => exact .inl rfl
        | some k =>
          refine .inr fun e => ?_
          rw [bj] at e
          have := low i r hi2 k hb
          injection e with e
          omega
      · rcases hi2.2 with ⟨e1, rfl⟩ | ⟨e1, h1⟩
        · rcases hj2.2 with ⟨e2, rfl⟩ | ⟨e2, h2⟩
          · omega
          · exact h.apart t j r s hrt h2 (fun e => hj2.1 e.symm)
        · rcases hj2.2 with ⟨e2, rfl⟩ | ⟨e2, h2⟩
          · exact h.apart i t r s h1 hrt hi2.1
          · exact h.apart i j r s h1 h2 hne
  · obtain ⟨i, hi⟩ := List.mem_iff_getElem?.1 hr
    rcases key i r hi with ⟨_, b⟩ | h2
    · rw [b] at hk; injection hk with hk; omega
    · have := low i r h2 k hk; omega
theorem TbC.swap {R : List Sl} {n N q t : Nat} {X : Nat → Nat → Int} {rt : Sl} {A : Option Addr} (h : TbC R n N X) (hrt : R[t]? = some rt) : TbC ((R.set q rt).set t ⟨A, N, List.replicate N 0⟩) n N (fun i j => if i = t then 0 else if i = q then X t j else X i j) := by
  refine ⟨by simp [h.1], fun i r hr => ?_⟩
  rw [List.getElem?_set] at hr
  by_cases e : t = i
  · subst e
    rw [if_pos rfl] at hr
    split at hr
    · injection hr with hr
      subst hr
      refine ⟨by simp, fun j hj => ?_⟩
      simp [List.getD, hj]
    · cases hr
  · rw [if_neg e, List.getElem?_set] at hr
    by_cases e3 : q = i
    · subst e3
      rw [if_pos rfl] at hr
      split at hr
      · injection hr with hr
        subst hr
        obtain ⟨h1, h2⟩ := h.2 t rt hrt
        exact ⟨h1, fun j hj => by rw [h2 j hj]; simp [Ne.symm e]⟩
      · cases hr
    · rw [if_neg e3] at hr
      obtain ⟨h1, h2⟩ := h.2 i r hr
      exact ⟨h1, fun j hj => by rw [h2 j hj]; simp [Ne.symm e, Ne.symm e3]⟩
/-- the new row t while it is made -/
def sw1 (p : Int) (t q : Nat) (y : Int) (X : Nat → Nat → Int) (j : Nat) (i k : Nat) : Int := if i = t then (if k < j then X q k * y % p else 0) else if i = q then X t k else X i k
theorem sw1_zero (p : Int) (t q : Nat) (y : Int) (X : Nat → Nat → Int) : sw1 p t q y X 0 = fun i j => if i = t then 0 else if i = q then X t j else X i j := by
  funext i j; simp [sw1]
theorem sw1_next (p : Int) (t q : Nat) (y : Int) (X : Nat → Nat → Int) (j : Nat) : upd (sw1 p t q y X j) t j (X q j * y % p) = sw1 p t q y X (j + 1) := by
  funext a b
  by_cases e : a = t ∧ b = j
  · obtain ⟨rfl, rfl⟩ := e
    rw [upd_at, sw1, if_pos rfl, if_pos (by omega)]
  · rw [upd_ne e]
    unfold sw1
    by_cases h : a = t
    · rw [if_pos h, if_pos h]
      by_cases h2 : b < j
      · rw [if_pos h2, if_pos (by omega)]
      · rw [if_neg h2, if_neg (by omega)]
    · rw [if_neg h, if_neg h]
theorem sw1_end {p : Int} {t q : Nat} {y : Int} {X : Nat → Nat → Int} {N i j : Nat} (hj : j < N) : sw1 p t q y X N i j = swp p t q y X i j := by
  unfold sw1 swp
  simp [hj]
/-- row r while row t is taken off -/
def cl2 (p : Int) (t k r j : Nat) (B : Nat → Nat → Int) (a b : Nat) : Int := if a = r ∧ b < j then (B r b + (p - B r k) * B t b) % p else clr p t k r B a b
theorem cl2_zero (p : Int) (t k r : Nat) (B : Nat → Nat → Int) : cl2 p t k r 0 B = clr p t k r B := by funext a b; simp [cl2]
theorem cl2_next {p : Int} {t k r j : Nat} {B : Nat → Nat → Int} : upd (cl2 p t k r j B) r j ((B r j + (p - B r k) * B t j) % p) = cl2 p t k r (j + 1) B := by
  funext a b
  by_cases e : a = r ∧ b = j
  · obtain ⟨rfl, rfl⟩ := e
    rw [upd_at, cl2, if_pos ⟨rfl, by omega⟩]
  · rw [upd_ne e]
    unfold cl2
    by_cases h : a = r ∧ b < j
    · rw [if_pos h, if_pos ⟨h.1, by omega⟩]
    · rw [if_neg h, if_neg (fun h2 => e ⟨h2.1, by omega⟩)]
theorem cl2_end {p : Int} {t k r N a b : Nat} {B : Nat → Nat → Int} (hrt : r ≠ t) (hb : b < N) : cl2 p t k r N B a b = clr p t k (r + 1) B a b := by
  unfold cl2
  by_cases h : a = r
  · subst h
    rw [if_pos ⟨rfl, hb⟩, clr, if_pos ⟨by omega, hrt⟩]
  · rw [if_neg (fun h2 => h h2.1)]
    unfold clr
    by_cases h2 : a < r ∧ a ≠ t
    · rw [if_pos h2, if_pos ⟨by omega, h2.2⟩]
    · rw [if_neg h2, if_neg (fun h3 => h2 ⟨by omega, h3.2⟩)]
theorem clr_same {p : Int} {t k r : Nat} {B : Nat → Nat → Int} (h : r = t) : clr p t k r B = clr p t k (r + 1) B := by
  funext a b
  unfold clr
  by_cases h2 : a < r ∧ a ≠ t
  · rw [if_pos h2, if_pos ⟨by omega, h2.2⟩]
  · rw [if_neg h2, if_neg (fun h3 => h2 ⟨by omega, h3.2⟩)]
theorem mul_bd {x y : Int} {a b : Int} (hx : 0 ≤ x ∧ x ≤ a) (hy : 0 ≤ y ∧ y ≤ b) : 0 ≤ x * y ∧ x * y ≤ a * b :=
  ⟨Int.mul_nonneg hx.1 hy.1, Int.mul_le_mul hx.2 hy.2 hy.1 (by omega)⟩

/-- what reduce gives -/
def RedPost (p : Int) (m N : Nat) (M : Nat → Nat → Int) (w : World) (e : Ending) (w' : World) : Prop :=
  ∃ A' c' t l X, e = .returned (.slice A' t c') ∧ Mat w' w'.heap.size A' t (fun _ => N) X ∧ Rdc p m N M X N t l ∧ Below w.heap.size w w'

set_option maxHeartbeats 4000000 in
set_option maxRecDepth 100000 in
theorem reduce_any (p : Int) (hp : isP p = true) (A : Option Addr) (c m N : Nat) (M : Nat → Nat → Int) (w : World) (hm : 1 ≤ m ∧ m ≤ 7) (hN : 1 ≤ N ∧ N ≤ 7) (hr : ∀ i, i < m → ∀ k, k < N → 0 ≤ M i k ∧ M i k < p) (h : Mat w w.heap.size A m (fun _ => N) M) :
    Calls Try.prog 73 #[.int .i64 p, .slice A m c] w (RedPost p m N M w) := by
  have HCP := hide (copyRows_any A m c N M w (by omega) (by omega) h)
  have HRG := hide (Rdc.start (l := fun _ => 0) hr)
  have hpb := isP_pos hp
  have HP := hide hp
  clear h hr hp
  go_enter Try.func73, Try.ntmps73
  go_wp2_with fail
  refine (HCP.out).mono ?_
  rintro e w1 ⟨A1, c1, R1, rfl, ht, hcp, hb⟩
  obtain ⟨bA, rfl, hbA, hbA2, hmc⟩ : ∃ b, A1 = some ⟨b, 0, none⟩ ∧ w.heap.size ≤ b ∧ b < w1.heap.size ∧ m ≤ c1 := by
    rcases ht.tab.form with ⟨_, h0, _⟩ | ⟨g, e, h1, h2, h3⟩
    · omega
    · exact ⟨g, e, h1, h2, h3⟩
  have HT := hide ht
  have HC := hide hcp
  clear ht hcp
  go_wp2_with fail
  go_loopw [6, 7] (fun v i wr => ∃ (t k : Nat) (X : Nat → Nat → Int) (l : Nat → Nat) (R : List Sl), k ≤ N ∧ v = .int .i64 t ∧ i = .int .i64 k ∧ TabD wr w.heap.size wr.heap.size (some ⟨bA, 0, none⟩) m c1 R ∧ TbC R m N X ∧ Rdc p m N M X k t l ∧ Below w.heap.size w wr ∧ w1.heap.size ≤ wr.heap.size) (fun _ i _ => N - (intOf i).toNat)
  case atStart => exact ⟨0, 0, M, _, R1, by omega, rfl, rfl, HT.out, HC.out, HRG.out, hb, Nat.le_refl _⟩
  case round =>
    obtain ⟨t, k, X, l, R, hk, rfl, rfl, ht, hcp, hrd, hb, hz1⟩ := hrel
    obtain ⟨wo, hwo⟩ : ∃ x, x = wr := ⟨_, rfl⟩
    rw [← hwo] at ht hb hz1
    rw [← hwo]
    clear hwo HT HC
    have HT := hide ht
    have HC := hide hcp
    have HR := hide hrd
    have HB := hide hb
    have hz := hb.size
    have htm := hrd.le.1
    obtain ⟨b0, c0, hat0⟩ := hcp.at_ ht (i := 0) (j := 0) (by omega) (by omega)
    have a0 := hat0.row
    have hbAo : bA < wo.heap.size := by omega
    have hb0 := hat0.blt
    clear hat0 ht hcp hrd hb
    by_cases hlt : k < N
    · have hkI : (k : Int) < (N : Int) := by omega
      go_wp2_with fail
      clear a0
      go_loop [8, 9] (fun v i => ∃ j : Nat, t ≤ j ∧ j ≤ m ∧ i = .int .i64 j ∧ ((v = .int .i64 (-1) ∧ ∀ a, t ≤ a → a < j → X a k = 0) ∨ ∃ q : Nat, v = .int .i64 q ∧ t ≤ q ∧ q < j ∧ X q k ≠ 0)) (fun _ i => m - (intOf i).toNat)
      case atStart => exact ⟨t, Nat.le_refl _, htm, rfl, .inl ⟨rfl, fun a h1 h2 => by omega⟩⟩
      case round =>
        obtain ⟨j, hj1, hj2, rfl, hv⟩ := hrel
        by_cases hjm : j < m
        · have hjI : (j : Int) < (m : Int) := by omega
          rcases hv with ⟨rfl, hall⟩ | ⟨q, rfl, hq1, hq2, hq3⟩
          · have Hall := hide hall
            clear hall
            obtain ⟨b1, d1, hat⟩ := HC.out.at_ HT.out (i := j) (j := k) hjm hlt
            have a1 := hat.row
            have a2 := hat.cell
            have a3 := hat.blt
            clear hat
            by_cases h0 : X j k = 0
            · have H0 := hide h0
              have hne : (X j k != 0) = false := by simp [h0]
              clear h0
              go_wp2_with fail
              go_round
              case rel => exact ⟨j + 1, by omega, by omega, by go_num, .inl ⟨rfl, fun a h1 h2 => by
                by_cases e : a = j
                · subst e; exact H0.out
                · exact Hall.out a h1 (by omega)⟩⟩
              case measure => simp [intOf]; omega
            · have H0 := hide h0
              have hne : (X j k != 0) = true := by simp [h0]
              clear h0
              go_wp2_with fail
              go_round
              case rel => exact ⟨j + 1, by omega, by omega, by go_num, .inr ⟨j, rfl, hj1, by omega, H0.out⟩⟩
              case measure => simp [intOf]; omega
          · have H3 := hide hq3
            clear hq3
            go_wp2_with fail
            go_round
            case rel => exact ⟨j + 1, by omega, by omega, by go_num, .inr ⟨q, rfl, hq1, by omega, H3.out⟩⟩
            case measure => simp [intOf]; omega
        · obtain rfl : j = m := by omega
          rcases hv with ⟨rfl, hall⟩ | ⟨q, rfl, hq1, hq2, hq3⟩
          · have HS := hide (HR.out.skip hall)
            clear hall
            go_wp2_with fail
            go_roundw
            case rel => first | exact ⟨t, k + 1, X, l, R, by omega, rfl, by go_num, HT.out, HC.out, HS.out, HB.out, hz1⟩ | ((repeat apply Exists.intro); exact ⟨⟨t, k + 1, X, l, R, by omega, rfl, by go_num, HT.out, HC.out, HS.out, HB.out, hz1⟩, rfl⟩)
            case measure => simp [intOf]; omega
          · have H3 := hide hq3
            clear hq3
            obtain ⟨bq, dq, hatq⟩ := HC.out.at_ HT.out (i := q) (j := k) hq2 hlt
            have HQC := hide (show ∀ i, i < N → wo.cell? ⟨bq, i, none⟩ = some (.int .i64 (X q i)) from fun i hi => by
              obtain ⟨b9, d9, hat9⟩ := HC.out.at_ HT.out (i := q) (j := i) hq2 hi
              have e := hat9.row
              rw [hatq.row] at e
              simp only [Option.some.injEq, Value.slice.injEq, Addr.mk.injEq, and_true, true_and] at e
              obtain ⟨rfl, _⟩ := e
              exact hat9.cell)
            obtain ⟨bA1, rq, eA1, _, _, hrq, hcq, hfq, _⟩ := HT.out.tab.at_ hq2
            obtain rfl : bA = bA1 := by simpa using eA1
            obtain ⟨bA2, rt, eA2, _, _, hrt, hct, hft, _⟩ := HT.out.tab.at_ (i := t) (by omega)
            obtain rfl : bA = bA2 := by simpa using eA2
            have a1 := hatq.row
            have hqA := hatq.ne
            have hqlt := hatq.blt
            have hbq := hatq.lo
            have hx := HR.out.rng q hq2 k hlt
            have hx1 : 1 ≤ X q k ∧ X q k ≤ p - 1 := by have := H3.out; omega
            obtain ⟨hy1, hy2, hy3, _⟩ := inv_ok HP.out hx1.1 hx1.2
            have HINV := hide (fun W => inverseS_any p (X q k) W HP.out hx1.1 hx1.2)
            have hlt2 : rt.xs.length = N := (HC.out.2 t rt hrt).1
            have HSW := hide (HT.out.swap (N := N) hq2 (by omega) hrt (Nat.le_refl _) hz (by omega))
            have HSC := hide (show TbC ((R.set q rt).set t ⟨some ⟨wo.heap.size, 0, none⟩, N, List.replicate N 0⟩) j N (sw1 p t q (inv p (X q k)) X 0) from by rw [sw1_zero]; exact HC.out.swap hrt)
            have HPV := hide (fun (C : Nat → Nat → Int) (l' : Nat → Nat) eC el nl => HR.out.pivot HP.out (C := C) (l' := l') hlt ⟨hq1, hq2⟩ hy3 eC el nl)
            have HRN := hide (HR.out.rng)
            have o1 := (World.cell?_setCell_other wo ⟨bA, q, none⟩ ⟨bq, k, none⟩ rt.val (by intro h; injection h with h; exact hqA h.symm)).trans hatq.cell
            have hmk := run_make_row' (P := Try.prog) 23 3 (.int .i64 0) 8 Try.underlying23 info_int rfl .i64 .i64 N (by omega) (by omega)
            have hqI : (q : Int) < (j : Int) := by omega
            have htI : (t : Int) < (j : Int) := by omega
            have hqI0 : (0 : Int) ≤ (q : Int) := by omega
            have htI0 : (0 : Int) ≤ (t : Int) := by omega
            rw [Sl.val, hlt2] at o1
            rw [hlt2] at hct
            have o2 : (wo.setCell ⟨bA, q, none⟩ (.slice rt.A N rt.c)).cell? ⟨bA, t, none⟩ = some (.slice rt.A N rt.c) := by
              by_cases e : q = t
              · subst e
                exact World.cell?_setCell_same' _ _ _ (by rw [a1]; rfl)
              · exact (World.cell?_setCell_other wo ⟨bA, q, none⟩ ⟨bA, t, none⟩ _ (fun h => e (by injection h))).trans hct
            clear hatq eA1 eA2 hrq hcq
            generalize hxx : X q k = x at *
            generalize hyy : inv p x = y at *
            have HXX := hide hxx
            clear hxx
            go_wp2_with fail
            refine (HINV.out _).mono ?_
            rintro e _ ⟨rfl, rfl⟩
            go_wp2_with fail
            clear o1 hmk a1 hct
            have hxb : 0 ≤ x ∧ x ≤ 6 := by omega
            go_loopw [12] (fun i wx => ∃ (s : Nat) (R3 : List Sl), s ≤ N ∧ i = .int .i64 s ∧ TabD wx w.heap.size wx.heap.size (some ⟨bA, 0, none⟩) j c1 R3 ∧ TbC R3 j N (sw1 p t q y X s) ∧ Below w.heap.size w wx ∧ (∀ i, i < N → wx.cell? ⟨bq, i, none⟩ = some (.int .i64 (X q i))) ∧ wx.cell? ⟨bA, t, none⟩ = some (.slice (some ⟨wo.heap.size, 0, none⟩) N N) ∧ wo.heap.size + 1 ≤ wx.heap.size) (fun i _ => N - (intOf i).toNat)
            case atStart =>
              have hsz : ((wo.setCell ⟨bA, q, none⟩ (.slice rt.A N rt.c)).setCell ⟨bA, t, none⟩ (.slice (some ⟨wo.heap.size, 0, none⟩) N N)).heap.size = wo.heap.size := by simp [World.setCell]
              have ne1 : ∀ a i, (⟨bA, a, none⟩ : Addr) ≠ ⟨bq, i, none⟩ := fun a i h => hqA (by injection h with h; exact h.symm)
              refine ⟨0, _, by omega, rfl, ?_, HSC.out, ?_, fun i hi => ?_, ?_, ?_⟩
              · have := HSW.out
                rw [Sl.val, hlt2] at this
                exact this.mono (Nat.le_refl _) (by simp [hsz])
              · exact ((HB.out.setCell (p := ⟨bA, q, none⟩) hbA _).setCell (p := ⟨bA, t, none⟩) hbA _).alloc (by rw [hsz]; exact hz) _
              · rw [World.cell?_alloc_past _ _ _ (by rw [hsz]; exact hqlt), World.cell?_setCell_other _ _ _ _ (ne1 t i), World.cell?_setCell_other _ _ _ _ (ne1 q i)]
                exact HQC.out i hi
              · rw [World.cell?_alloc_past _ _ _ (by rw [hsz]; exact hbAo)]
                exact World.cell?_setCell_same' _ _ _ (by rw [o2]; rfl)
              · simp [hsz]
            case round =>
              obtain ⟨s, R3, hs, rfl, ht3, hc3, hb3, hq3, hrow3, hz3⟩ := hrel
              obtain ⟨w3, hw3⟩ : ∃ x, x = wr := ⟨_, rfl⟩
              rw [← hw3] at ht3 hb3 hq3 hrow3 hz3
              rw [← hw3]
              clear hw3
              by_cases hsN : s < N
              · obtain ⟨b1, d1, hat⟩ := hc3.at_ ht3 (i := t) (j := s) (by omega) hsN
                have e := hat.row
                rw [hrow3] at e
                simp only [Option.some.injEq, Value.slice.injEq, Addr.mk.injEq, and_true, true_and] at e
                obtain ⟨rfl, rfl⟩ := e
                have c1' := hat.cell
                have c2 := hat.fz
                have c3 := hq3 s hsN
                have hlo := hat.lo
                have hne := hat.ne
                have HSET := hide (hat.set (X q s * y % p))
                have HN3 := hide (sw1_next p t q y X s)
                have HQ3 := hide hq3
                have HB3 := hide hb3
                have hb := HRN.out q (by omega) s hsN
                have hpr := mul_bd (a := 6) (b := 6) (show 0 ≤ X q s ∧ X q s ≤ 6 by omega) (show 0 ≤ y ∧ y ≤ 6 by omega)
                generalize X q s = z at *
                have hsI : (s : Int) < (N : Int) := by omega
                have hsI0 : (0 : Int) ≤ (s : Int) := by omega
                clear hat ht3 hc3 hb3 hq3
                have hp0 : p ≠ 0 := by omega
                have hp1 : (p == 0) = false := by simp; omega
                have htm : (z * y).tmod p = z * y % p := Int.tmod_eq_emod_of_nonneg hpr.1
                have hwr : IntKind.i64.wrap (z * y) = z * y := IntWalk.i64_in _ (by omega)
                go_wp2_with fail
                go_still_tail 14, (by kernel_rfl)
                change wpList _ _ _ _ _ w3.drew
                go_wp2_with fail
                obtain ⟨R4, q1, q2⟩ := HSET.out
                rw [HN3.out] at q2
                have HF := hide (show _ ∧ _ from ⟨q1, q2⟩)
                clear q1 q2
                have HRW := hide ((World.cell?_setCell_other w3 ⟨wo.heap.size, s, none⟩ ⟨bA, t, none⟩ (.int .i64 (z * y % p)) (fun h => hne (by injection h))).trans hrow3)
                have HQ4 := hide (fun i hi => (World.cell?_setCell_other w3 ⟨wo.heap.size, s, none⟩ ⟨bq, i, none⟩ (.int .i64 (z * y % p)) (fun h => by injection h with h; omega)).trans (HQ3.out i hi))
                go_roundw
                case rel =>
                  refine ⟨s + 1, R4, by omega, by go_num, ?_, HF.out.2, ?_, ?_, ?_, ?_⟩
                  · exact HF.out.1.drew.mono (Nat.le_refl _) (by first | (simp [World.setCell]; done) | (simp [World.setCell, World.drew]; done))
                  · first | exact Below.drew (HB3.out.setCell (p := ⟨wo.heap.size, s, none⟩) hlo _) | exact HB3.out.setCell (p := ⟨wo.heap.size, s, none⟩) hlo _
                  · exact HQ4.out
                  · exact HRW.out
                  · simpa [World.setCell] using hz3
                case measure => simp [intOf]; omega
              · obtain rfl : s = N := by omega
                have HT3 := hide ht3
                have HC3 := hide (show TbC R3 j s (swp p t q y X) from hc3.congr (fun a b _ hb => sw1_end hb))
                have HB3 := hide hb3
                have HBN := hide (swp_bd (y := y) HP.out (show t < j by omega) HRN.out (q := q))
                clear ht3 hc3 hb3 hq3 hrow3
                generalize hBB : swp p t q y X = B at *
                have HBB := hide hBB
                clear hBB
                go_wp2_with fail
                go_loopw [13] (fun i wx => ∃ (r : Nat) (R4 : List Sl), r ≤ j ∧ i = .int .i64 r ∧ TabD wx w.heap.size wx.heap.size (some ⟨bA, 0, none⟩) j c1 R4 ∧ TbC R4 j s (clr p t k r B) ∧ Below w.heap.size w wx ∧ w3.heap.size ≤ wx.heap.size) (fun i _ => j - (intOf i).toNat)
                case atStart => exact ⟨0, R3, by omega, rfl, HT3.out, HC3.out.congr (fun a b _ _ => by simp [clr]), HB3.out, Nat.le_refl _⟩
                case round =>
                  obtain ⟨r, R4, hr4, rfl, ht4, hc4, hb4, hz4⟩ := hrel
                  obtain ⟨w4, hw4⟩ : ∃ x, x = wr := ⟨_, rfl⟩
                  rw [← hw4] at ht4 hb4 hz4
                  rw [← hw4]
                  clear hw4
                  by_cases hrj : r < j
                  · obtain ⟨b1, d1, hat⟩ := hc4.at_ ht4 (i := r) (j := k) hrj hlt
                    have e1 := hat.row
                    have e2 := hat.cell
                    have e3 := hat.blt
                    rw [clr, if_neg (by omega)] at e2
                    have HT4 := hide ht4
                    have HC4 := hide hc4
                    have HB4 := hide hb4
                    have hrI : (r : Int) < (j : Int) := by omega
                    have hbA4 : bA < w4.heap.size := by omega
                    have hfb := HBN.out r hrj k hlt
                    clear hat ht4 hc4 hb4
                    generalize hff : B r k = f at *
                    go_wp2_with fail
                    clear e1 e2 e3
                    by_cases hrt : r = t
                    · have HC5 := hide (show TbC R4 j s (clr p t k (r + 1) B) from by rw [← clr_same hrt]; exact HC4.out)
                      have hrtb : ((r : Int) != (t : Int)) = false := by simp [hrt]
                      clear hrt
                      refine wp_loop_rounds 1 ?_
                      rw [rounds_succ]
                      go_wp2_with fail
                      go_roundw
                      case rel => first | exact ⟨r + 1, R4, by omega, by go_num, HT4.out, HC5.out, HB4.out, hz4⟩ | ((repeat apply Exists.intro); exact ⟨⟨r + 1, R4, by omega, by go_num, HT4.out, HC5.out, HB4.out, hz4⟩, rfl⟩)
                      case measure => simp [intOf]; omega
                    · have hrtb : ((r : Int) != (t : Int)) = true := by simp; omega
                      go_loopw [14] (fun i wx => ∃ (v : Nat) (R5 : List Sl), v ≤ s ∧ i = .int .i64 v ∧ TabD wx w.heap.size wx.heap.size (some ⟨bA, 0, none⟩) j c1 R5 ∧ TbC R5 j s (cl2 p t k r v B) ∧ Below w.heap.size w wx ∧ w3.heap.size ≤ wx.heap.size) (fun i _ => s - (intOf i).toNat)
                      case atStart => exact ⟨0, R4, by omega, rfl, HT4.out, by rw [cl2_zero]; exact HC4.out, HB4.out, hz4⟩
                      case round =>
                        obtain ⟨v, R5, hv, rfl, ht5, hc5, hb5, hz5⟩ := hrel
                        obtain ⟨w5, hw5⟩ : ∃ x, x = wr := ⟨_, rfl⟩
                        rw [← hw5] at ht5 hb5 hz5
                        rw [← hw5]
                        clear hw5
                        by_cases hvs : v < s
                        · obtain ⟨b2, d2, hat⟩ := hc5.at_ ht5 (i := r) (j := v) hrj hvs
                          obtain ⟨b3, d3, hat3⟩ := hc5.at_ ht5 (i := t) (j := v) (by omega) hvs
                          have g1 := hat.row
                          have g2 := hat.cell
                          have g3 := hat.fz
                          have g4 := hat.lo
                          have g5 := hat3.row
                          have g6 := hat3.cell
                          rw [cl2, if_neg (by omega), clr, if_neg (by omega)] at g2
                          rw [cl2, if_neg (by omega), clr, if_neg (by omega)] at g6
                          have HSET := hide (hat.set ((B r v + (p - f) * B t v) % p))
                          have HN5 := hide (show upd (cl2 p t k r v B) r v ((B r v + (p - f) * B t v) % p) = cl2 p t k r (v + 1) B from by rw [← hff]; exact cl2_next)
                          have HB5 := hide hb5
                          have hb1 := HBN.out r hrj v hvs
                          have hb2 := HBN.out t (by omega) v hvs
                          have hpr := mul_bd (a := 7) (b := 6) (show 0 ≤ p - f ∧ p - f ≤ 7 by omega) (show 0 ≤ B t v ∧ B t v ≤ 6 by omega)
                          have hvI : (v : Int) < (s : Int) := by omega
                          have hvI0 : (0 : Int) ≤ (v : Int) := by omega
                          have hrI0 : (0 : Int) ≤ (r : Int) := by omega
                          clear hat hat3 ht5 hc5 hb5
                          generalize B r v = z1 at *
                          generalize B t v = z2 at *
                          have hp0 : p ≠ 0 := by omega
                          have hp1 : (p == 0) = false := by simp; omega
                          have htm : (z1 + (p - f) * z2).tmod p = (z1 + (p - f) * z2) % p := Int.tmod_eq_emod_of_nonneg (by omega)
                          have hwr : IntKind.i64.wrap ((p - f) * z2) = (p - f) * z2 := IntWalk.i64_in _ (by omega)
                          have hwr2 : IntKind.i64.wrap (z1 + (p - f) * z2) = z1 + (p - f) * z2 := IntWalk.i64_in _ (by omega)
                          go_wp2_with fail
                          go_still_tail 27, (by kernel_rfl)
                          change wpList _ _ _ _ _ w5.drew
                          go_wp2_with fail
                          obtain ⟨R6, q1, q2⟩ := HSET.out
                          rw [HN5.out] at q2
                          have HF := hide (show _ ∧ _ from ⟨q1, q2⟩)
                          clear q1 q2
                          go_roundw
                          case rel =>
                            refine ⟨v + 1, R6, by omega, by go_num, ?_, HF.out.2, ?_, ?_⟩
                            · exact HF.out.1.drew.mono (Nat.le_refl _) (by first | (simp [World.setCell]; done) | (simp [World.setCell, World.drew]; done))
                            · first | exact Below.drew (HB5.out.setCell (p := ⟨b2, v, none⟩) g4 _) | exact HB5.out.setCell (p := ⟨b2, v, none⟩) g4 _
                            · simpa [World.setCell] using hz5
                          case measure => simp [intOf]; omega
                        · obtain rfl : v = s := by omega
                          have HC6 := hide (show TbC R5 j v (clr p t k (r + 1) B) from hc5.congr (fun a b _ hb => cl2_end hrt hb))
                          have HT5 := hide ht5
                          have HB5 := hide hb5
                          clear ht5 hc5 hb5 hrt
                          go_wp2_with fail
                          go_roundw
                          case rel => first | exact ⟨r + 1, R5, by omega, by go_num, HT5.out, HC6.out, HB5.out, hz5⟩ | ((repeat apply Exists.intro); exact ⟨⟨r + 1, R5, by omega, by go_num, HT5.out, HC6.out, HB5.out, hz5⟩, rfl⟩)
                          case measure => simp [intOf]; omega
                  · obtain rfl : r = j := by omega
                    have HRD := hide (HPV.out (clr p t k r B) (fun i => if i = t then k else l i) (fun i _ k' _ => by rw [← HBB.out]) (fun i hi => if_neg (by omega)) (if_pos rfl))
                    have HT4 := hide ht4
                    have HC4 := hide hc4
                    have HB4 := hide hb4
                    clear ht4 hc4 hb4
                    go_wp2_with fail
                    go_roundw
                    case rel => first | exact ⟨t + 1, k + 1, _, _, R4, by omega, by go_num, by go_num, HT4.out, HC4.out, HRD.out, HB4.out, by omega⟩ | ((repeat apply Exists.intro); exact ⟨⟨t + 1, k + 1, _, _, R4, by omega, by go_num, by go_num, HT4.out, HC4.out, HRD.out, HB4.out, by omega⟩, rfl⟩)
                    case measure => simp [intOf]; omega
    · obtain rfl : k = N := by omega
      have hge : ¬ (k : Int) < (k : Int) := by omega
      go_wp2_with fail
      go_ret
      exact ⟨some ⟨bA, 0, none⟩, c1, t, l, X, rfl, (HC.out.mat HT.out).cut htm, HR.out, HB.out⟩
end Go.Proofs.Ytcalfblghblhcaa
