/-
  LooplessOf: the program and the reference agree. Conditions: the hints are a slice of ints that can be read.
-/
import Derived.Test.YtecmihmopiepfaaHints
import Derived.Test.YtecmihmopiepfaaSize
namespace Go.Proofs.Ytecmihmopiepfaa
open Go.RowKit

/-- x without number j -/
def rm (x j : Nat) : Nat := x &&& (15 ^^^ 2 ^ j)
/-- every one of T has something of T -/
def stuck (n : Nat) (g : Nat → Nat) (T : Nat) : Prop := ∀ i, i < n → bt T i = true → g i &&& T ≠ 0
instance (n : Nat) (g : Nat → Nat) (T : Nat) : Decidable (stuck n g T) := by unfold stuck; exact inferInstance
/-- all of S can be taken away -/
def noStuck (n : Nat) (g : Nat → Nat) (S : Nat) : Prop := ∀ T, T < 16 → T &&& S = T → stuck n g T → T = 0
instance (n : Nat) (g : Nat → Nat) (S : Nat) : Decidable (noStuck n g S) := by unfold noStuck; exact inferInstance
/-- the greatest number of receivers among the first k sets that can all be taken away -/
def ll (n : Nat) (g : Nat → Nat) : Nat → Nat | 0 => 0 | k + 1 => if noStuck n g k then max (ll n g k) (wt k) else ll n g k

theorem rm_fin : ∀ x, x < 16 → ∀ j, j < 4 → rm x j < 16 ∧ rm x j &&& x = rm x j ∧ bt (rm x j) j = false ∧ bits .andNot .i64 (x : Int) ((2 : Int) ^ j) = ((rm x j : Nat) : Int) := by decide +kernel
theorem rm_sub : ∀ T, T < 16 → ∀ x, x < 16 → ∀ j, j < 4 → T &&& x = T → bt T j = false → T &&& rm x j = T := by decide +kernel
theorem bt_sub : ∀ T, T < 16 → ∀ x, x < 16 → ∀ j, j < 4 → T &&& x = T → bt T j = true → bt x j = true := by decide +kernel
theorem sub_le {a b : Nat} (h : a &&& b = a) : a ≤ b := by rw [← h]; exact Nat.and_le_right
theorem sub_trans {a b c : Nat} (h : a &&& b = a) (k : b &&& c = b) : a &&& c = a := by rw [← h, Nat.and_assoc, k]
theorem sub_none {y T l : Nat} (h : T &&& l = T) (k : y &&& l = 0) : y &&& T = 0 := by rw [← h, Nat.and_comm T l, ← Nat.and_assoc, k, Nat.zero_and]
theorem wt_four : ∀ s, s < 16 → wt s ≤ 4 := by decide +kernel
theorem ll_bd (n : Nat) (g : Nat → Nat) : ∀ k, k ≤ 16 → ll n g k ≤ 4
  | 0, _ => by simp [ll]
  | k + 1, h => by
    have := ll_bd n g k (by omega)
    have := wt_four k (by omega)
    simp only [ll]; split <;> omega

/-- what is left of S -/
def left (n : Nat) (g : Nat → Nat) (S l : Nat) : Prop := l &&& S = l ∧ ∀ T, T &&& S = T → stuck n g T → T &&& l = T
theorem left.start (n : Nat) (g : Nat → Nat) (S : Nat) : left n g S S := ⟨Nat.and_self _, fun _ h _ => h⟩
theorem left.step {n : Nat} {g : Nat → Nat} {S l x j : Nat} (hS : S < 16) (hj : j < n) (hn : n ≤ 4) (h : left n g S l) (hx : left n g S x) (hxl : x &&& l = x) (h0 : g j &&& l = 0) : left n g S (rm x j) ∧ rm x j &&& l = rm x j := by
  have x16 : x < 16 := Nat.lt_of_le_of_lt (sub_le hx.1) hS
  have f := rm_fin x x16 j (by omega)
  refine ⟨⟨sub_trans f.2.1 hx.1, fun T hT hs => ?_⟩, sub_trans f.2.1 hxl⟩
  have t16 : T < 16 := Nat.lt_of_le_of_lt (sub_le hT) hS
  refine rm_sub T t16 x x16 j (by omega) (hx.2 T hT hs) ?_
  rw [← Bool.not_eq_true]
  intro hb
  exact hs j hj hb (sub_none (h.2 T hT hs) h0)
theorem left.step1 {n : Nat} {g : Nat → Nat} {S x j : Nat} (hS : S < 16) (hj : j < n) (hn : n ≤ 4) (hx : left n g S x) (hb : bt x j = true) (h0 : g j &&& x = 0) : left n g S (rm x j) ∧ rm x j < x := by
  have f := rm_fin x (Nat.lt_of_le_of_lt (sub_le hx.1) hS) j (by omega)
  refine ⟨(left.step hS hj hn hx hx (Nat.and_self x) h0).1, ?_⟩
  have h1 := sub_le f.2.1
  have h2 : rm x j ≠ x := fun e => by have := f.2.2.1; rw [e, hb] at this; cases this
  omega
theorem left.done {n : Nat} {g : Nat → Nat} {S l : Nat} (hS : S < 16) (h : left n g S l) (hs : stuck n g l) : noStuck n g S ↔ l = 0 := by
  constructor
  · intro k
    exact k l (Nat.lt_of_le_of_lt (sub_le h.1) hS) h.1 hs
  · rintro rfl T hT hTS hst
    have := h.2 T hTS hst
    rw [← this, Nat.and_zero]
theorem left.lt {n : Nat} {g : Nat → Nat} {S l : Nat} (hS : S < 16) (h : left n g S l) : l < 16 := Nat.lt_of_le_of_lt (sub_le h.1) hS

theorem and_zero_t {a b : Nat} (ha : a < 16) (hb : b < 16) (h : a &&& b = 0) : (bits .and .i64 (a : Int) (b : Int) == 0) = true := by
  rw [and_nat a b (by omega) (by omega), h]; rfl
theorem and_zero_f {a b : Nat} (ha : a < 16) (hb : b < 16) (h : ¬ a &&& b = 0) : (bits .and .i64 (a : Int) (b : Int) == 0) = false := by
  rw [and_nat a b (by omega) (by omega)]; simp; exact_mod_cast h

def flag : Value → Nat | .bool true => 1 | _ => 0

theorem looplessI_any (A : Option Addr) (n c : Nat) (f : Nat → Int) (g : Nat → Nat) (S : Nat) (w : World) (hn : n ≤ 4) (hS : S < 16) (hg : ∀ i, i < n → f i = g i ∧ g i < 16) (h : Ints w w.heap.size A n f) :
    Calls Try.prog 65 #[.slice A n c, .int .i64 S] w fun e w' => e = .returned (.bool (decide (noStuck n g S))) ∧ w = w' := by
  have Hh := hide h
  have HG := hide hg
  clear h hg
  have HS := hide (fun l (h : left n g S l) => h.lt hS)
  have HB := hide (fun (x j : Nat) (hj : j < n) (hx : left n g S x) (hb : bt x j = true) (h0 : g j &&& x = 0) => left.step1 hS hj hn hx hb h0)
  go_enter Try.func65, Try.ntmps65
  go_wp2_with fail
  go_loop [1, 5] (fun s v => ∃ (l : Nat) (fd : Bool), s = .int .i64 l ∧ v = .bool fd ∧ left n g S l ∧ (fd = false → stuck n g l)) (fun s v => 2 * (intOf s).toNat + flag v)
  case atStart => exact ⟨S, true, rfl, rfl, left.start n g S, by simp⟩
  case round =>
    obtain ⟨l, fd, rfl, rfl, hl, hst⟩ := hrel
    have l16 := HS.out l hl
    have Hl := hide hl
    have Hst := hide hst
    clear hl hst
    cases fd
    · have HD := hide (left.done hS Hl.out (Hst.out rfl))
      by_cases h0 : l = 0
      · subst h0
        go_wp2_with fail
        go_ret
        exact ⟨ret_bool (by simp [HD.out]), rfl⟩
      · go_wp2_with fail
        go_ret
        exact ⟨ret_bool (by simp [HD.out, h0]), rfl⟩
    · go_wp2_with fail
      go_loop [1, 5, 11] (fun s v i => ∃ (x : Nat) (fd : Bool) (j : Nat), s = .int .i64 x ∧ v = .bool fd ∧ i = .int .i64 j ∧ j ≤ n ∧ left n g S x ∧ x ≤ l ∧ (fd = true → x < l) ∧ (fd = false → x = l ∧ ∀ i, i < j → bt x i = true → g i &&& x ≠ 0)) (fun _ _ i => n - (intOf i).toNat)
      case atStart => exact ⟨l, false, 0, rfl, rfl, rfl, Nat.zero_le _, Hl.out, Nat.le_refl _, by simp, fun _ => ⟨rfl, fun i hi => by omega⟩⟩
      case round =>
        obtain ⟨x, fd, j, rfl, rfl, rfl, hj, hx, hxl, h1, h2⟩ := hrel
        have x16 := HS.out x hx
        have Hx := hide hx
        have H1 := hide h1
        have H2 := hide h2
        clear hx h1 h2
        by_cases hjn : j < n
        · obtain ⟨b, off, rfl, hbl, hc⟩ := Hh.out (by omega)
          have hcell := hc j hjn
          clear hc
          obtain ⟨e, hy⟩ := HG.out j hjn
          rw [e] at hcell
          have R := rm_fin x x16 j (by omega)
          have hA := R.2.2.2
          have HR := hide R
          clear R e
          cases hb : bt x j
          · obtain ⟨f1, f2⟩ := bt_f (show x ≤ 9223372036854775807 by omega) hb
            have HBF := hide hb
            clear hb hA
            go_wp2_with fail
            go_round
            case rel => exact ⟨x, fd, j + 1, rfl, rfl, by go_num, by omega, Hx.out, hxl, H1.out, fun hf => ⟨(H2.out hf).1, fun i hi hbi => by
              by_cases e : i = j
              · subst e; rw [HBF.out] at hbi; cases hbi
              · exact (H2.out hf).2 i (by omega) hbi⟩⟩
            case measure => simp [intOf]; omega
          · obtain ⟨f1, f2⟩ := bt_t (show x ≤ 9223372036854775807 by omega) hb
            have HBT := hide hb
            clear hb
            by_cases h0 : g j &&& x = 0
            · have hz := and_zero_t hy x16 h0
              have p1 := two_pow_pos j
              have p2 := two_pow_le (show j ≤ 3 by omega)
              rw [show (2 : Int) ^ 3 = 8 by decide] at p2
              have HQ := hide (HB.out x j hjn Hx.out HBT.out h0)
              clear h0
              go_wp2_with fail
              go_round
              case rel => exact ⟨rm x j, true, j + 1, rfl, rfl, by go_num, by omega, HQ.out.1, by have := HQ.out.2; omega, fun _ => by have := HQ.out.2; omega, by simp⟩
              case measure => simp [intOf]; omega
            · have hz := and_zero_f hy x16 h0
              have H0 := hide h0
              clear h0 hA
              go_wp2_with fail
              go_round
              case rel => exact ⟨x, fd, j + 1, rfl, rfl, by go_num, by omega, Hx.out, hxl, H1.out, fun hf => ⟨(H2.out hf).1, fun i hi hbi => by
                by_cases e : i = j
                · subst e; exact H0.out
                · exact (H2.out hf).2 i (by omega) hbi⟩⟩
              case measure => simp [intOf]; omega
        · obtain rfl : j = n := by omega
          go_wp2_with fail
          go_round
          case rel => exact ⟨x, fd, rfl, rfl, Hx.out, fun hf i hi hb => (H2.out hf).2 i hi hb⟩
          case measure =>
            cases fd
            · have := H2.out rfl; simp [intOf, flag]; omega
            · have := H1.out rfl; simp [intOf, flag]; omega

/-- LooplessOf -/
def lpV (n : Nat) (f : Nat → Int) : Int := if vH n f then ((ll n (fun i => (f i).toNat) (2 ^ n) : Nat) : Int) else -1
theorem vH_g {n : Nat} {f : Nat → Int} (h : vH n f = true) : (1 ≤ n ∧ n ≤ 4) ∧ ∀ i, i < n → f i = ((f i).toNat : Nat) ∧ (f i).toNat < 16 := by
  obtain ⟨h1, h2⟩ := vH_true.1 h
  refine ⟨h1, fun i hi => ?_⟩
  have := inR_true.1 (h2 i hi).1
  have q := two_pow_le h1.2
  rw [show (2 : Int) ^ 4 = 16 by decide] at q
  omega

theorem looplessS_any (A : Option Addr) (n c : Nat) (f : Nat → Int) (g : Nat → Nat) (w : World) (hn : 1 ≤ n ∧ n ≤ 4) (hg : ∀ i, i < n → f i = g i ∧ g i < 16) (h : Ints w w.heap.size A n f) :
    Calls Try.prog 64 #[.slice A n c] w fun e w' => e = .returned (.int .i64 (ll n g (2 ^ n) : Nat)) ∧ w = w' := by
  have Hh := hide h
  have HG := hide hg
  clear h hg
  have HP := hide (fun W => powerS_any n W (by omega))
  have HL := hide (fun k (hk : k ≤ 16) => ll_bd n g k hk)
  have p1 := two_pow_pos n
  have p2 := two_pow_le hn.2
  rw [show (2 : Int) ^ 4 = 16 by decide] at p2
  have PN := hide (show ((2 ^ n : Nat) : Int) = 2 ^ n by push_cast; rfl)
  go_enter Try.func64, Try.ntmps64
  go_wp2_with fail
  go_loop [3, 4] (fun v s => ∃ k : Nat, (k : Int) ≤ 2 ^ n ∧ s = .int .i64 k ∧ v = .int .i64 (ll n g k : Nat)) (fun _ s => 16 - (intOf s).toNat)
  case atStart => exact ⟨0, by omega, rfl, rfl⟩
  case round =>
    obtain ⟨S, hS, rfl, rfl⟩ := hrel
    have hm4 := HL.out S (by omega)
    have HLL := hide (show ll n g (S + 1) = if noStuck n g S then max (ll n g S) (wt S) else ll n g S from rfl)
    by_cases hlt : (S : Int) < 2 ^ n
    · have HS := hide (fun l (h : left n g S l) => h.lt (show S < 16 by omega))
      have HSl := hide (fun l (h : left n g S l) => sub_le h.1)
      have HB := hide (fun (l x j : Nat) (hj : j < n) (h : left n g S l) (hx : left n g S x) (hxl : x &&& l = x) (h0 : g j &&& l = 0) => left.step (show S < 16 by omega) hj hn.2 h hx hxl h0)
      have HDD := hide (fun l (h : left n g S l) (hs : stuck n g l) => left.done (show S < 16 by omega) h hs)
      have HW := hide (fun W => weightS_any S W (by omega))
      have hw4 := wt_four S (by omega)
      generalize ll n g S = V at *
      generalize wt S = U at *
      go_wp2_with fail
      refine (HP.out _).mono ?_
      rintro e _ ⟨rfl, rfl⟩
      go_wp2_with fail
      go_loop [5] (fun s => ∃ l : Nat, s = .int .i64 l ∧ left n g S l) (fun s => (intOf s).toNat)
      case atStart => exact ⟨S, rfl, left.start n g S⟩
      case round =>
        obtain ⟨l, rfl, hl⟩ := hrel
        have l16 := HS.out l hl
        have Hl := hide hl
        clear hl
        go_wp2_with fail
        go_loop [6, 7] (fun s i => ∃ (x j : Nat), s = .int .i64 x ∧ i = .int .i64 j ∧ j ≤ n ∧ left n g S x ∧ x &&& l = x ∧ (x = l → ∀ i, i < j → bt l i = true → g i &&& l ≠ 0)) (fun _ i => n - (intOf i).toNat)
        case atStart => exact ⟨l, 0, rfl, rfl, Nat.zero_le _, Hl.out, Nat.and_self _, fun _ i hi => by omega⟩
        case round =>
          obtain ⟨x, j, rfl, rfl, hj, hx, hxl, h1⟩ := hrel
          have x16 := HS.out x hx
          have Hx := hide hx
          have H1 := hide h1
          have Hxl := hide hxl
          clear hx h1 hxl
          by_cases hjn : j < n
          · obtain ⟨b, off, rfl, hbl, hc⟩ := Hh.out (by omega)
            have hcell := hc j hjn
            clear hc
            obtain ⟨e, hy⟩ := HG.out j hjn
            rw [e] at hcell
            clear e
            cases hb : bt l j
            · have HBT := hide hb
              have HBC := hide (fun W => bitS_f l j W (by omega) (by omega) hb)
              clear hb
              go_wp2_with fail
              refine (HBC.out _).mono ?_
              rintro e _ ⟨rfl, rfl⟩
              go_wp2_with fail
              go_round
              case rel => exact ⟨x, j + 1, rfl, by go_num, by omega, Hx.out, Hxl.out, fun hf i hi hbi => by
                by_cases e : i = j
                · subst e; rw [HBT.out] at hbi; cases hbi
                · exact H1.out hf i (by omega) hbi⟩
              case measure => simp [intOf]; omega
            · have HBT := hide hb
              have HBC := hide (fun W => bitS_t l j W (by omega) (by omega) hb)
              clear hb
              by_cases h0 : g j &&& l = 0
              · have hz := and_zero_t hy l16 h0
                have HQ := hide (HB.out l x j hjn Hl.out Hx.out Hxl.out h0)
                have R := rm_fin x x16 j (by omega)
                have hA := R.2.2.2
                have HRJ := hide R.2.2.1
                have HPJ := hide (fun W => powerS_any j W (by omega))
                clear h0 R
                generalize (2 : Int) ^ j = q at *
                go_wp2_with fail
                refine (HBC.out _).mono ?_
                rintro e _ ⟨rfl, rfl⟩
                go_wp2_with fail
                refine (HPJ.out _).mono ?_
                rintro e _ ⟨rfl, rfl⟩
                go_wp2_with fail
                go_round
                case rel => exact ⟨rm x j, j + 1, rfl, by go_num, by omega, HQ.out.1, HQ.out.2, fun hf i hi hbi => by
                  have := HRJ.out; rw [hf, HBT.out] at this; cases this⟩
                case measure => simp [intOf]; omega
              · have hz := and_zero_f hy l16 h0
                have H0 := hide h0
                clear h0
                go_wp2_with fail
                refine (HBC.out _).mono ?_
                rintro e _ ⟨rfl, rfl⟩
                go_wp2_with fail
                go_round
                case rel => exact ⟨x, j + 1, rfl, by go_num, by omega, Hx.out, Hxl.out, fun hf i hi hbi => by
                  by_cases e : i = j
                  · subst e; exact H0.out
                  · exact H1.out hf i (by omega) hbi⟩
                case measure => simp [intOf]; omega
          · obtain rfl : j = n := by omega
            by_cases hxe : x = l
            · have HD := hide (HDD.out l Hl.out (fun i hi hb => H1.out hxe i hi hb))
              clear H1 Hx Hxl
              subst hxe
              by_cases h0 : x = 0
              · have HLL2 := hide (show ll j g (S + 1) = max V U by rw [HLL.out, if_pos (HD.out.2 h0)])
                subst h0
                clear HD HLL
                by_cases hmx : U ≤ V
                · go_wp2_with fail
                  refine (HW.out _).mono ?_
                  rintro e _ ⟨rfl, rfl⟩
                  go_wp2_with fail
                  go_round
                  case rel => exact ⟨S + 1, by omega, by go_num, by rw [HLL2.out]; congr 1; omega⟩
                  case measure => simp [intOf]; omega
                · go_wp2_with fail
                  refine (HW.out _).mono ?_
                  rintro e _ ⟨rfl, rfl⟩
                  go_wp2_with fail
                  go_round
                  case rel => exact ⟨S + 1, by omega, by go_num, by rw [HLL2.out]; congr 1; omega⟩
                  case measure => simp [intOf]; omega
              · have HLL2 := hide (show ll j g (S + 1) = V by rw [HLL.out, if_neg (fun k => h0 (HD.out.1 k))])
                clear HD HLL
                go_wp2_with fail
                go_round
                case rel => exact ⟨S + 1, by omega, by go_num, by rw [HLL2.out]⟩
                case measure => simp [intOf]; omega
            · go_wp2_with fail
              go_round
              case rel => exact ⟨x, rfl, Hx.out⟩
              case measure => have := sub_le Hxl.out; simp [intOf]; omega
    · obtain rfl : S = 2 ^ n := by have := PN.out; omega
      go_wp2_with fail
      refine (HP.out _).mono ?_
      rintro e _ ⟨rfl, rfl⟩
      go_wp2_with fail
      go_ret
      exact ⟨rfl, rfl⟩
end Go.Proofs.Ytecmihmopiepfaa
