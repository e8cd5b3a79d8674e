/-
  Sums of sets: the program and the reference agree. Conditions: the lists can be read.
-/
import Derived.Test.YtkalecdjcdgodaaFieldA
import Derived.Test.YtkalecdjcdgodaaBits
import Derived.Test.YtkalecdjcdgodaaOwn
import Derived.Test.YtkalecdjcdgodaaOwn2
import Derived.Deep.RegionWith
namespace Go.Proofs.Ytkalecdjcdgodaa
open Go.RowKit

/-- a number is no digit -/
def badD (x : Int) : Bool := !inR x 0 255
/-- a number is no set of n numbers -/
def badS (n : Nat) (x : Int) : Bool := !inR x 0 (2 ^ n - 1)
theorem digit1_any (x : Int) (w : World) :
    Calls Try.prog 78 #[.int .i64 x] w fun e w' => e = .returned (.bool (badD x)) ∧ w = w' := by
  go_enter Try.func78, Try.ntmps78
  go_wp2_with (first | (go_at_call 55; refine (within_any _ _ _ _).mono ?_; rintro e w' ⟨rfl, rfl⟩))
  go_ret
  exact ⟨rfl, rfl⟩
theorem set1_any (x : Int) (n B : Nat) (w : World) (hn : n ≤ 7) (hc : w.cell? ⟨B, 0, none⟩ = some (.int .i64 n)) :
    Calls Try.prog 79 #[.int .i64 x, .pointer (some ⟨B, 0, none⟩)] w fun e w' => e = .returned (.bool (badS n x)) ∧ w = w' := by
  have q0 := two_pow_pos n
  have q1 := two_pow_le hn
  rw [show (2 : Int) ^ 7 = 128 by decide] at q1
  go_enter Try.func79, Try.ntmps79
  go_wp2_with (first | (go_at_call 55; refine (within_any _ _ _ _).mono ?_; rintro e w' ⟨rfl, rfl⟩))
  go_ret
  exact ⟨rfl, rfl⟩
theorem digIndex_any (A : Option Addr) (n c : Nat) (f : Nat → Int) (w : World) (hn : n ≤ 9223372036854775807) (h : Ints w w.heap.size A n f) :
    Calls Try.prog 80 #[.slice A n c, .func (.func 78) #[] #[]] w fun e w' => ∃ r : Int, e = .returned (.int .i64 r) ∧ (decide (0 ≤ r) = !noneB n f badD) ∧ w = w' := by
  have H := hide h
  have HC := hide (fun x => digit1_any x w)
  clear h
  go_enter Try.func80, Try.ntmps80
  go_wp2_with fail
  go_loop [8] (fun i => ∃ k : Nat, k ≤ n ∧ i = .int .i64 k ∧ (∀ j, j < k → badD (f j) = false)) (fun i => n - (intOf i).toNat)
  case atStart => exact ⟨0, Nat.zero_le _, rfl, by simp⟩
  case round =>
    obtain ⟨k, hk, rfl, hall⟩ := hrel
    have Hall := hide hall
    clear hall
    by_cases hlt : k < n
    · obtain ⟨b, off, rfl, hbl, hc⟩ := H.out (by omega)
      have hck := hc k hlt
      clear hc
      cases hx : badD (f k)
      · go_wp2_with fail
        refine (HC.out _).mono ?_
        rintro e w' ⟨rfl, rfl⟩
        rw [hx]
        go_wp2_with fail
        go_round
        case rel => exact ⟨k + 1, by omega, by go_num, fun j hj => by
          by_cases e : j = k
          · subst e; exact hx
          · exact Hall.out j (by omega)⟩
        case measure => simp [intOf]; omega
      · go_wp2_with fail
        refine (HC.out _).mono ?_
        rintro e w' ⟨rfl, rfl⟩
        rw [hx]
        go_wp2_with fail
        go_ret
        exact ⟨k, rfl, by rw [noneB_false ⟨k, hlt, hx⟩]; simp, rfl⟩
    · obtain rfl : k = n := by omega
      go_wp2_with fail
      go_ret
      exact ⟨-1, rfl, by rw [noneB_true.2 Hall.out]; rfl, rfl⟩

theorem digContains_any (A : Option Addr) (n c : Nat) (f : Nat → Int) (w : World) (hn : n ≤ 9223372036854775807) (h : Ints w w.heap.size A n f) :
    Calls Try.prog 57 #[.slice A n c, .func (.func 78) #[] #[]] w fun e w' => e = .returned (.bool (!noneB n f badD)) ∧ w = w' := by
  have H := hide (digIndex_any  A n c f w hn h)
  clear h
  go_enter Try.func57, Try.ntmps57
  go_wp2_with fail
  refine (H.out).mono ?_
  rintro e w' ⟨r, rfl, hr, rfl⟩
  have Hr := hide hr
  clear hr
  go_wp2_with fail
  go_ret
  exact ⟨ret_bool Hr.out, rfl⟩

theorem setsIndex_any (q B : Nat) (A : Option Addr) (n c : Nat) (f : Nat → Int) (w : World) (hn : n ≤ 9223372036854775807) (h : Ints w w.heap.size A n f) (hq : q ≤ 7) (hcb : w.cell? ⟨B, 0, none⟩ = some (.int .i64 q)) :
    Calls Try.prog 80 #[.slice A n c, .func (.func 79) #[] #[.pointer (some ⟨B, 0, none⟩)]] w fun e w' => ∃ r : Int, e = .returned (.int .i64 r) ∧ (decide (0 ≤ r) = !noneB n f (badS q)) ∧ w = w' := by
  have H := hide h
  have HC := hide (fun x => set1_any x q B w hq hcb)
  clear h
  go_enter Try.func80, Try.ntmps80
  go_wp2_with fail
  go_loop [8] (fun i => ∃ k : Nat, k ≤ n ∧ i = .int .i64 k ∧ (∀ j, j < k → (badS q) (f j) = false)) (fun i => n - (intOf i).toNat)
  case atStart => exact ⟨0, Nat.zero_le _, rfl, by simp⟩
  case round =>
    obtain ⟨k, hk, rfl, hall⟩ := hrel
    have Hall := hide hall
    clear hall
    by_cases hlt : k < n
    · obtain ⟨b, off, rfl, hbl, hc⟩ := H.out (by omega)
      have hck := hc k hlt
      clear hc
      cases hx : (badS q) (f k)
      · go_wp2_with fail
        refine (HC.out _).mono ?_
        rintro e w' ⟨rfl, rfl⟩
        rw [hx]
        go_wp2_with fail
        go_round
        case rel => exact ⟨k + 1, by omega, by go_num, fun j hj => by
          by_cases e : j = k
          · subst e; exact hx
          · exact Hall.out j (by omega)⟩
        case measure => simp [intOf]; omega
      · go_wp2_with fail
        refine (HC.out _).mono ?_
        rintro e w' ⟨rfl, rfl⟩
        rw [hx]
        go_wp2_with fail
        go_ret
        exact ⟨k, rfl, by rw [noneB_false ⟨k, hlt, hx⟩]; simp, rfl⟩
    · obtain rfl : k = n := by omega
      go_wp2_with fail
      go_ret
      exact ⟨-1, rfl, by rw [noneB_true.2 Hall.out]; rfl, rfl⟩

theorem setsContains_any (q B : Nat) (A : Option Addr) (n c : Nat) (f : Nat → Int) (w : World) (hn : n ≤ 9223372036854775807) (h : Ints w w.heap.size A n f) (hq : q ≤ 7) (hcb : w.cell? ⟨B, 0, none⟩ = some (.int .i64 q)) :
    Calls Try.prog 57 #[.slice A n c, .func (.func 79) #[] #[.pointer (some ⟨B, 0, none⟩)]] w fun e w' => e = .returned (.bool (!noneB n f (badS q))) ∧ w = w' := by
  have H := hide (setsIndex_any q B A n c f w hn h hq hcb)
  clear h
  go_enter Try.func57, Try.ntmps57
  go_wp2_with fail
  refine (H.out).mono ?_
  rintro e w' ⟨r, rfl, hr, rfl⟩
  have Hr := hide hr
  clear hr
  go_wp2_with fail
  go_ret
  exact ⟨ret_bool Hr.out, rfl⟩


theorem digitsOk_any (A : Option Addr) (n c : Nat) (f : Nat → Int) (w : World) (hn : n ≤ 9223372036854775807) (h : Ints w w.heap.size A n f) :
    Calls Try.prog 49 #[.slice A n c] w fun e w' => e = .returned (.bool (noneB n f badD)) ∧ w = w' := by
  have H := hide (digContains_any A n c f w hn h)
  clear h
  go_enter Try.func49, Try.ntmps49
  go_wp2_with fail
  refine (H.out).mono ?_
  rintro e _ ⟨rfl, rfl⟩
  go_wp2_with fail
  go_ret
  exact ⟨ret_bool (by simp), rfl⟩
theorem setsOk_any (A : Option Addr) (m c k : Nat) (g : Nat → Int) (w : World) (hm : m ≤ 9223372036854775807) (hk : k ≤ 7) (h : Ints w w.heap.size A m g) :
    Calls Try.prog 50 #[.slice A m c, .int .i64 k] w fun e w' => e = .returned (.bool (decide (m ≤ 12) && noneB m g (badS k))) ∧ Below w.heap.size w w' := by
  have H := hide (setsContains_any k w.heap.size A m c g (w.alloc (.cells #[.int .i64 k] 3)) hm (h.keep ((Below.refl _ _).alloc (Nat.le_refl _) _) (by simp)) hk (by simp))
  clear h
  by_cases h12 : m ≤ 12
  · refine calls_bool (a := noneB m g (badS k)) (by simp [h12]) ?_
    go_enter Try.func50, Try.ntmps50
    go_wp2_with fail
    refine (H.out).mono ?_
    rintro e _ ⟨rfl, rfl⟩
    go_wp2_with fail
    go_ret
    exact ⟨ret_bool (by simp), by go_grown⟩
  · refine calls_bool (a := false) (by simp [h12]) ?_
    go_enter Try.func50, Try.ntmps50
    go_wp2_with fail
    go_ret
    exact ⟨rfl, by go_grown⟩

/-- numbers and sets are as they should be -/
def sumsOk (n : Nat) (f : Nat → Int) (m : Nat) (g : Nat → Int) : Bool := decide (n ≤ 7) && (noneB n f badD && (decide (m ≤ 12) && noneB m g (badS n)))
theorem sumsOk_big {n m : Nat} {f g : Nat → Int} (h : ¬ n ≤ 7) : sumsOk n f m g = false := by simp [sumsOk, h]
theorem sumsOk_dig {n m : Nat} {f g : Nat → Int} (h : noneB n f badD = false) : sumsOk n f m g = false := by simp [sumsOk, h]
theorem sumsOk_true {n m : Nat} {f g : Nat → Int} : sumsOk n f m g = true ↔ n ≤ 7 ∧ noneB n f badD = true ∧ m ≤ 12 ∧ noneB m g (badS n) = true := by simp [sumsOk]

theorem quietL {P : Program} {f : FuncId} {args : Array Value} {w : World} {a n : Nat} {v : Value}
    (h : Calls P f args (w.drewN (a + n)) fun e w' => e = .returned v ∧ w.drewN (a + n) = w') :
    Calls P f args (w.drewN (a + n)) fun e w'' => e = .returned v ∧ ∃ m, w'' = w.drewN (a + m) :=
  h.mono fun _ _ ⟨he, hm⟩ => ⟨he, n, hm.symm⟩

theorem validSums_gen (A B : Option Addr) (n c m d : Nat) (f g : Nat → Int) (pq u : Int) (w : World) (hn : n ≤ 9223372036854775807) (hm : m ≤ 9223372036854775807) (h1 : Ints w w.heap.size A n f) (h2 : Ints w w.heap.size B m g)
    (hpow : ∀ W : World, Calls Try.prog 64 #[.int .i64 n] W fun e w' => e = .returned (.int .i64 pq) ∧ W = w') (hu : IntKind.i64.wrap (pq - 1) = u)
    (hbad : ∀ k, k < m → inR (g k) 0 u = false → sumsOk n f m g = false) (hend : (∀ j, j < m → inR (g j) 0 u = true) → noneB n f badD = true → sumsOk n f m g = (decide (n ≤ 7) && decide (m ≤ 12))) :
    Calls Try.prog 47 #[.slice A n c, .slice B m d] w fun e w' => e = .returned (.bool (sumsOk n f m g)) ∧ ∃ q, w.drewN q = w' := by
  have H1 := hide h1
  have H2 := hide h2
  have HP := hide hpow
  have HB := hide hbad
  have HE := hide hend
  have HU := hide hu
  clear h1 h2 hpow hbad hend hu
  go_enter Try.func47, Try.ntmps47
  go_wp2_with fail
  go_loop [5] (fun i => ∃ k : Nat, k ≤ n ∧ i = .int .i64 k ∧ (∀ j, j < k → badD (f j) = false)) (fun i => n - (intOf i).toNat)
  case atStart => exact ⟨0, Nat.zero_le _, rfl, by simp⟩
  case round =>
    obtain ⟨k, hk, rfl, hall⟩ := hrel
    have Hall := hide hall
    clear hall
    by_cases hlt : k < n
    · obtain ⟨b, off, rfl, hbl, hc⟩ := H1.out (by omega)
      have hck := hc k hlt
      clear hc
      cases hx : inR (f k) 0 255
      · go_wp2_with (first | (go_at_call 56; refine (inRange_any _ _ _ _).mono ?_; rintro e w' ⟨rfl, rfl⟩))
        go_ret
        exact ⟨ret_bool (sumsOk_dig (noneB_false ⟨k, hlt, by simp [badD, hx]⟩)).symm, 0, rfl⟩
      · go_wp2_with (first | (go_at_call 56; refine (inRange_any _ _ _ _).mono ?_; rintro e w' ⟨rfl, rfl⟩))
        go_round
        case rel => exact ⟨k + 1, by omega, by go_num, fun j hj => by
          by_cases e : j = k
          · subst e; simp [badD, hx]
          · exact Hall.out j (by omega)⟩
        case measure => simp [intOf]; omega
    · obtain rfl : k = n := by omega
      have HD := hide (noneB_true.2 Hall.out)
      go_wp2_with fail
      go_loopw [6] (fun i wr => ∃ j : Nat, j ≤ m ∧ i = .int .i64 j ∧ (∀ t, t < j → inR (g t) 0 u = true) ∧ ∃ q, wr = w.drewN q) (fun i _ => m - (intOf i).toNat)
      case atStart => exact ⟨0, Nat.zero_le _, rfl, by simp, 0, rfl⟩
      case round =>
        obtain ⟨j, hj, rfl, hall, q, rfl⟩ := hrel
        have Hall2 := hide hall
        clear hall
        by_cases hlm : j < m
        · obtain ⟨b, off, rfl, hbl, hc⟩ := H2.out (by omega)
          have hck : w.cell? ⟨b, off + j, none⟩ = some (.int .i64 (g j)) := hc j hlm
          clear hc
          have HBJ := hide (HB.out j hlm)
          have HNX := hide (show inR (g j) 0 u = true → ∀ t, t < j + 1 → inR (g t) 0 u = true from fun h t ht => by
            by_cases e : t = j
            · subst e; exact h
            · exact Hall2.out t (by omega))
          have hu := HU.out
          generalize g j = x at *
          cases hx : inR x 0 u
          · have HX := hide (HBJ.out hx)
            go_wp2_with fail
            go_quiet ((first | (go_at_call 64; exact quietL (HP.out _)) | (go_at_call 56; exact quietL (hx ▸ inRange_any _ _ _ _))))
            go_wp2_with fail
            go_ret
            exact ⟨ret_bool HX.out.symm, by first | exact ⟨_, rfl⟩ | exact ⟨_, (World.drewN_drewN _ _ _).symm⟩⟩
          · have HX := hide (HNX.out hx)
            go_wp2_with fail
            go_quiet ((first | (go_at_call 64; exact quietL (HP.out _)) | (go_at_call 56; exact quietL (hx ▸ inRange_any _ _ _ _))))
            go_wp2_with fail
            clear hu
            go_roundw
            case rel => exact ⟨j + 1, by omega, by go_num, HX.out, by first | exact ⟨_, rfl⟩ | exact ⟨_, World.drewN_drewN _ _ _⟩⟩
            case measure => simp [intOf]; omega
        · obtain rfl : j = m := by omega
          have HX := hide (HE.out Hall2.out HD.out)
          by_cases h7 : k ≤ 7
          · by_cases h12 : j ≤ 12
            · go_wp2_with fail
              go_ret
              exact ⟨ret_bool (by rw [HX.out]; simp [h7, h12] <;> omega), _, rfl⟩
            · go_wp2_with fail
              go_ret
              exact ⟨ret_bool (by rw [HX.out]; simp [h7] <;> omega), _, rfl⟩
          · go_wp2_with fail
            go_ret
            exact ⟨ret_bool (by rw [HX.out]; simp <;> omega), _, rfl⟩

theorem validSums_any (A B : Option Addr) (n c m d : Nat) (f g : Nat → Int) (w : World) (hn : n ≤ 9223372036854775807) (hm : m ≤ 9223372036854775807) (h1 : Ints w w.heap.size A n f) (h2 : Ints w w.heap.size B m g) :
    Calls Try.prog 47 #[.slice A n c, .slice B m d] w fun e w' => e = .returned (.bool (sumsOk n f m g)) ∧ ∃ q, w.drewN q = w' := by
  by_cases h7 : n ≤ 7
  · have q0 := two_pow_pos n
    have q1 := two_pow_le h7
    rw [show (2 : Int) ^ 7 = 128 by decide] at q1
    refine validSums_gen A B n c m d f g (2 ^ n) (2 ^ n - 1) w hn hm h1 h2 (fun W => powerS_any n W (by omega)) (IntWalk.i64_in _ (by omega)) (fun k hk hx => ?_) (fun hall hd => ?_)
    · rw [← Bool.not_eq_true, sumsOk_true]
      rintro ⟨_, _, _, h⟩
      have := noneB_true.1 h k hk
      simp [badS, hx] at this
    · have : noneB m g (badS n) = true := noneB_true.2 fun i hi => by simp [badS, hall i hi]
      simp [sumsOk, hd, this]
  · refine validSums_gen A B n c m d f g (p2w n) _ w hn hm h1 h2 (fun W => powerS_wide n W hn) rfl (fun k hk hx => sumsOk_big h7) (fun hall hd => ?_)
    rw [sumsOk_big h7]; simp [h7]

/-- the sum of a set's numbers among the first i -/
def sx (s : Nat) (f : Nat → Int) : Nat → Int | 0 => 0 | i + 1 => if bt s i then bits .xor .i64 (sx s f i) (f i) else sx s f i
def sumsN (n : Nat) (f : Nat → Int) (m : Nat) (g : Nat → Int) : Nat := if sumsOk n f m g then m else 0
def sumsF (n : Nat) (f : Nat → Int) (g : Nat → Int) (i : Nat) : Int := sx (g i).toNat f n
def sumsL (n : Nat) (f : Nat → Int) (g : Nat → Int) (k : Nat) : List Int := (List.range k).map (sumsF n f g)
theorem sumsL_succ (n : Nat) (f : Nat → Int) (g : Nat → Int) (k : Nat) : sumsL n f g (k + 1) = sumsL n f g k ++ [sumsF n f g k] := by simp [sumsL, List.range_succ]
def SumsPost (n : Nat) (f : Nat → Int) (m : Nat) (g : Nat → Int) (w : World) (e : Ending) (w' : World) : Prop :=
  ∃ A' c', e = .returned (.slice A' (sumsN n f m g) c') ∧ Row w' w.heap.size A' (sumsN n f m g) c' (sumsL n f g (sumsN n f m g)) ∧ Below w.heap.size w w'
theorem sums_no {n m : Nat} {f g : Nat → Int} {w w' : World} (h : sumsOk n f m g = false) (hb : Below w.heap.size w w') : SumsPost n f m g w (.returned (.slice none 0 0)) w' := by
  have : sumsN n f m g = 0 := by simp [sumsN, h]
  exact ⟨none, 0, by rw [this], by rw [this]; exact Row.nil _ _, hb⟩
theorem sums_set {n m : Nat} {f g : Nat → Int} (h : sumsOk n f m g = true) {j : Nat} (hj : j < m) : ∃ s : Nat, g j = s ∧ s < 128 := by
  obtain ⟨h1, _, _, h2⟩ := sumsOk_true.1 h
  have h3 := noneB_true.1 h2 j hj
  have q1 := two_pow_le h1
  rw [show (2 : Int) ^ 7 = 128 by decide] at q1
  simp only [badS, Bool.not_eq_false', inR_true] at h3
  exact ⟨(g j).toNat, by omega, by omega⟩

set_option maxHeartbeats 1000000 in
theorem SumsOfS_any (A B : Option Addr) (n c m d : Nat) (f g : Nat → Int) (w : World) (hn : n ≤ 1048576) (hm : m ≤ 1048576) (h1 : Ints w w.heap.size A n f) (h2 : Ints w w.heap.size B m g) :
    Calls Try.prog 14 #[.slice A n c, .slice B m d] w (SumsPost n f m g w) := by
  have H1 := hide h1
  have H2 := hide h2
  have HV := hide (validSums_any A B n c m d f g w (by omega) (by omega) h1 h2)
  clear h1 h2
  cases hv : sumsOk n f m g
  · have HN := hide (fun w' hb => sums_no (w := w) (w' := w') hv hb)
    rw [hv] at HV
    clear hv
    go_enter Try.func14, Try.ntmps14
    go_wp2_with fail
    refine (HV.out).mono ?_
    rintro e _ ⟨rfl, q, rfl⟩
    go_wp2_with fail
    go_ret
    exact HN.out _ (below_drewN (Below.refl _ _) _)
  have hb0 := sumsOk_true.1 hv
  have hn7 := hb0.1
  have hm12 := hb0.2.2.1
  have HSN := hide (show sumsN n f m g = m by simp [sumsN, hv])
  have HST := hide (fun j (hj : j < m) => sums_set hv hj)
  rw [hv] at HV
  clear hv hb0
  go_enter Try.func14, Try.ntmps14
  go_wp2_with fail
  refine (HV.out).mono ?_
  rintro e _ ⟨rfl, q, rfl⟩
  have HBW := hide (below_drewN (Below.refl w.heap.size w) q)
  obtain ⟨w0, hw0⟩ : ∃ x, x = w.drewN q := ⟨_, rfl⟩
  rw [← hw0] at HBW
  rw [← hw0]
  have hz0 : w.heap.size ≤ w0.heap.size := HBW.out.size
  clear hw0
  go_wp2_with fail
  go_loopw [5, 6] (fun v i wr => ∃ (k : Nat) (A' : Option Addr) (c' : Nat), k ≤ m ∧ i = .int .i64 k ∧ v = .slice A' k c' ∧ Row wr w.heap.size A' k c' (sumsL n f g k) ∧ Below w.heap.size w wr) (fun _ i _ => m - (intOf i).toNat)
  case atStart => exact ⟨0, _, _, by omega, rfl, rfl, Row.lit (xs := []) rfl rfl hz0, HBW.out.alloc (by omega) _⟩
  case round =>
    obtain ⟨k, A', c', hk, rfl, rfl, hrow, hb⟩ := hrel
    have HR := hide hrow
    have hz := hb.size
    clear hrow
    by_cases hlt : k < m
    · obtain ⟨bs, os, rfl, hbs, hcs⟩ := H2.out (by omega)
      have hck := (hb.cell (p := ⟨bs, os + k, none⟩) hbs).trans (hcs k hlt)
      clear hcs
      have hlb : bs < wr.heap.size := by omega
      obtain ⟨s, hs1, hs2⟩ := HST.out k hlt
      have HSF := hide (show sumsF n f g k = sx s f n by rw [sumsF, hs1, Int.toNat_natCast])
      rw [hs1] at hck
      clear hs1
      go_wp2_with fail
      go_loop [7, 8] (fun v i => ∃ j : Nat, j ≤ n ∧ i = .int .i64 j ∧ v = .int .i64 (sx s f j)) (fun _ i => n - (intOf i).toNat)
      case atStart => exact ⟨0, by omega, rfl, rfl⟩
      case round =>
        obtain ⟨j, hj, rfl, rfl⟩ := hrel
        by_cases hjn : j < n
        · obtain ⟨bf, of, rfl, hbf, hcf⟩ := H1.out (by omega)
          have hcj := (hb.cell (p := ⟨bf, of + j, none⟩) hbf).trans (hcf j hjn)
          clear hcf
          have HX := hide (show sx s f (j + 1) = if bt s j then bits .xor .i64 (sx s f j) (f j) else sx s f j from rfl)
          generalize hsx : sx s f j = y at *
          clear hsx
          cases hbt : bt s j
          · rw [hbt] at HX
            have HBT := hide (fun W => bitS_f s j W (by omega) (by omega) hbt)
            clear hbt
            go_wp2_with (first | (go_at_call 48; refine (HBT.out _).mono ?_; rintro e w' ⟨rfl, rfl⟩))
            go_round
            case rel => exact ⟨j + 1, by omega, by go_num, by rw [HX.out]; rfl⟩
            case measure => simp [intOf]; omega
          · rw [hbt] at HX
            have HBT := hide (fun W => bitS_t s j W (by omega) (by omega) hbt)
            clear hbt
            go_wp2_with (first | (go_at_call 48; refine (HBT.out _).mono ?_; rintro e w' ⟨rfl, rfl⟩))
            go_round
            case rel => exact ⟨j + 1, by omega, by go_num, by rw [HX.out]; rfl⟩
            case measure => simp [intOf]; omega
        · obtain rfl : j = n := by omega
          go_wp2_with (at_builtin; refine push_int rfl _ _ rfl _ rfl HR.out (sx s f j) _ rfl (by omega) hz ?_; intro A2 c2 w2 hr2 hb2 hg2 hat2; have HF := hide (show _ ∧ _ from ⟨hr2, hb.trans (hb2.mono (by omega))⟩); clear hr2 hb2 hg2 hat2)
          go_roundw
          case rel => first | exact ⟨k + 1, A2, c2, by omega, by go_num, rfl, by rw [sumsL_succ, HSF.out]; exact HF.out.1, HF.out.2⟩ | ((repeat apply Exists.intro); exact ⟨⟨k + 1, A2, c2, by omega, by go_num, rfl, by rw [sumsL_succ, HSF.out]; exact HF.out.1, HF.out.2⟩, rfl⟩)
          case measure => simp [intOf]; omega
    · obtain rfl : k = m := by omega
      go_wp2_with fail
      go_ret
      exact ⟨_, _, by rw [HSN.out]; rfl, by rw [HSN.out]; exact HR.out, hb⟩

set_option maxHeartbeats 1000000 in
theorem SumsOfI_any (A B : Option Addr) (n c m d : Nat) (f g : Nat → Int) (w : World) (hn : n ≤ 1048576) (hm : m ≤ 1048576) (h1 : Ints w w.heap.size A n f) (h2 : Ints w w.heap.size B m g) :
    Calls Try.prog 16 #[.slice A n c, .slice B m d] w (SumsPost n f m g w) := by
  have H1 := hide h1
  have H2 := hide h2
  have HD := hide (digitsOk_any A n c f w (by omega) h1)
  have HSO := hide (fun (h7 : n ≤ 7) => setsOk_any B m d n g w (by omega) h7 h2)
  clear h1 h2
  by_cases h7 : ¬ n ≤ 7
  · have HN := hide (fun w' hb => sums_no (w := w) (w' := w') (sumsOk_big (m := m) (f := f) (g := g) h7) hb)
    go_enter Try.func16, Try.ntmps16
    go_wp2_with fail
    go_ret
    exact HN.out _ (Below.refl _ _)
  have hn7 : n ≤ 7 := by omega
  clear h7
  cases hd : noneB n f badD
  · have HN := hide (fun w' hb => sums_no (w := w) (w' := w') (sumsOk_dig (n := n) (m := m) (f := f) (g := g) hd) hb)
    rw [hd] at HD
    clear hd
    go_enter Try.func16, Try.ntmps16
    go_wp2_with fail
    refine (HD.out).mono ?_
    rintro e _ ⟨rfl, rfl⟩
    go_wp2_with fail
    go_ret
    exact HN.out _ (Below.refl _ _)
  have HS := hide (HSO.out hn7)
  have hsv : sumsOk n f m g = (decide (m ≤ 12) && noneB m g (badS n)) := by simp [sumsOk, hn7, hd]
  rw [hd] at HD
  rw [← hsv] at HS
  clear hd hsv HSO
  cases hv : sumsOk n f m g
  · have HN := hide (fun w' hb => sums_no (w := w) (w' := w') hv hb)
    rw [hv] at HS
    clear hv
    go_enter Try.func16, Try.ntmps16
    go_wp2_with fail
    refine (HD.out).mono ?_
    rintro e _ ⟨rfl, rfl⟩
    go_wp2_with fail
    refine (HS.out).mono ?_
    rintro e w1 ⟨rfl, hb1⟩
    go_wp2_with fail
    go_ret
    exact HN.out _ hb1
  have hb0 := sumsOk_true.1 hv
  have hm12 := hb0.2.2.1
  have HSN := hide (show sumsN n f m g = m by simp [sumsN, hv])
  have HST := hide (fun j (hj : j < m) => sums_set hv hj)
  rw [hv] at HS
  clear hv hb0
  have hmk := run_make0 (P := Try.prog) 22 3 (.int .i64 0) 8 Try.underlying22 info_int rfl .i64 .i64 m (by omega) (by omega)
  go_enter Try.func16, Try.ntmps16
  go_wp2_with fail
  refine (HD.out).mono ?_
  rintro e _ ⟨rfl, rfl⟩
  go_wp2_with fail
  refine (HS.out).mono ?_
  rintro e w0 ⟨rfl, hb1⟩
  have HBW := hide hb1
  have hz0 : w.heap.size ≤ w0.heap.size := hb1.size
  clear hb1
  go_wp2_with fail
  clear hmk
  go_loopw [5, 31] (fun v i wr => ∃ (k : Nat) (A' : Option Addr) (c' : Nat), k ≤ m ∧ i = .int .i64 k ∧ v = .slice A' k c' ∧ Row wr w.heap.size A' k c' (sumsL n f g k) ∧ Below w.heap.size w wr) (fun _ i _ => m - (intOf i).toNat)
  case atStart => exact ⟨0, _, _, by omega, rfl, rfl, Row.emptyAt rfl m _ hz0 (by omega), HBW.out.alloc (by omega) _⟩
  case round =>
    obtain ⟨k, A', c', hk, rfl, rfl, hrow, hb⟩ := hrel
    have HR := hide hrow
    have hz := hb.size
    clear hrow
    by_cases hlt : k < m
    · obtain ⟨bs, os, rfl, hbs, hcs⟩ := H2.out (by omega)
      have hck := (hb.cell (p := ⟨bs, os + k, none⟩) hbs).trans (hcs k hlt)
      clear hcs
      have hlb : bs < wr.heap.size := by omega
      obtain ⟨s, hs1, hs2⟩ := HST.out k hlt
      have HSF := hide (show sumsF n f g k = sx s f n by rw [sumsF, hs1, Int.toNat_natCast])
      rw [hs1] at hck
      clear hs1
      go_wp2_with fail
      go_loop [8, 37] (fun v i => ∃ j : Nat, j ≤ n ∧ i = .int .i64 j ∧ v = .int .i64 (sx s f j)) (fun _ i => n - (intOf i).toNat)
      case atStart => exact ⟨0, by omega, rfl, rfl⟩
      case round =>
        obtain ⟨j, hj, rfl, rfl⟩ := hrel
        by_cases hjn : j < n
        · obtain ⟨bf, of, rfl, hbf, hcf⟩ := H1.out (by omega)
          have hcj := (hb.cell (p := ⟨bf, of + j, none⟩) hbf).trans (hcf j hjn)
          clear hcf
          have HX := hide (show sx s f (j + 1) = if bt s j then bits .xor .i64 (sx s f j) (f j) else sx s f j from rfl)
          generalize hsx : sx s f j = y at *
          clear hsx
          cases hbt : bt s j
          · rw [hbt] at HX
            obtain ⟨f1, f2⟩ := bt_f (show s ≤ 9223372036854775807 by omega) hbt
            clear hbt
            go_wp2_with fail
            go_round
            case rel => exact ⟨j + 1, by omega, by go_num, by rw [HX.out]; rfl⟩
            case measure => simp [intOf]; omega
          · rw [hbt] at HX
            obtain ⟨f1, f2⟩ := bt_t (show s ≤ 9223372036854775807 by omega) hbt
            clear hbt
            go_wp2_with fail
            go_round
            case rel => exact ⟨j + 1, by omega, by go_num, by rw [HX.out]; rfl⟩
            case measure => simp [intOf]; omega
        · obtain rfl : j = n := by omega
          go_wp2_with (at_builtin; refine push_int rfl _ _ rfl _ rfl HR.out (sx s f j) _ rfl (by omega) hz ?_; intro A2 c2 w2 hr2 hb2 hg2 hat2; have HF := hide (show _ ∧ _ from ⟨hr2, hb.trans (hb2.mono (by omega))⟩); clear hr2 hb2 hg2 hat2)
          go_roundw
          case rel => first | exact ⟨k + 1, A2, c2, by omega, by go_num, rfl, by rw [sumsL_succ, HSF.out]; exact HF.out.1, HF.out.2⟩ | ((repeat apply Exists.intro); exact ⟨⟨k + 1, A2, c2, by omega, by go_num, rfl, by rw [sumsL_succ, HSF.out]; exact HF.out.1, HF.out.2⟩, rfl⟩)
          case measure => simp [intOf]; omega
    · obtain rfl : k = m := by omega
      go_wp2_with fail
      go_ret
      exact ⟨_, _, by rw [HSN.out]; rfl, by rw [HSN.out]; exact HR.out, hb⟩

end Go.Proofs.Ytkalecdjcdgodaa
