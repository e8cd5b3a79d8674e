/-
  PeelGrid: the program and the reference agree. Conditions: the grid can be read.
-/
import Derived.Test.YtkalecdjcdgodaaPeelI
namespace Go.Proofs.Ytkalecdjcdgodaa
open Go.RowKit

/-- the grid is valid -/
def vGrid (n : Nat) (f : Nat → Int) (cols : Int) : Bool := inR n 1 6 && (inR cols 1 7 && noneB n f (badS cols.toNat))
def pgOk (n : Nat) (f : Nat → Int) (cols br bc : Int) : Bool := vGrid n f cols && (inR br 0 7 && inR bc 0 7)
theorem validGrid_any (A : Option Addr) (n c : Nat) (f : Nat → Int) (cols : Int) (w : World) (hn : n ≤ 9223372036854775807) (h : Ints w w.heap.size A n f) :
    Calls Try.prog 62 #[.slice A n c, .int .i64 cols] w fun e w' => e = .returned (.bool (vGrid n f cols)) ∧ ∃ q, w.drewN q = w' := by
  have H := hide h
  clear h
  cases h1 : inR n 1 6
  · refine calls_bool (a := false) (by simp [vGrid, h1]) ?_
    go_enter Try.func62, Try.ntmps62
    go_wp2_with (first | (go_at_call 56; refine (inRange_any _ _ _ _).mono ?_; rintro e w' ⟨rfl, rfl⟩))
    go_ret
    exact ⟨rfl, 0, rfl⟩
  cases h2 : inR cols 1 7
  · refine calls_bool (a := false) (by simp [vGrid, h1, h2]) ?_
    go_enter Try.func62, Try.ntmps62
    go_wp2_with (first | (go_at_call 56; refine (inRange_any _ _ _ _).mono ?_; rintro e w' ⟨rfl, rfl⟩))
    go_ret
    exact ⟨rfl, 0, rfl⟩
  have hc := inR_true.1 h2
  obtain ⟨k, rfl⟩ := Int.eq_ofNat_of_zero_le (show 0 ≤ cols by omega)
  have hk : 1 ≤ k ∧ k ≤ 7 := by omega
  refine calls_bool (a := noneB n f (badS k)) (by simp [vGrid, h1, h2]) ?_
  have q0 := two_pow_pos k
  have q1 := two_pow_le hk.2
  rw [show (2 : Int) ^ 7 = 128 by decide] at q1
  have HP := hide (fun W => powerS_any k W (by omega))
  have HU := hide (show IntKind.i64.wrap ((2 : Int) ^ k - 1) = 2 ^ k - 1 from IntWalk.i64_in _ (by omega))
  have HBD := hide (show ∀ x, badS k x = !inR x 0 (2 ^ k - 1) from fun _ => rfl)
  go_enter Try.func62, Try.ntmps62
  go_wp2_with (first | (go_at_call 56; refine (inRange_any _ _ _ _).mono ?_; rintro e w' ⟨rfl, rfl⟩))
  go_loopw [5] (fun i wr => ∃ j : Nat, j ≤ n ∧ i = .int .i64 j ∧ (∀ t, t < j → badS k (f t) = false) ∧ ∃ q, wr = w.drewN q) (fun i _ => n - (intOf i).toNat)
  case atStart => exact ⟨0, Nat.zero_le _, rfl, by simp, 0, rfl⟩
  case round =>
    obtain ⟨j, hj, rfl, hall, q, rfl⟩ := hrel
    have Hall := hide hall
    clear hall
    by_cases hlt : j < n
    · obtain ⟨b, off, rfl, hbl, hcc⟩ := H.out (by omega)
      have hck : w.cell? ⟨b, off + j, none⟩ = some (.int .i64 (f j)) := hcc j hlt
      have hck2 : (w.drewN q).cell? ⟨b, off + j, none⟩ = some (.int .i64 (f j)) := hcc j hlt
      clear hcc
      have HNX := hide (show inR (f j) 0 (2 ^ k - 1) = true → ∀ t, t < j + 1 → badS k (f t) = false from fun hh t ht => by
        by_cases e : t = j
        · subst e; rw [HBD.out, hh]; rfl
        · exact Hall.out t (by omega))
      have HBB := hide (show inR (f j) 0 (2 ^ k - 1) = false → noneB n f (badS k) = false from fun hh => noneB_false ⟨j, hlt, by rw [HBD.out, hh]; rfl⟩)
      have hu := HU.out
      generalize f j = x at *
      generalize (2 : Int) ^ k = pw at *
      have hus : pw - 1 = pw - 1 := rfl
      cases hx : inR x 0 (pw - 1)
      · have HX := hide (HBB.out hx)
        go_wp2_with fail
        go_quiet ((first | (go_at_call 64; exact quietL (HP.out _)) | (go_at_call 56; exact quietL (hx ▸ inRange_any _ _ _ _))))
        go_wp2_with fail
        go_ret
        exact ⟨ret_bool HX.out.symm, by first | exact ⟨_, rfl⟩ | exact ⟨_, (World.drewN_drewN _ _ _).symm⟩⟩
      · have HX := hide (HNX.out hx)
        go_wp2_with fail
        go_quiet ((first | (go_at_call 64; exact quietL (HP.out _)) | (go_at_call 56; exact quietL (hx ▸ inRange_any _ _ _ _))))
        go_wp2_with fail
        clear hu
        go_roundw
        case rel => exact ⟨j + 1, by omega, by go_num, HX.out, by first | exact ⟨_, rfl⟩ | exact ⟨_, World.drewN_drewN _ _ _⟩⟩
        case measure => simp [intOf]; omega
    · obtain rfl : j = n := by omega
      have HX := hide (noneB_true.2 Hall.out)
      go_wp2_with fail
      go_ret
      exact ⟨ret_bool HX.out.symm, _, rfl⟩

noncomputable def pgE (n : Nat) (f : Nat → Int) (cols br bc : Int) : Nat → Nat := peelV n cols.toNat br.toNat bc.toNat (fun i => (f i).toNat)
def pgN (n : Nat) (f : Nat → Int) (cols br bc : Int) : Nat := if pgOk n f cols br bc then n else 0
noncomputable def pgF (n : Nat) (f : Nat → Int) (cols br bc : Int) (i : Nat) : Int := ((pgE n f cols br bc i : Nat) : Int)
/-- what PeelGrid gives; where the arguments are as they should be it is the end of the grid -/
def PgPost (n : Nat) (f : Nat → Int) (cols br bc : Int) (w : World) (e : Ending) (w' : World) : Prop :=
  ∃ A c, e = .returned (.slice A (pgN n f cols br bc) c) ∧ IT w' w.heap.size w'.heap.size A (pgN n f cols br bc) (pgF n f cols br bc) ∧ Below w.heap.size w w' ∧ (pgOk n f cols br bc = true → PeelEnd n cols.toNat br.toNat bc.toNat (fun i => (f i).toNat) (pgE n f cols br bc))
theorem pg_no {n : Nat} {f : Nat → Int} {cols br bc : Int} {w w' : World} (h : pgOk n f cols br bc = false) (hb : Below w.heap.size w w') : PgPost n f cols br bc w (.returned (.slice none 0 0)) w' := by
  have : pgN n f cols br bc = 0 := by simp [pgN, h]
  exact ⟨none, 0, by rw [this], by rw [this]; exact IT.nil _ _ _ _, hb, fun h' => by rw [h] at h'; cases h'⟩
theorem pg_parts {n : Nat} {f : Nat → Int} {cols br bc : Int} (h : pgOk n f cols br bc = true) : ∃ k r s : Nat, cols = k ∧ br = r ∧ bc = s ∧ (1 ≤ n ∧ n ≤ 6) ∧ (1 ≤ k ∧ k ≤ 7) ∧ r ≤ 7 ∧ s ≤ 7 ∧ (∀ i, i < n → f i = (((f i).toNat : Nat) : Int) ∧ (f i).toNat < 2 ^ k) ∧ noneB n (fun i => (((f i).toNat : Nat) : Int)) (badS k) = true := by
  simp only [pgOk, vGrid, Bool.and_eq_true] at h
  obtain ⟨⟨h1, h2, h3⟩, h4, h5⟩ := h
  have a1 := inR_true.1 h1
  have a2 := inR_true.1 h2
  have a4 := inR_true.1 h4
  have a5 := inR_true.1 h5
  have key : ∀ i, i < n → f i = (((f i).toNat : Nat) : Int) ∧ (f i).toNat < 2 ^ cols.toNat := fun i hi => by
    have := noneB_true.1 h3 i hi
    simp only [badS, Bool.not_eq_false', inR_true] at this
    have hp : ((2 ^ cols.toNat : Nat) : Int) = (2 : Int) ^ cols.toNat := by push_cast; rfl
    refine ⟨by omega, ?_⟩
    have : ((f i).toNat : Int) < ((2 ^ cols.toNat : Nat) : Int) := by rw [hp]; omega
    exact_mod_cast this
  refine ⟨cols.toNat, br.toNat, bc.toNat, by omega, by omega, by omega, by omega, by omega, by omega, by omega, key, noneB_true.2 fun i hi => ?_⟩
  rw [← (key i hi).1]
  exact noneB_true.1 h3 i hi
theorem pg_yes {n : Nat} {f : Nat → Int} {k r s : Nat} {w w' : World} {E : Nat → Nat} {A : Option Addr} {c0 c : Nat} (h : pgOk n f k r s = true) (hr : Row w' w.heap.size A n c0 (gl n E)) (he : PeelEnd n k r s (fun i => (f i).toNat) E) (hb : Below w.heap.size w w') : PgPost n f k r s w (.returned (.slice A n c)) w' := by
  have e1 : pgN n f k r s = n := by simp [pgN, h]
  refine ⟨A, c, by rw [e1], ?_, hb, fun _ => by rw [pgE]; simpa only [Int.toNat_natCast] using (peelV_end he).2⟩
  rw [e1]
  refine (IT.of_row hr).congr fun i hi => ?_
  rw [gl_at _ hi, pgF, pgE]
  simp only [Int.toNat_natCast]
  rw [(peelV_end he).1 i hi]
theorem pg_128 {n : Nat} {f : Nat → Int} {k : Nat} (hk : k ≤ 7) (h : ∀ i, i < n → (f i).toNat < 2 ^ k) : ∀ i, i < n → (fun i => (f i).toNat) i < 128 := fun i hi => by
  have h1 := h i hi
  have h2 : 2 ^ k ≤ 2 ^ 7 := Nat.pow_le_pow_right (by omega) hk
  show (f i).toNat < 128
  omega

theorem PeelGridS_any (A : Option Addr) (n c : Nat) (f : Nat → Int) (cols br bc : Int) (w : World) (hn : n ≤ 1048576) (h : Ints w w.heap.size A n f) :
    Calls Try.prog 29 #[.slice A n c, .int .i64 cols, .int .i64 br, .int .i64 bc] w (PgPost n f cols br bc w) := by
  have HV := hide (validGrid_any A n c f cols w (by omega) h)
  cases hv : vGrid n f cols
  · have HN := hide (fun w' hb => pg_no (w := w) (w' := w') (show pgOk n f cols br bc = false by rw [pgOk, hv]; rfl) hb)
    rw [hv] at HV
    clear h hv
    go_enter Try.func29, Try.ntmps29
    go_wp2_with fail
    refine (HV.out).mono ?_
    rintro e _ ⟨rfl, q, rfl⟩
    go_wp2_with fail
    go_ret
    exact HN.out _ (below_drewN (Below.refl _ _) _)
  rw [hv] at HV
  have hR := fun (a : Int) (b : Bool) (ha : inR a 0 7 = b) (W : World) => (ha ▸ inRange_any a 0 7 W : Calls Try.prog 56 #[.int .i64 a, .int .i64 0, .int .i64 7] W fun e w' => e = .returned (.bool b) ∧ W = w')
  cases h1 : inR br 0 7
  · have HN := hide (fun w' hb => pg_no (w := w) (w' := w') (show pgOk n f cols br bc = false by rw [pgOk, h1]; simp) hb)
    have H1 := hide (hR br _ h1)
    clear h hv h1 hR
    go_enter Try.func29, Try.ntmps29
    go_wp2_with fail
    refine (HV.out).mono ?_
    rintro e _ ⟨rfl, q, rfl⟩
    go_wp2_with fail
    refine (H1.out _).mono ?_
    rintro e _ ⟨rfl, rfl⟩
    go_wp2_with fail
    go_ret
    exact HN.out _ (below_drewN (Below.refl _ _) _)
  cases h2 : inR bc 0 7
  · have HN := hide (fun w' hb => pg_no (w := w) (w' := w') (show pgOk n f cols br bc = false by rw [pgOk, h2]; simp) hb)
    have H1 := hide (hR br _ h1)
    have H2 := hide (hR bc _ h2)
    clear h hv h1 h2 hR
    go_enter Try.func29, Try.ntmps29
    go_wp2_with fail
    refine (HV.out).mono ?_
    rintro e _ ⟨rfl, q, rfl⟩
    go_wp2_with fail
    refine (H1.out _).mono ?_
    rintro e _ ⟨rfl, rfl⟩
    go_wp2_with fail
    refine (H2.out _).mono ?_
    rintro e _ ⟨rfl, rfl⟩
    go_wp2_with fail
    go_ret
    exact HN.out _ (below_drewN (Below.refl _ _) _)
  have hok : pgOk n f cols br bc = true := by rw [pgOk, hv, h1, h2]; rfl
  have H1 := hide (hR br _ h1)
  have H2 := hide (hR bc _ h2)
  obtain ⟨k, r, s, rfl, rfl, rfl, hn6, hk, hr, hs, hf, _⟩ := pg_parts hok
  have HOK := hide hok
  have HP := hide (fun (W : World) (hb : Below w.heap.size w W) => peelS_any A n c (fun i => (f i).toNat) k r s W hn6 hk hr hs (pg_128 hk.2 (fun i hi => (hf i hi).2)) ((h.keep hb hb.size).congr (fun i hi => (hf i hi).1)))
  clear h hv h1 h2 hR hf hok
  go_enter Try.func29, Try.ntmps29
  go_wp2_with fail
  refine (HV.out).mono ?_
  rintro e _ ⟨rfl, q, rfl⟩
  have HBQ := hide (below_drewN (Below.refl w.heap.size w) q)
  go_wp2_with fail
  refine (H1.out _).mono ?_
  rintro e _ ⟨rfl, rfl⟩
  go_wp2_with fail
  refine (H2.out _).mono ?_
  rintro e _ ⟨rfl, rfl⟩
  go_wp2_with fail
  refine (HP.out _ HBQ.out).mono ?_
  rintro e w2 ⟨A2, c2, E, rfl, ⟨hr2, he⟩, hb2⟩
  have HF := hide (pg_yes (w := w) (c := c2) HOK.out (hr2.mono (show w.heap.size ≤ (w.drewN q).heap.size from Nat.le_refl _)) he (up hb2 HBQ.out HBQ.out.size))
  clear hr2 he hb2
  go_wp2_with fail
  go_ret
  exact HF.out

theorem PeelGridI_any (A : Option Addr) (n c : Nat) (f : Nat → Int) (cols br bc : Int) (w : World) (hn : n ≤ 1048576) (h : Ints w w.heap.size A n f) :
    Calls Try.prog 26 #[.slice A n c, .int .i64 cols, .int .i64 br, .int .i64 bc] w (PgPost n f cols br bc w) := by
  by_cases hok : pgOk n f cols br bc = true
  · obtain ⟨k, r, s, rfl, rfl, rfl, hn6, hk, hr, hs, hf, hb⟩ := pg_parts hok
    refine (peelI_any A n c (fun i => (f i).toNat) k r s w hn6 hk hr hs (pg_128 hk.2 (fun i hi => (hf i hi).2)) hb (h.congr (fun i hi => (hf i hi).1))).mono ?_
    rintro e w2 ⟨A2, c2, E, rfl, ⟨hr2, he⟩, hb2⟩
    exact pg_yes hok hr2 he hb2
  have hno : pgOk n f cols br bc = false := by simpa using hok
  have HN := hide (fun w' hb => pg_no (w := w) (w' := w') hno hb)
  clear hok
  cases h1 : inR n 1 6
  · clear hno h
    go_enter Try.func26, Try.ntmps26
    go_wp2_with (first | (go_at_call 55; refine (within_any _ _ _ _).mono ?_; rintro e w' ⟨rfl, rfl⟩))
    go_ret
    exact HN.out _ (by go_grown)
  cases h2 : inR cols 1 7
  · clear hno h
    go_enter Try.func26, Try.ntmps26
    go_wp2_with (first | (go_at_call 55; refine (within_any _ _ _ _).mono ?_; rintro e w' ⟨rfl, rfl⟩))
    go_ret
    exact HN.out _ (by go_grown)
  cases h3 : inR br 0 7
  · clear hno h
    go_enter Try.func26, Try.ntmps26
    go_wp2_with (first | (go_at_call 55; refine (within_any _ _ _ _).mono ?_; rintro e w' ⟨rfl, rfl⟩))
    go_ret
    exact HN.out _ (by go_grown)
  cases h4 : inR bc 0 7
  · clear hno h
    go_enter Try.func26, Try.ntmps26
    go_wp2_with (first | (go_at_call 55; refine (within_any _ _ _ _).mono ?_; rintro e w' ⟨rfl, rfl⟩))
    go_ret
    exact HN.out _ (by go_grown)
  have hc := inR_true.1 h2
  obtain ⟨k, rfl⟩ := Int.eq_ofNat_of_zero_le (show 0 ≤ cols by omega)
  have hbad : noneB n f (badS k) = false := by
    have := hno
    simp only [pgOk, vGrid, h1, h2, h3, h4, Bool.true_and, Bool.and_true, Int.toNat_natCast] at this
    exact this
  have HCF := hide (pgContains_any k w.heap.size A n c f (w.alloc (.cells #[.int .i64 k] 3)) (by omega) (h.keep ((Below.refl _ _).alloc (Nat.le_refl _) _) (by simp)) (by omega) (by simp))
  rw [hbad] at HCF
  clear h hno hbad
  go_enter Try.func26, Try.ntmps26
  go_wp2_with (first | (go_at_call 55; refine (within_any _ _ _ _).mono ?_; rintro e w' ⟨rfl, rfl⟩))
  refine (HCF.out).mono ?_
  rintro e _ ⟨rfl, rfl⟩
  go_wp2_with fail
  go_ret
  exact HN.out _ (by go_grown)
end Go.Proofs.Ytkalecdjcdgodaa
