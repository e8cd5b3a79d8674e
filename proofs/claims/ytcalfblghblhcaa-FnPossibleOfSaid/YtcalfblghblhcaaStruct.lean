/-
  The law's helpers over schemes and codes: sizes, copies, comparisons, marks. Conditions: those that each contract names.
-/
import Derived.Test.YtcalfblghblhcaaThing
namespace Go.Proofs.Ytcalfblghblhcaa
open Go.RowKit

theorem OnlyR.of_below {R : Nat → Option Addr} {n : Nat} {w W w' : World} (hb : Below w.heap.size w W) (h : OnlyR R n W w') : ∀ k, k < w.heap.size → (∀ i, i < n → (R i).map (·.block) ≠ some k) → w'.heap[k]? = w.heap[k]? :=
  fun k hk hh => (h.block k (Nat.lt_of_lt_of_le hk hb.size) hh).trans (hb.block k hk)

/-- a scheme's rows and owners, all in blocks of their own -/
def ST (w : World) (lo hi : Nat) (A : Option Addr) (n : Nat) (L : Nat → Nat) (M : Nat → Nat → Int) (O : Option Addr) (m : Nat) (f : Nat → Int) : Prop :=
  ∃ R, MTR w lo hi A n L M R ∧ IT w lo hi O m f ∧ ∀ i, i < n → R i = none ∨ R i ≠ O
theorem ST.keep {w w' : World} {lo hi l h : Nat} {A O : Option Addr} {n m : Nat} {L : Nat → Nat} {M : Nat → Nat → Int} {f : Nat → Int} (t : ST w lo hi A n L M O m f) (ho : Outside l h w w') (hs : hi ≤ l ∨ h ≤ lo) : ST w' lo hi A n L M O m f := by
  obtain ⟨R, h1, h2, h3⟩ := t
  exact ⟨R, h1.keep ho hs, h2.keep ho hs, h3⟩
theorem ST.keepB {w w' : World} {lo hi : Nat} {A O : Option Addr} {n m : Nat} {L : Nat → Nat} {M : Nat → Nat → Int} {f : Nat → Int} (t : ST w lo hi A n L M O m f) (ho : Below w.heap.size w w') : ST w' lo hi A n L M O m f := by
  obtain ⟨R, h1, h2, h3⟩ := t
  exact ⟨R, h1.keepB ho, h2.keepB ho, h3⟩
theorem ST.mono {w : World} {lo hi lo' hi' : Nat} {A O : Option Addr} {n m : Nat} {L : Nat → Nat} {M : Nat → Nat → Int} {f : Nat → Int} (t : ST w lo hi A n L M O m f) (h1 : lo' ≤ lo) (h2 : hi ≤ hi') : ST w lo' hi' A n L M O m f := by
  obtain ⟨R, a1, a2, a3⟩ := t
  exact ⟨R, a1.mono h1 h2, a2.mono h1 h2, a3⟩
theorem ST.mat {w : World} {lo hi : Nat} {A O : Option Addr} {n m : Nat} {L : Nat → Nat} {M : Nat → Nat → Int} {f : Nat → Int} (t : ST w lo hi A n L M O m f) : Mat w w.heap.size A n L M := by obtain ⟨R, h1, _⟩ := t; exact h1.mat
theorem ST.ints {w : World} {lo hi : Nat} {A O : Option Addr} {n m : Nat} {L : Nat → Nat} {M : Nat → Nat → Int} {f : Nat → Int} (t : ST w lo hi A n L M O m f) : Ints w w.heap.size O m f := by obtain ⟨R, _, h2, _⟩ := t; exact h2.ints
theorem ST.nil (w : World) (lo hi : Nat) (L : Nat → Nat) (M : Nat → Nat → Int) (f : Nat → Int) : ST w lo hi none 0 L M none 0 f := ⟨fun _ => none, .inl ⟨rfl, rfl⟩, .inl ⟨rfl, rfl⟩, fun _ _ => .inl rfl⟩

theorem eqScheme_any (p : Int) (A B O O2 : Option Addr) (n c d m e e2 : Nat) (L : Nat → Nat) (M : Nat → Nat → Int) (f : Nat → Int) (w : World) (hn : n ≤ 9223372036854775807) (hL : ∀ i, i < n → L i ≤ 9223372036854775807) (hm : m ≤ 9223372036854775807)
    (h1 : Mat w w.heap.size A n L M) (h2 : Mat w w.heap.size B n L M) (k1 : Ints w w.heap.size O m f) (k2 : Ints w w.heap.size O2 m f) :
    Calls Try.prog 16 #[.agg #[.int .i64 p, .slice A n c, .slice O m e], .agg #[.int .i64 p, .slice B n d, .slice O2 m e2]] w fun e w' => e = .returned (.bool true) ∧ Below w.heap.size w w' := by
  have H1 := hide (fun (W : World) (hb : Below w.heap.size w W) => h1.keep hb hb.size)
  have H2 := hide (fun (W : World) (hb : Below w.heap.size w W) => h2.keep hb hb.size)
  have HL := hide hL
  have ep : (p != p) = false := by simp
  clear h1 h2 hL
  have K1 := hide (fun (W : World) (hb : Below w.heap.size w W) => k1.keep hb hb.size)
  have K2 := hide (fun (W : World) (hb : Below w.heap.size w W) => k2.keep hb hb.size)
  clear k1 k2
  go_enter Try.func16, Try.ntmps16
  go_wp2_with fail
  refine (eqIntSS_any A B n n c d L L M M _ hn hn HL.out HL.out (H1.out _ (by go_grown)) (H2.out _ (by go_grown))).mono ?_
  rintro e _ ⟨rfl, q, rfl⟩
  rw [eqMB_self]
  go_wp2_with fail
  refine (eqIntS_any O O2 m m _ _ f f _ hm hm (K1.out _ (below_drewN (by go_grown) _)) (K2.out _ (below_drewN (by go_grown) _))).mono ?_
  rintro e _ ⟨rfl, q2, rfl⟩
  rw [eqB_self]
  go_wp2_with fail
  go_ret
  exact ⟨rfl, below_drewN (by go_grown) _⟩

theorem markScheme_any (p : Int) (A O : Option Addr) (n c m e lo hi : Nat) (L : Nat → Nat) (M : Nat → Nat → Int) (f : Nat → Int) (k : Int) (w : World) (hn : n ≤ 1048576) (hL : ∀ i, i < n → L i ≤ 1048576) (hm : m ≤ 1048576) (hk : 0 ≤ k ∧ k ≤ 1099511627776) (h : ST w lo hi A n L M O m f) :
    Calls Try.prog 24 #[.agg #[.int .i64 p, .slice A n c, .slice O m e], .int .i64 k] w fun e w' => e = .returned (.int .i64 (k + offs L n + m)) ∧ ST w' lo hi A n L (fun i j => k + offs L i + j) O m (fun i => k + offs L n + i) ∧ Outside lo hi w w' := by
  obtain ⟨R, t1, t2, t3⟩ := h
  have HL := hide hL
  have HO : offs L n ≤ 1099511627776 := by
    have h1 := offs_le hL n (Nat.le_refl n)
    omega
  have H1 := hide (fun (W : World) (hb : Below w.heap.size w W) => t1.keepB hb)
  have T1 := hide t1
  clear hL t1
  have T2 := hide t2
  have T3 := hide t3
  clear t2 t3
  go_enter Try.func24, Try.ntmps24
  go_wp2_with fail
  refine (markIntSS_any A n c lo hi L M R k _ (by omega) HL.out hk (H1.out _ (by go_grown))).mono ?_
  rintro e w1 ⟨rfl, m1, o1⟩
  have x1 : Outside lo hi w w1 := by
    have o2 := o1.outside (H1.out _ (by go_grown))
    exact ⟨o2.os, o2.tape, o2.output, Nat.le_trans (by simp) o2.size, fun b hb hh => (o2.block b (by simp; omega) hh).trans (Below.heap_alloc w _ b hb)⟩
  have M1 := hide m1
  have X1 := hide x1
  have hcell : w1.heap[w.heap.size]? = some (.cells #[.int .i64 p, .slice A n c, .slice O m e] 29 (0, 0)) := by
    refine (o1.block _ (by simp) (fun i hi e => ?_)).trans (heap_alloc_new w _)
    rcases T1.out with ⟨_, h0⟩ | ⟨b, N, g, C, _, hb, hr, hn, hg, hd⟩
    · omega
    · rcases (hg i hi).2 with ⟨e1, _⟩ | ⟨b', N', g', e1, hb', hr', _⟩
      · rw [e1] at e; cases e
      · rw [e1] at e
        have : b' = w.heap.size := by simpa using e
        have := hr'.lt
        omega
  have hc2 : w1.cell? ⟨w.heap.size, 2, none⟩ = some (.slice O m e) := Blk.at_ (i := 2) hcell rfl
  have t2' : IT w1 lo hi O m f := by
    rcases T2.out with t | ⟨b, N, g, e, hb, hr, hn, hg⟩
    · exact .inl t
    · refine .inr ⟨b, N, g, e, hb, hr.of_block ((o1.block b (by have := hr.lt; simp; omega) (fun i hi hh => ?_)).trans (Below.heap_alloc w _ b hr.lt)), hn, hg⟩
      rcases T1.out with ⟨_, h0⟩ | ⟨b1, N1, g1, C1, _, _, _, _, hg1, _⟩
      · omega
      · rcases (hg1 i hi).2 with ⟨e1, _⟩ | ⟨b', N', g', e1, hb', hr', _⟩
        · rw [e1] at hh; cases hh
        · rw [e1] at hh
          have hbb : b' = b := by simpa using hh
          rcases T3.out i hi with h0 | h0
          · rw [e1] at h0; cases h0
          · rw [e1, e, hbb] at h0; exact h0 rfl
  have T2' := hide t2'
  clear m1 o1 x1 t2' hcell
  go_wp2_with fail
  refine (markI_any O m _ lo hi f (k + offs L n) w1 (by omega) (by omega) T2'.out).mono ?_
  rintro e w2 ⟨rfl, m2, o2, z2⟩
  have x2 : Outside lo hi w1 w2 := o2.outside T2'.out
  have X := hide (show Outside lo hi w w2 from ⟨x2.os.trans X1.out.os, x2.tape.trans X1.out.tape, x2.output.trans X1.out.output, Nat.le_trans X1.out.size x2.size, fun b hb hh => (x2.block b (Nat.lt_of_lt_of_le hb X1.out.size) hh).trans (X1.out.block b hb hh)⟩)
  have m1' : MTR w2 lo hi A n L (fun i j => k + offs L i + j) R := by
    have hne : ∀ b, (∀ a, O = some a → a.block ≠ b) → some b ≠ O.map (·.block) := fun b h e => by
      cases O with
      | none => cases e
      | some a => exact h a rfl (by simpa using e.symm)
    rcases M1.out with t | ⟨b, N, g, C, e, hb, hr, hn, hg, hd⟩
    · exact .inl t
    · refine .inr ⟨b, N, g, C, e, hb, hr.of_block (o2.block b hr.lt (hne b fun a ha hab => ?_)), hn, fun i hi => ⟨(hg i hi).1, ?_⟩, hd⟩
      · rcases T2'.out with ⟨h0, _⟩ | ⟨b3, N3, g3, e3, _, hr3, _⟩
        · rw [h0] at ha; cases ha
        · rw [e3] at ha
          injection ha with ha
          subst ha
          dsimp only at hab
          subst hab
          exact absurd (rowIs_type hr3 hr) (by decide)
      · rcases (hg i hi).2 with t | ⟨bi, Ni, gi, ei, hbi, hri, hni, hgi⟩
        · exact .inl t
        · refine .inr ⟨bi, Ni, gi, ei, hbi, hri.of_block (o2.block bi hri.lt (hne bi fun a ha hab => ?_)), hni, hgi⟩
          rcases T2'.out with ⟨h0, _⟩ | ⟨b3, N3, g3, e3, _, hr3, _⟩
          · rw [h0] at ha; cases ha
          · rw [e3] at ha
            injection ha with ha
            subst ha
            dsimp only at hab
            subst hab
            rcases T3.out i hi with h0 | h0
            · rw [ei] at h0; cases h0
            · rw [ei, e3] at h0; exact h0 rfl
  have HF := hide (show ST w2 lo hi A n L (fun i j => k + offs L i + j) O m (fun i => k + offs L n + i) from ⟨R, m1', m2, T3.out⟩)
  clear m1' m2 o2 z2 x2 hc2
  go_wp2_with fail
  go_ret
  exact ⟨rfl, HF.out, X.out⟩

end Go.Proofs.Ytcalfblghblhcaa
