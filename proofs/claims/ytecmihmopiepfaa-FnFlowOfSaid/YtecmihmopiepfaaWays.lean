/-
  Copies of rows; the first way, the program's and the reference's. Conditions: the net can be read.
-/
import Derived.Test.YtecmihmopiepfaaFlowPlain
import Derived.Test.YtecmihmopiepfaaOwn4
import Derived.Test.YtecmihmopiepfaaSlices
import Derived.WalkSpells
namespace Go.Proofs.Ytecmihmopiepfaa
open Go.RowKit

/-- the rows of a table are those of a matrix -/
def Copied (R : List Sl) (n : Nat) (L : Nat → Nat) (M : Nat → Nat → Int) : Prop := R.map Sl.xs = (List.range n).map fun i => listOf (L i) (M i)
theorem Copied.nil (L : Nat → Nat) (M : Nat → Nat → Int) : Copied [] 0 L M := rfl
theorem Copied.push {R : List Sl} {n : Nat} {L : Nat → Nat} {M : Nat → Nat → Int} {A : Option Addr} {c : Nat} (h : Copied R n L M) : Copied (R ++ [⟨A, c, listOf (L n) (M n)⟩]) (n + 1) L M := by
  unfold Copied at h ⊢
  rw [List.map_append, h, List.range_succ, List.map_append]; rfl
theorem Copied.len {R : List Sl} {n : Nat} {L : Nat → Nat} {M : Nat → Nat → Int} (h : Copied R n L M) : R.length = n := by
  have := congrArg List.length h
  simpa using this
theorem Copied.at_ {R : List Sl} {n : Nat} {L : Nat → Nat} {M : Nat → Nat → Int} (h : Copied R n L M) {i : Nat} {r : Sl} (hr : R[i]? = some r) : i < n ∧ r.xs = listOf (L i) (M i) := by
  have hi : i < R.length := by
    rcases Nat.lt_or_ge i R.length with h1 | h1
    · exact h1
    · rw [List.getElem?_eq_none h1] at hr; cases hr
  have hn : i < n := by rw [← h.len]; exact hi
  have := congrArg (·[i]?) h
  simp [hr, hn] at this
  exact ⟨hn, this⟩

set_option maxHeartbeats 1000000 in
theorem copyRows_any (A : Option Addr) (n c : Nat) (L : Nat → Nat) (M : Nat → Nat → Int) (w : World) (hn : n ≤ 1000) (hL : ∀ i, i < n → 1 ≤ L i ∧ L i ≤ 1000) (h : Mat w w.heap.size A n L M) :
    Calls Try.prog 57 #[.slice A n c] w fun e w' => ∃ A' c' R, e = .returned (.slice A' n c') ∧ (TabD w' w.heap.size w'.heap.size A' n c' R ∧ Copied R n L M) ∧ Below w.heap.size w w' := by
  have Hh := hide h
  have HL := hide hL
  clear h hL
  go_enter Try.func57, Try.ntmps57
  go_wp2_with fail
  go_loopw [3, 4] (fun v i wr => ∃ (k : Nat) (A' : Option Addr) (c' : Nat) (R : List Sl), k ≤ n ∧ i = .int .i64 k ∧ v = .slice A' k c' ∧ TabD wr w.heap.size wr.heap.size A' k c' R ∧ Copied R k L M ∧ Below w.heap.size w wr) (fun _ i _ => n - (intOf i).toNat)
  case atStart => exact ⟨0, _, _, [], by omega, rfl, rfl, TabD.empty0 0 rfl (Nat.le_refl _), Copied.nil _ _, by go_grown⟩
  case round =>
    obtain ⟨k, A', c', R, hk, rfl, rfl, ht, hcp, hb⟩ := hrel
    have HT := hide ht
    have HC := hide hcp
    have hz := hb.size
    clear ht hcp
    by_cases hlt : k < n
    · obtain ⟨b, off, rfl, hbl, hc⟩ := Hh.out (by omega)
      obtain ⟨R1, C1, e1, e2⟩ := hc k hlt
      have hck := (hb.cell (p := ⟨b, off + k, none⟩) hbl).trans e1
      have hbl2 : b < wr.heap.size := by omega
      obtain ⟨l1, l2⟩ := HL.out k hlt
      have HI := hide (show Ints (wr.alloc (.cells #[] 3)) w.heap.size R1 (L k) (M k) from e2.keep (hb.alloc (by omega) _) (Nat.le_refl _))
      have HP := hide (fun (A : Option Addr) (c : Nat) => HC.out.push (A := A) (c := c))
      generalize hlk : L k = lk at *
      have HLK := hide hlk
      clear hc e1 e2 hlk
      go_wp2_with (first | (at_builtin; refine push_ints rfl _ _ rfl [] rfl (Row.lit (cs := #[]) (xs := []) (n := 0) (base := wr.heap.size) rfl rfl (Nat.le_refl _)) (M k) HI.out (by omega) rfl (by omega) (by simp) ?_; intro A2 c2 w2 hr2 hb2 hg2; rw [Nat.zero_add] at hr2; rw [List.nil_append] at hr2; rw [Nat.zero_add]; have hz2 : wr.heap.size + 1 ≤ w2.heap.size := (by have := hg2.size; simpa using this); have HF := hide (show Row w2 wr.heap.size A2 lk c2 (listOf lk (M k)) ∧ Below wr.heap.size wr w2 from ⟨hr2, ((Below.refl _ _).alloc (Nat.le_refl _) _).trans hb2⟩); clear hr2 hb2 hg2) | (at_builtin; refine push_row rfl _ _ rfl R rfl (HT.out.keep HF.out.2).tab A2 lk c2 (listOf lk (M k)) (HF.out.1.mono hz) _ rfl (by omega) (by omega) ?_; intro A3 c3 w3 ht3 hb3 hg3 hat3; have hz3 := hb3.size; have HG := hide (show _ ∧ _ from ⟨(HT.out.keep HF.out.2).push (top' := w3.heap.size) HF.out.1 ht3 (by omega) (fun q hq => by have := (HF.out.1.blk q (by rw [ownBlock_slice]; exact hq)).2; omega), (hb.trans (HF.out.2.mono hz)).trans (hb3.mono (by omega))⟩); clear ht3 hb3 hg3 hat3))
      go_roundw
      case rel => first | exact ⟨k + 1, _, _, _, by omega, by go_num, rfl, HG.out.1, by have := HP.out A2 c2; exact this, HG.out.2⟩ | ((repeat apply Exists.intro); exact ⟨⟨k + 1, _, _, _, by omega, by go_num, rfl, HG.out.1, by have := HP.out A2 c2; exact this, HG.out.2⟩, rfl⟩)
      case measure => simp [intOf]; omega
    · obtain rfl : k = n := by omega
      go_wp2_with fail
      go_ret
      exact ⟨_, _, _, rfl, ⟨HT.out, HC.out⟩, hb⟩

/-- a list of points, as it can be read -/
def gF (g : List Nat) (i : Nat) : Int := (g.getD i 0 : Nat)
/-- a list of m numbers in a block from lo on -/
def GI (w : World) (lo : Nat) (G : Option Addr) (m : Nat) (f : Nat → Int) : Prop := ∃ b off, G = some ⟨b, off, none⟩ ∧ lo ≤ b ∧ b < w.heap.size ∧ ∀ i, i < m → w.cell? ⟨b, off + i, none⟩ = some (.int .i64 (f i))
theorem GI.ints {w : World} {lo m : Nat} {G : Option Addr} {f : Nat → Int} (h : GI w lo G m f) : Ints w w.heap.size G m f := by
  obtain ⟨b, off, e, _, h2, h3⟩ := h
  exact fun _ => ⟨b, off, e, h2, h3⟩
theorem GI.keep {w w' : World} {lo m : Nat} {G : Option Addr} {f : Nat → Int} (h : GI w lo G m f) (hb : Below w.heap.size w w') : GI w' lo G m f := by
  obtain ⟨b, off, e, h1, h2, h3⟩ := h
  exact ⟨b, off, e, h1, Nat.lt_of_lt_of_le h2 hb.size, fun i hi => (hb.cell (p := ⟨b, off + i, none⟩) h2).trans (h3 i hi)⟩
theorem GI.mono {w : World} {lo lo' m : Nat} {G : Option Addr} {f : Nat → Int} (h : GI w lo G m f) (hl : lo' ≤ lo) : GI w lo' G m f := by
  obtain ⟨b, off, e, h1, h2, h3⟩ := h
  exact ⟨b, off, e, by omega, h2, h3⟩
theorem GI.congr {w : World} {lo m : Nat} {G : Option Addr} {f g : Nat → Int} (h : GI w lo G m f) (hfg : ∀ i, i < m → f i = g i) : GI w lo G m g := by
  obtain ⟨b, off, e, h1, h2, h3⟩ := h
  exact ⟨b, off, e, h1, h2, fun i hi => by rw [h3 i hi, hfg i hi]⟩
theorem GI.of_row {w : World} {base n c : Nat} {A : Option Addr} {xs : List Int} (h : Row w base A n c xs) (hn : 0 < n) : GI w base A n (fun i => xs.getD i 0) := by
  rcases h.form with ⟨_, h0, _⟩ | ⟨g, rfl, h1, h2, h3⟩
  · omega
  · refine ⟨g, 0, rfl, h1, h2, fun i hi => ?_⟩
    obtain ⟨b, e, _, _, hc, _⟩ := h.at_ hi
    injection e with e
    injection e with e
    subst e
    rw [Nat.zero_add]
    exact hc
/-- what a search for a way gives -/
def WayPost (l : List Nat) (lo : Nat) (w : World) (e : Ending) (w' : World) : Prop :=
  ∃ A' c', e = .returned (.slice A' l.length c') ∧ ((l = [] ∧ A' = none ∧ c' = 0) ∨ (l ≠ [] ∧ (∃ a, A' = some a) ∧ GI w' lo A' l.length (gF l))) ∧ Below w.heap.size w w'
theorem hasB_mem {g : List Nat} {b : Nat} : hasB g.length (gF g) (b : Int) = decide (b ∈ g) := by
  rw [Bool.eq_iff_iff, hasB_true, decide_eq_true_eq]
  constructor
  · rintro ⟨i, hi, h⟩
    simp only [gF, List.getD, List.getElem?_eq_getElem hi, Option.getD_some] at h
    have : g[i] = b := by exact_mod_cast h
    rw [← this]; exact List.getElem_mem hi
  · intro h
    obtain ⟨i, hi, e⟩ := List.mem_iff_getElem.1 h
    exact ⟨i, hi, by simp [gF, List.getD, List.getElem?_eq_getElem hi, e]⟩
theorem listOf_snoc {g : List Nat} {b i : Nat} (hi : i < (g ++ [b]).length) : (listOf g.length (gF g) ++ [(b : Int)]).getD i 0 = gF (g ++ [b]) i := by
  simp only [List.length_append, List.length_singleton] at hi
  by_cases h : i < g.length
  · rw [List.getD, List.getElem?_append_left (by rw [listOf_len]; exact h), listOf_get _ h]
    simp only [Option.getD_some, gF]
    rw [getD_snoc_lt h]
  · have e : i = g.length := by omega
    subst e
    simp [gF, List.getD, listOf_len]

theorem wayF_go {n to k : Nat} {C : Nat → Nat → Int} {g : List Nat} (h : lastN g ≠ to) : wayF n to C (k + 1) g = firstW (fun b => if b ∈ g ∨ C (lastN g) b ≤ 0 then [] else wayF n to C k (g ++ [b])) n := by
  rw [wayF, if_neg h]

set_option maxHeartbeats 2000000 in
theorem wayI_any (n to : Nat) (C : Nat → Nat → Int) (hn : 2 ≤ n ∧ n ≤ 6) : ∀ (k : Nat) (g : List Nat) (A G : Option Addr) (c j e lo : Nat) (w : World), lo ≤ w.heap.size → g.length = j + 1 → g.length + k = n + 1 → Smp n C g → Mat w w.heap.size A n (fun _ => n) C → GI w lo G (j + 1) (gF g) →
    Calls Try.prog 54 #[.slice A n c, .slice G (j + 1) e, .int .i64 to] w (WayPost (wayF n to C k g) lo w) := by
  intro k
  induction k with
  | zero => intro g A G c j e lo w h0 h1 h2 h3; have := h3.len.2; omega
  | succ k ih =>
    intro g A G c j e lo w hlw hj hk hs hA hG
    have hat := hs.at_lt (i := j) (by omega)
    have hlast : g.getD j 0 = lastN g := by rw [lastN, hj]; rfl
    rw [hlast] at hat
    have HG := hide hG.ints
    have HGI0 := hide hG
    have HA := hide hA
    have HJ := hide hj
    have HS := hide hs
    obtain ⟨bg, og, rfl, hlo, hbg, hcg⟩ := hG
    have hcj : w.cell? ⟨bg, og + j, none⟩ = some (.int .i64 (lastN g : Nat)) := by rw [hcg j (by omega), gF, hlast]
    have hjn : j < n := by have := hs.len.2; omega
    clear hcg hA hs hlast
    by_cases ht : lastN g = to
    · have HW := hide (show wayF n to C (k + 1) g = g by rw [wayF, if_pos ht])
      have HL := hide (show g ≠ [] from HS.out.ne)
      rw [ht] at hcj
      clear ih ht
      clear hj
      go_enter Try.func54, Try.ntmps54
      go_wp2_with fail
      go_ret
      rw [HW.out]
      refine ⟨_, _, by rw [HJ.out]; rfl, .inr ⟨HL.out, ⟨_, rfl⟩, ?_⟩, by go_grown⟩
      rw [HJ.out]
      exact HGI0.out
    · have hne : ((lastN g : Nat) : Int) ≠ (to : Nat) := by intro h; exact ht (by exact_mod_cast h)
      have hne' : (((lastN g : Nat) : Int) == (to : Nat)) = false := by simpa using hne
      have HW := hide (wayF_go (n := n) (k := k) (C := C) ht)
      have HAT := hide (show lastN g = lastN g from rfl)
      obtain ⟨ba, oa, rfl, hba, hca⟩ := HA.out (by omega)
      obtain ⟨R1, C1, f1, f2⟩ := hca (lastN g) hat
      have F2 := hide (f2)
      have HIH := hide ih
      clear hca f2 ih ht hne hj
      have HNX := hide (fun b (hb : b < n) (hm : b ∉ g) (hc : 0 < C (lastN g) b) => HS.out.snoc hb hm hc)
      generalize lastN g = at_ at *
      go_enter Try.func54, Try.ntmps54
      go_wp2_with fail
      go_loopw [26] (fun i wr => ∃ b : Nat, b ≤ n ∧ i = .int .i64 b ∧ (∀ x, x < b → (if x ∈ g ∨ C at_ x ≤ 0 then [] else wayF n to C k (g ++ [x])) = []) ∧ Below w.heap.size w wr) (fun i _ => n - (intOf i).toNat)
      case atStart => exact ⟨0, by omega, rfl, by simp, Below.refl _ _⟩
      case round =>
        obtain ⟨b, hb, rfl, hall, hbw⟩ := hrel
        have Hall := hide hall
        have hz := hbw.size
        clear hall
        by_cases hlt : b < n
        · obtain ⟨rb, ro, rfl, hrb, hrc⟩ := F2.out (by omega)
          have hcc := (hbw.cell (p := ⟨rb, ro + b, none⟩) hrb).trans (hrc b hlt)
          clear hrc
          have stay : ∀ l, Hid ((if b ∈ g ∨ C at_ b ≤ 0 then [] else wayF n to C k (g ++ [b])) = l) → l = [] → Hid (∀ x, x < b + 1 → (if x ∈ g ∨ C at_ x ≤ 0 then [] else wayF n to C k (g ++ [x])) = []) := fun l h1 h2 => hide (fun x hx => by
            by_cases e : x = b
            · subst e; exact h1.out.trans h2
            · exact Hall.out x (by omega))
          by_cases hc : C at_ b ≤ 0
          · have HST := stay [] (hide (by rw [if_pos (.inr hc)])) rfl
            clear stay
            generalize C at_ b = y at *
            go_wp2_with fail
            go_roundw
            case rel => exact ⟨b + 1, by omega, by go_num, HST.out, hbw⟩
            case measure => simp [intOf]; omega
          · have hcpos : 0 < C at_ b := by omega
            have HCT := hide (slContains_any (some ⟨bg, og, none⟩) (j + 1) e (gF g) (b : Int) wr (by omega) (HG.out.keep hbw hz))
            by_cases hm : b ∈ g
            · have HST := stay [] (hide (by rw [if_pos (.inl hm)])) rfl
              rw [show hasB (j + 1) (gF g) (b : Int) = true by rw [← HJ.out, hasB_mem]; simpa using hm] at HCT
              clear stay hm
              clear hc
              go_wp2_with fail
              refine (HCT.out).mono ?_
              rintro e' _ ⟨rfl, rfl⟩
              go_wp2_with fail
              go_roundw
              case rel => exact ⟨b + 1, by omega, by go_num, HST.out, hbw⟩
              case measure => simp [intOf]; omega
            · rw [show hasB (j + 1) (gF g) (b : Int) = false by rw [← HJ.out, hasB_mem]; simpa using hm] at HCT
              have HSM := hide (HNX.out b hlt hm hcpos)
              have HE := hide (show (if b ∈ g ∨ C at_ b ≤ 0 then [] else wayF n to C k (g ++ [b])) = wayF n to C k (g ++ [b]) by rw [if_neg (by rw [not_or]; exact ⟨hm, hc⟩)])
              have HST := hide (fun h => (stay _ HE h).out)
              have HFW := hide (fun (h : wayF n to C k (g ++ [b]) ≠ []) => (HW.out.trans (firstW_at (b := b) Hall.out (by rw [HE.out]; exact h) hlt)).trans HE.out)
              have HCL := hide (slClone_any (some ⟨bg, og, none⟩) (j + 1) e (gF g) wr (by omega) (HG.out.keep hbw hz))
              clear stay hm
              clear hc
              go_wp2_with fail
              refine (HCT.out).mono ?_
              rintro e' _ ⟨rfl, rfl⟩
              go_wp2_with fail
              refine (HCL.out).mono ?_
              rintro e' w1 ⟨A1, c1, rfl, hr1, hb1⟩
              have HR1 := hide hr1
              have hz1 := hb1.size
              clear hr1
              go_wp2_with (at_builtin; refine push_int rfl _ _ rfl _ rfl HR1.out (b : Int) _ rfl (by omega) (by omega) ?_; intro A2 c2 w2 hr2 hb2 hg2 hat2; have hz2 := hb2.size; have HR2 := hide hr2; have HB2 := hide (show Below w.heap.size w w2 from (hbw.trans (hb1.mono hz)).trans (hb2.mono hz)); clear hr2 hb2 hg2 hat2)
              have HII := hide (show GI w2 lo A2 (j + 1 + 1) (gF (g ++ [b])) from ((GI.of_row HR2.out (by omega)).mono (by omega)).congr (fun i hi => by
                rw [← HJ.out]
                exact listOf_snoc (by simp [HJ.out]; omega)))
              refine (HIH.out (g ++ [b]) _ A2 c (j + 1) c2 lo w2 (by omega) (by simp [HJ.out]) (by simp; omega) HSM.out (HA.out.keep HB2.out HB2.out.size) HII.out).mono ?_
              rintro e' w3 ⟨A3, c3, rfl, hor, hb3⟩
              have HB3 := hide (HB2.out.trans (hb3.mono HB2.out.size))
              generalize hl : wayF n to C k (g ++ [b]) = l at *
              rcases hor with ⟨rfl, rfl, rfl⟩ | ⟨hl1, ⟨a3, rfl⟩, hi3⟩
              · have HST2 := hide (HST.out rfl)
                have hnn := fun (W : World) => run_neq_slice_nil_any (P := Try.prog) W 26 3 none 0 0 0 0 Try.underlying26
                clear hb3 hl
                go_wp2_with fail
                go_roundw
                case rel => exact ⟨b + 1, by omega, by go_num, HST2.out, HB3.out⟩
                case measure => simp [intOf]; omega
              · have HF2 := hide (HFW.out hl1)
                have hnn := fun (W : World) => run_neq_slice_nil_any (P := Try.prog) W 26 3 (some a3) l.length c3 0 0 Try.underlying26
                have HI3 := hide hi3
                have HL1 := hide hl1
                clear hi3 hb3 hl hl1
                go_wp2_with fail
                go_ret
                rw [HF2.out]
                exact ⟨_, _, rfl, .inr ⟨HL1.out, ⟨_, rfl⟩, HI3.out⟩, HB3.out⟩
        · obtain rfl : b = n := by omega
          have HN := hide (HW.out.trans (firstW_nil Hall.out))
          go_wp2_with fail
          go_ret
          rw [HN.out]
          exact ⟨none, 0, rfl, .inl ⟨rfl, rfl, rfl⟩, hbw⟩
end Go.Proofs.Ytecmihmopiepfaa
