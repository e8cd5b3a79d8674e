/-
  GroupsOf, the program's: the least groups that know. Conditions: the scheme can be read.
-/
import Derived.Test.YthafmoofemfdmaaKnowPlain
import Derived.Test.YthafmoofemfdmaaDoesKnow
import Derived.Test.YthafmoofemfdmaaSize
namespace Go.Proofs.Ythafmoofemfdmaa
open Go.RowKit

/-- x is a part of s -/
def subB (s : Nat) (x : Int) : Bool := decide (bits .andNot .i64 x (s : Int) = 0)
def chkB : Bool := (List.range 32).all fun x => (List.range 32).all fun s => subB s (x : Nat) == (x &&& s == x)
theorem chkB_ok : chkB = true := by decide +kernel
theorem subB_nat {x s : Nat} (hx : x < 32) (hs : s < 32) : subB s (x : Nat) = (x &&& s == x) := by
  have h := chkB_ok
  simp only [chkB, List.all_eq_true, List.mem_range, beq_iff_eq] at h
  exact h x hx s hs
theorem least1_any (x : Int) (s B : Nat) (w : World) (hc : w.cell? ⟨B, 0, none⟩ = some (.int .i64 s)) :
    Calls Try.prog 96 #[.int .i64 x, .pointer (some ⟨B, 0, none⟩)] w fun e w' => e = .returned (.bool (subB s x)) ∧ w = w' := by
  go_enter Try.func96, Try.ntmps96
  go_wp2_with fail
  go_ret
  exact ⟨ret_bool (by rw [subB]; first | rfl | simp), rfl⟩
theorem lstIndex_any (s B : Nat) (A : Option Addr) (n c : Nat) (f : Nat → Int) (w : World) (hn : n ≤ 9223372036854775807) (h : Ints w w.heap.size A n f) (hcb : w.cell? ⟨B, 0, none⟩ = some (.int .i64 s)) :
    Calls Try.prog 103 #[.slice A n c, .func (.func 96) #[] #[.pointer (some ⟨B, 0, none⟩)]] w fun e w' => ∃ r : Int, e = .returned (.int .i64 r) ∧ (decide (0 ≤ r) = !noneB n f (subB s)) ∧ w = w' := by
  have H := hide h
  have HC := hide (fun x => least1_any x s B w hcb)
  clear h
  go_enter Try.func103, Try.ntmps103
  go_wp2_with fail
  go_loop [8] (fun i => ∃ k : Nat, k ≤ n ∧ i = .int .i64 k ∧ (∀ j, j < k → (subB s) (f j) = false)) (fun i => n - (intOf i).toNat)
  case atStart => exact ⟨0, Nat.zero_le _, rfl, by simp⟩
  case round =>
    obtain ⟨k, hk, rfl, hall⟩ := hrel
    have Hall := hide hall
    clear hall
    by_cases hlt : k < n
    · obtain ⟨b, off, rfl, hbl, hc⟩ := H.out (by omega)
      have hck := hc k hlt
      clear hc
      cases hx : (subB s) (f k)
      · go_wp2_with fail
        refine (HC.out _).mono ?_
        rintro e w' ⟨rfl, rfl⟩
        rw [hx]
        go_wp2_with fail
        go_round
        case rel => exact ⟨k + 1, by omega, by go_num, fun j hj => by
          by_cases e : j = k
          · subst e; exact hx
          · exact Hall.out j (by omega)⟩
        case measure => simp [intOf]; omega
      · go_wp2_with fail
        refine (HC.out _).mono ?_
        rintro e w' ⟨rfl, rfl⟩
        rw [hx]
        go_wp2_with fail
        go_ret
        exact ⟨k, rfl, by rw [noneB_false ⟨k, hlt, hx⟩]; simp, rfl⟩
    · obtain rfl : k = n := by omega
      go_wp2_with fail
      go_ret
      exact ⟨-1, rfl, by rw [noneB_true.2 Hall.out]; rfl, rfl⟩

theorem lstContains_any (s B : Nat) (A : Option Addr) (n c : Nat) (f : Nat → Int) (w : World) (hn : n ≤ 9223372036854775807) (h : Ints w w.heap.size A n f) (hcb : w.cell? ⟨B, 0, none⟩ = some (.int .i64 s)) :
    Calls Try.prog 93 #[.slice A n c, .func (.func 96) #[] #[.pointer (some ⟨B, 0, none⟩)]] w fun e w' => e = .returned (.bool (!noneB n f (subB s))) ∧ w = w' := by
  have H := hide (lstIndex_any s B A n c f w hn h hcb)
  clear h
  go_enter Try.func93, Try.ntmps93
  go_wp2_with fail
  refine (H.out).mono ?_
  rintro e w' ⟨r, rfl, hr, rfl⟩
  have Hr := hide hr
  clear hr
  go_wp2_with fail
  go_ret
  exact ⟨ret_bool Hr.out, rfl⟩

theorem clip_any (A : Option Addr) (n c : Nat) (w : World) (hn : n ≤ c) (hc : c ≤ 9223372036854775807) :
    Calls Try.prog 97 #[.slice A n c] w fun e w' => e = .returned (.slice A n n) ∧ w = w' := by
  go_enter Try.func97, Try.ntmps97
  go_wp2_with fail
  go_ret
  exact ⟨rfl, rfl⟩
/-- the list in numbers of the program -/
def lstI (H : Nat → Bool) (t : Nat) : List Int := (lst H t).map fun (x : Nat) => (x : Int)
theorem lstI_len (H : Nat → Bool) (t : Nat) : (lstI H t).length = (lst H t).length := by simp [lstI]
theorem lstI_at {H : Nat → Bool} {t i : Nat} (h : i < (lst H t).length) : (lstI H t).getD i 0 = (((lst H t).getD i 0 : Nat) : Int) := by simp [lstI, List.getD, h]
theorem lst_at {H : Nat → Bool} {t i : Nat} (h : i < (lst H t).length) : (lst H t).getD i 0 ∈ lst H t := by
  simp only [List.getD, List.getElem?_eq_getElem h, Option.getD_some]
  exact List.getElem_mem _
theorem lst_any {H : Nat → Bool} {t s : Nat} (hs : s < 32) : (!noneB (lst H t).length (fun i => (lstI H t).getD i 0) (subB s)) = (lst H t).any fun x => x &&& s == x := by
  rw [Bool.eq_iff_iff, Bool.not_eq_true', List.any_eq_true]
  constructor
  · intro h
    have hh : ¬ ∀ i, i < (lst H t).length → subB s ((lstI H t).getD i 0) = false := fun hx => by rw [noneB_true.2 hx] at h; cases h
    refine Classical.byContradiction fun hn => hh fun i hi => ?_
    rw [lstI_at hi, subB_nat (lst_mem (lst_at hi)).1 hs]
    cases e : ((lst H t).getD i 0 &&& s == (lst H t).getD i 0)
    · rfl
    · exact absurd ⟨_, lst_at hi, e⟩ hn
  · rintro ⟨x, hx, e⟩
    obtain ⟨i, hi, ei⟩ := List.mem_iff_getElem.1 hx
    refine noneB_false ⟨i, hi, ?_⟩
    rw [lstI_at hi, subB_nat (lst_mem (lst_at hi)).1 hs]
    simp only [List.getD, List.getElem?_eq_getElem hi, Option.getD_some, ei]
    exact e
theorem ldo_at {H : Nat → Bool} {k j : Nat} (hj : j < 32) : ldo H (lst H (k * 32 + j)) (k * 32 + j) = (decide (wt j = k) && (!((lst H (k * 32 + j)).any fun x => x &&& j == x) && H j)) := by
  have e1 : (k * 32 + j) % 32 = j := by omega
  have e2 : (k * 32 + j) / 32 = k := by omega
  rw [ldo, e1, e2]
theorem lst_skip {H : Nat → Bool} {k j : Nat} (hj : j < 32) (h : (decide (wt j = k) && (!((lst H (k * 32 + j)).any fun x => x &&& j == x) && H j)) = false) : lst H (k * 32 + (j + 1)) = lst H (k * 32 + j) := by
  rw [show k * 32 + (j + 1) = (k * 32 + j) + 1 by omega, lst, ldo_at hj, h]; simp
theorem lst_take {H : Nat → Bool} {k j : Nat} (hj : j < 32) (h : (decide (wt j = k) && (!((lst H (k * 32 + j)).any fun x => x &&& j == x) && H j)) = true) : lst H (k * 32 + (j + 1)) = lst H (k * 32 + j) ++ [j] := by
  rw [show k * 32 + (j + 1) = (k * 32 + j) + 1 by omega, lst, ldo_at hj, h, if_pos rfl, show (k * 32 + j) % 32 = j by omega]

set_option maxHeartbeats 2000000 in
theorem least_any (H : Nat → Bool) (b1 b2 : Nat) (w : World) (hk : ∀ (W : World), Below w.heap.size w W → ∀ s : Nat, s < 32 → Calls Try.prog 82 #[.int .i64 s, .pointer (some ⟨b1, 0, none⟩), .pointer (some ⟨b2, 0, none⟩)] W fun e w' => e = .returned (.bool (H s)) ∧ Below W.heap.size W w') :
    Calls Try.prog 81 #[.int .i64 5, .func (.func 82) #[] #[.pointer (some ⟨b1, 0, none⟩), .pointer (some ⟨b2, 0, none⟩)]] w fun e w' => ∃ A c, e = .returned (.slice A (lst H 192).length (lst H 192).length) ∧ Row w' w.heap.size A (lst H 192).length c (lstI H 192) ∧ Below w.heap.size w w' := by
  have HK := hide hk
  clear hk
  go_enter Try.func81, Try.ntmps81
  go_wp2_with fail
  go_loopw [5, 11] (fun v i wr => ∃ (k : Nat) (A : Option Addr) (c : Nat), k ≤ 6 ∧ i = .int .i64 k ∧ v = .slice A (lst H (k * 32)).length c ∧ Row wr w.heap.size A (lst H (k * 32)).length c (lstI H (k * 32)) ∧ Below w.heap.size w wr) (fun _ i _ => 6 - (intOf i).toNat)
  case atStart => exact ⟨0, _, _, by omega, rfl, rfl, Row.lit (n := 0) (xs := []) rfl rfl (Nat.le_refl _), by go_grown⟩
  case round =>
    obtain ⟨k, A, c, hk, rfl, rfl, hrow, hb⟩ := hrel
    have HR := hide hrow
    have HB := hide hb
    clear hrow hb
    by_cases hk6 : k < 6
    · have hkI : (k : Int) < 6 := by omega
      go_wp2_with fail
      go_loopw [5, 16] (fun v i wr => ∃ (j : Nat) (A : Option Addr) (c : Nat), j ≤ 32 ∧ i = .int .i64 j ∧ v = .slice A (lst H (k * 32 + j)).length c ∧ Row wr w.heap.size A (lst H (k * 32 + j)).length c (lstI H (k * 32 + j)) ∧ Below w.heap.size w wr) (fun _ i _ => 32 - (intOf i).toNat)
      case atStart => exact ⟨0, A, c, by omega, rfl, rfl, HR.out, HB.out⟩
      case round =>
        clear HR HB
        obtain ⟨j, A, c, hj, rfl, rfl, hrow, hb⟩ := hrel
        have HR := hide hrow
        have HB := hide hb
        have hln := lst_len H (k * 32 + j)
        have hz := hb.size
        clear hrow hb
        by_cases hj32 : j < 32
        · have hjI : (j : Int) < 32 := by omega
          have HSZ := hide (fun W => size_any j W (by omega))
          have HSK := hide (lst_skip (H := H) (k := k) hj32)
          have HTK := hide (lst_take (H := H) (k := k) hj32)
          have HAN := hide (lst_any (H := H) (t := k * 32 + j) hj32)
          have hcap := HR.out.cap
          by_cases e1 : wt j = k
          · rw [decide_eq_true e1, Bool.true_and] at HSK HTK
            have e1' : ((wt j : Int) == (k : Int)) = true := by simp; omega
            have hwt := (wt_small j (by omega)).2
            have HCT := hide (fun (W : World) (B : Nat) (hb : Below wr.heap.size wr W) (hc : W.cell? ⟨B, 0, none⟩ = some (.int .i64 j)) => lstContains_any j B A (lst H (k * 32 + j)).length c (fun i => (lstI H (k * 32 + j)).getD i 0) W (by omega) ((HR.out.keep hb).ints) hc)
            have HRN := hide HR.out
            rw [HAN.out] at HCT
            have HKJ := hide (fun (W : World) (hb : Below w.heap.size w W) => HK.out W hb j hj32)
            clear e1
            generalize wt j = wj at *
            generalize hany : ((lst H (k * 32 + j)).any fun x => x &&& j == x) = an at *
            generalize hHj : H j = hh at *
            have hbx : ∀ W, Below (wr.alloc (.cells #[.int .i64 j] 3)).heap.size (wr.alloc (.cells #[.int .i64 j] 3)) W → Below wr.heap.size wr W ∧ Blk W wr.heap.size 3 #[.int .i64 j] := fun W hb => box_plain hb
            have HBX := hide hbx
            clear hbx hany hHj HAN
            cases an
            · go_wp2_with fail
              refine (HSZ.out _).mono ?_
              rintro e _ ⟨rfl, rfl⟩
              go_wp2_with fail
              refine (HCT.out _ _ (below_box _) (by simp)).mono ?_
              rintro e _ ⟨rfl, rfl⟩
              go_wp2_with fail
              refine (HKJ.out _ (HB.out.alloc hz _)).mono ?_
              rintro e w2 ⟨rfl, hb2⟩
              obtain ⟨hb3, hk2⟩ := HBX.out _ hb2
              have c0 := hk2.at_ (i := 0) rfl
              have HR2 := hide (HR.out.keep hb3)
              have HB2 := hide (up hb3 HB.out hz)
              have hz2 : w.heap.size ≤ w2.heap.size := HB2.out.size
              have hl2 := hk2.lt
              clear hb2 hb3 hk2
              cases hh
              · have HE := hide (HSK.out (by rfl))
                clear HSK HTK
                go_wp2_with fail
                go_roundw
                case rel => first | exact ⟨j + 1, A, c, by omega, by go_num, by rw [HE.out], by rw [HE.out, lstI, HE.out]; exact HR2.out, HB2.out⟩ | ((repeat apply Exists.intro); exact ⟨⟨j + 1, A, c, by omega, by go_num, by rw [HE.out], by rw [HE.out, lstI, HE.out]; exact HR2.out, HB2.out⟩, rfl⟩)
                case measure => simp [intOf]; omega
              · have HE := hide (HTK.out (by rfl))
                have HEL := hide (show (lst H (k * 32 + (j + 1))).length = (lst H (k * 32 + j)).length + 1 by rw [HE.out]; simp)
                have HEI := hide (show lstI H (k * 32 + (j + 1)) = lstI H (k * 32 + j) ++ [((j : Nat) : Int)] by rw [lstI, HE.out, List.map_append]; rfl)
                clear HSK HTK HE
                generalize (lst H (k * 32 + j)).length = N at *
                generalize lstI H (k * 32 + j) = xs at *
                go_wp2_with (at_builtin; refine push_int rfl _ _ rfl xs rfl HR2.out ((j : Nat) : Int) _ rfl (by omega) hz2 ?_; intro A3 c3 w3 hr3 hb3 hg3 hat3; have HF := hide (show _ ∧ _ from ⟨hr3, HB2.out.trans hb3⟩); clear hr3 hb3 hg3 hat3)
                go_roundw
                case rel => first | exact ⟨j + 1, A3, c3, by omega, by go_num, by rw [HEL.out], by rw [HEL.out, HEI.out]; exact HF.out.1, HF.out.2⟩ | ((repeat apply Exists.intro); exact ⟨⟨j + 1, A3, c3, by omega, by go_num, by rw [HEL.out], by rw [HEL.out, HEI.out]; exact HF.out.1, HF.out.2⟩, rfl⟩)
                case measure => simp [intOf]; omega
            · have HE := hide (HSK.out (by rfl))
              clear HSK HTK
              go_wp2_with fail
              refine (HSZ.out _).mono ?_
              rintro e _ ⟨rfl, rfl⟩
              go_wp2_with fail
              refine (HCT.out _ _ (below_box _) (by simp)).mono ?_
              rintro e _ ⟨rfl, rfl⟩
              go_wp2_with fail
              go_roundw
              case rel => first | exact ⟨j + 1, A, c, by omega, by go_num, by rw [HE.out], by rw [HE.out, lstI, HE.out]; exact HR.out.alloc _, HB.out.alloc hz _⟩ | ((repeat apply Exists.intro); exact ⟨⟨j + 1, A, c, by omega, by go_num, by rw [HE.out], by rw [HE.out, lstI, HE.out]; exact HR.out.alloc _, HB.out.alloc hz _⟩, rfl⟩)
              case measure => simp [intOf]; omega
          · have HE := hide (HSK.out (by rw [decide_eq_false e1]; rfl))
            have e1' : ((wt j : Int) == (k : Int)) = false := by simp; omega
            have hwt := (wt_small j (by omega)).2
            clear e1 HSK HTK
            generalize wt j = wj at *
            go_wp2_with fail
            refine (HSZ.out _).mono ?_
            rintro e _ ⟨rfl, rfl⟩
            go_wp2_with fail
            go_roundw
            case rel => first | exact ⟨j + 1, A, c, by omega, by go_num, by rw [HE.out], by rw [HE.out, lstI, HE.out]; exact HR.out.alloc _, HB.out.alloc hz _⟩ | ((repeat apply Exists.intro); exact ⟨⟨j + 1, A, c, by omega, by go_num, by rw [HE.out], by rw [HE.out, lstI, HE.out]; exact HR.out.alloc _, HB.out.alloc hz _⟩, rfl⟩)
            case measure => simp [intOf]; omega
        · obtain rfl : j = 32 := by omega
          go_wp2_with fail
          go_roundw
          case rel => exact ⟨k + 1, A, c, by omega, by go_num, by rw [show (k + 1) * 32 = k * 32 + 32 by omega], by rw [show (k + 1) * 32 = k * 32 + 32 by omega]; exact HR.out, HB.out⟩
          case measure => simp [intOf]; omega
    · have hk6' : k = 6 := by omega
      have hcap := HR.out.cap
      have hc9 : c ≤ 9223372036854775807 := by
        rcases HR.out.2.2 with ⟨e1, _⟩ | ⟨g, cap, cur, e1, _, _, _, e2, _⟩
        · injection e1 with _ _ e3; omega
        · injection e1 with _ _ e3; unfold maxLen at e2; omega
      have HN := hide (show (lst H (k * 32)).length = (lst H 192).length by rw [hk6'])
      have HRF := hide (show Row wr w.heap.size A (lst H 192).length c (lstI H 192) by
        have := HR.out
        rw [hk6'] at this
        exact this)
      clear HR
      generalize (lst H (k * 32)).length = N at *
      have HCL := hide (fun W => clip_any A N c W hcap hc9)
      have hki : ¬ (k : Int) < 6 := by omega
      clear hk6' hcap hc9
      go_wp2_with fail
      refine (HCL.out _).mono ?_
      rintro e _ ⟨rfl, rfl⟩
      go_wp2_with fail
      go_ret
      exact ⟨A, c, by rw [HN.out]; rfl, HRF.out, HB.out⟩

theorem gp1_any (p : Int) (A O : Option Addr) (n c m e s : Nat) (M : Nat → Nat → Int) (f : Nat → Int) (b1 b2 : Nat) (w : World) (hs : SchV p n m M f) (h32 : s < 32) (h : Mat w w.heap.size A n (fun _ => m) M) (h2 : Ints w w.heap.size O n f)
    (k1 : Blk w b1 44 #[.int .i64 p, .slice A n c, .slice O n e]) (k2 : w.cell? ⟨b2, 0, none⟩ = some (.int .i64 p)) :
    Calls Try.prog 82 #[.int .i64 s, .pointer (some ⟨b1, 0, none⟩), .pointer (some ⟨b2, 0, none⟩)] w fun e w' => e = .returned (.bool (knB p n m M f s)) ∧ Below w.heap.size w w' := by
  have HF := hide (knowsI_any p A O n c m e s M f w hs h32 h h2)
  have x0 := k1.at_ (i := 0) rfl
  have x1 := k1.at_ (i := 1) rfl
  have x2 := k1.at_ (i := 2) rfl
  clear h h2 hs k1
  go_enter Try.func82, Try.ntmps82
  go_wp2_with fail
  refine (HF.out).mono ?_
  rintro x w1 ⟨rfl, hb1⟩
  go_wp2_with fail
  go_ret
  exact ⟨rfl, hb1⟩

/-- the least groups of a scheme, and what GroupsOf gives -/
def GpPost (p : Int) (n : Nat) (L : Nat → Nat) (M : Nat → Nat → Int) (m : Nat) (f : Nat → Int) (w : World) (e : Ending) (w' : World) : Prop :=
  ∃ A N c, e = .returned (.slice A N c) ∧ Below w.heap.size w w' ∧ (vSch p n L M m f = true → N = (lst (knB p n (L 0) M f) 192).length ∧ Ints w' w'.heap.size A N (fun i => (((lst (knB p n (L 0) M f) 192).getD i 0 : Nat) : Int)))
set_option maxHeartbeats 1000000 in
theorem GroupsOfI_any (p : Int) (A : Option Addr) (n c : Nat) (L : Nat → Nat) (M : Nat → Nat → Int) (O : Option Addr) (m e : Nat) (f : Nat → Int) (w : World) (hn : n ≤ 1048576) (hL : ∀ i, i < n → L i ≤ 1048576) (hm : m ≤ 1048576) (h : Mat w w.heap.size A n L M) (h2 : Ints w w.heap.size O m f) :
    Calls Try.prog 40 #[.agg #[.int .i64 p, .slice A n c, .slice O m e]] w (GpPost p n L M m f w) := by
  have HV := hide (fun (W : World) (hb : Below w.heap.size w W) => knownI_any p A O n c m e L M f W (by omega) (fun i hi => Nat.le_trans (hL i hi) (by omega)) (by omega) (h.keep hb hb.size) (h2.keep hb hb.size))
  cases hv : vSch p n L M m f
  · have HVF := hide hv
    rw [hv] at HV
    clear hL h h2 hv
    go_enter Try.func40, Try.ntmps40
    go_wp2_with fail
    refine (HV.out _ (below_box _)).mono ?_
    rintro x w1 ⟨rfl, hb1⟩
    have HB := hide (box_plain hb1).1
    clear hb1
    go_wp2_with fail
    go_ret
    exact ⟨_, _, _, rfl, HB.out.alloc HB.out.size _, fun hh => by rw [HVF.out] at hh; cases hh⟩
  obtain ⟨hsc, rfl, hle⟩ := vSch_sch hv
  have hm2 := h.const hle
  have HG := hide (fun (b1 b2 s : Nat) (h32 : s < 32) (W : World) (hb : Below w.heap.size w W) => gp1_any p A O m c (L 0) e s M f b1 b2 W hsc h32 (hm2.keep hb hb.size) (h2.keep hb hb.size))
  rw [hv] at HV
  clear hL h h2 hle hm2 hsc
  go_enter Try.func40, Try.ntmps40
  go_wp2_with fail
  refine (HV.out _ (below_box _)).mono ?_
  rintro x w1 ⟨rfl, hb1⟩
  obtain ⟨hbw, hbox⟩ := box_plain hb1
  have HB := hide hbw
  have HX := hide hbox
  have hlx := hbox.lt
  clear hb1 hbw hbox
  go_wp2_with fail
  have HLE := hide (fun (t : TypeId) => least_any (knB p m (L 0) M f) w.heap.size w1.heap.size (w1.alloc (.cells #[.int .i64 p] t)) (fun W hb s h32 => HG.out _ _ s h32 W (up hb (HB.out.alloc HB.out.size _) (by simp; have := HB.out.size; omega)) ((HX.out.alloc _).below hb (by simp; omega)) ((hb.cell (p := ⟨w1.heap.size, 0, none⟩) (by simp)).trans (by simp))))
  refine (HLE.out _).mono ?_
  rintro x w2 ⟨A2, c2, rfl, hr2, hb2⟩
  have HR2 := hide hr2.ints
  have HB2 := hide (up hb2 (HB.out.alloc HB.out.size _) (by simp; have := HB.out.size; omega))
  clear hr2 hb2 HLE
  generalize hN : (lst (knB p m (L 0) M f) 192).length = N at *
  have HN := hide hN
  clear hN
  go_wp2_with fail
  go_ret
  exact ⟨_, _, _, rfl, HB2.out, fun _ => ⟨HN.out.symm, HR2.out.congr (fun i hi => lstI_at (by rw [HN.out]; exact hi))⟩⟩
end Go.Proofs.Ythafmoofemfdmaa
