/-
  MendTwo, the reference: the first filling that fits. Conditions: the rows are p-1 rows of p+1 bits that can be read, at most two columns lost.
-/
import Derived.Test.YtkalecdjcdgodaaMend
import Derived.Test.YtkalecdjcdgodaaMendPlain
import Derived.Deep.RegionHeld3
namespace Go.Proofs.Ytkalecdjcdgodaa
open Go.RowKit

theorem quietN {P : Program} {f : FuncId} {args : Array Value} {w : World} {n : Nat} {v : Value}
    (h : Calls P f args (w.drewN n) fun e w' => e = .returned v ∧ w.drewN n = w') :
    Calls P f args (w.drewN n) fun e w'' => e = .returned v ∧ ∃ m, w'' = w.drewN m :=
  h.mono fun _ _ ⟨he, hm⟩ => ⟨he, n, hm.symm⟩
/-- rows that can be read, and be cut at their length -/
def MatC (w : World) (B : Nat) (A : Option Addr) (n : Nat) (L : Nat → Nat) (M : Nat → Nat → Int) : Prop :=
  0 < n → ∃ b off, A = some ⟨b, off, none⟩ ∧ b < B ∧ ∀ i, i < n → ∃ R C, w.cell? ⟨b, off + i, none⟩ = some (.slice R (L i) C) ∧ L i ≤ C ∧ Ints w B R (L i) (M i)
theorem MatC.mat {w : World} {B : Nat} {A : Option Addr} {n : Nat} {L : Nat → Nat} {M : Nat → Nat → Int} (h : MatC w B A n L M) : Mat w B A n L M := fun h0 => by
  obtain ⟨b, off, e, hb, hc⟩ := h h0
  exact ⟨b, off, e, hb, fun i hi => by obtain ⟨R, C, h1, _, h2⟩ := hc i hi; exact ⟨R, C, h1, h2⟩⟩
theorem ints_cut {w : World} {B m q : Nat} {A : Option Addr} {f : Nat → Int} (h : Ints w B A m f) (hq : q ≤ m) : Ints w B A q f := fun h0 => by
  obtain ⟨b, off, e, hb, hc⟩ := h (by omega)
  exact ⟨b, off, e, hb, fun i hi => hc i (by omega)⟩
/-- the cells as rows of two numbers -/
def cellsC (cs : List (Nat × Nat)) (n j : Nat) : Int := if j = 0 then ((cs.getD n (0, 0)).1 : Nat) else ((cs.getD n (0, 0)).2 : Nat)
theorem cells_push {R : List Sl} {cs : List (Nat × Nat)} {r k : Nat} {A : Option Addr} {c : Nat} (h : TbC R cs.length 2 (cellsC cs)) : TbC (R ++ [⟨A, c, [(r : Int), (k : Int)]⟩]) (cs.length + 1) 2 (cellsC (cs ++ [(r, k)])) := by
  refine TbC.push (h.congr fun i j hi hj => ?_) rfl fun j hj => ?_
  · have e : (cs ++ [(r, k)]).getD i (0, 0) = cs.getD i (0, 0) := by simp [List.getD, List.getElem?_append_left hi]
    unfold cellsC
    rw [e]
  · have e : (cs ++ [(r, k)]).getD cs.length (0, 0) = (r, k) := by simp [List.getD]
    unfold cellsC
    rw [e]
    match j, hj with
    | 0, _ => rfl
    | 1, _ => rfl

/-- what MendTwo gives for valid arguments -/
def MdPost (p s : Nat) (M : Nat → Nat → Int) (w : World) (e : Ending) (w' : World) : Prop :=
  Below w.heap.size w w' ∧ ((mendG p s M = none ∧ e = .returned (.tuple #[.slice none 0 0, .bool false])) ∨
    ∃ g A' c' R, mendG p s M = some g ∧ e = .returned (.tuple #[.slice A' (p - 1) c', .bool true]) ∧ TabD w' w.heap.size w'.heap.size A' (p - 1) c' R ∧ TbC R (p - 1) (p - 1) (fillA p s g M))

set_option maxRecDepth 100000 in
set_option maxHeartbeats 2000000 in
theorem fill3_any (A : Option Addr) (c s : Nat) (M : Nat → Nat → Int) (w : World) (hs : s < 16) (hw : wt s ≤ 2) (hM : Bin 2 (3 + 1) M) (h : MatC w w.heap.size A 2 (fun _ => 4) M) :
    Calls Try.prog 77 #[.int .i64 3, .slice A 2 c, .int .i64 s] w (MdPost 3 s M w) := by
  obtain ⟨b, off, rfl, hbl, hc⟩ := h (by omega)
  have HB := hide hM
  have HC0 := hide hc
  clear h hM hc
  go_enter Try.func77, Try.ntmps77
  go_wp2_with fail
  go_loopw [8, 9] (fun v i wr => ∃ (r : Nat) (n : Nat) (A' : Option Addr) (c' : Nat) (R : List Sl), r ≤ 2 ∧ i = .int .i64 r ∧ v = .slice A' n c' ∧ (n = (clT 2 s (r * 2)).length ∧ n ≤ 16) ∧ TabD wr w.heap.size wr.heap.size A' n c' R ∧ TbC R n 2 (cellsC (clT 2 s (r * 2))) ∧ Below w.heap.size w wr) (fun _ i _ => 2 - (intOf i).toNat)
  case atStart => exact ⟨0, 0, _, _, [], by omega, rfl, rfl, ⟨rfl, by omega⟩, TabD.empty0 0 rfl (Nat.le_refl _), TbC.nil _ _, by go_grown⟩
  case round =>
    obtain ⟨r, n, A', c', R, hr, rfl, rfl, hn, ht, hcp, hb⟩ := hrel
    have HT := hide ht
    have HC := hide hcp
    have HN := hide hn
    have hn16 := hn.2
    have hz := hb.size
    clear ht hcp hn
    by_cases hlt : r < 2
    · obtain ⟨wo, hwo⟩ : ∃ x, x = wr := ⟨_, rfl⟩
      rw [← hwo] at HT hb hz
      rw [← hwo]
      clear hwo
      have hrI : (r : Int) < 2 := by omega
      go_wp2_with fail
      go_loopw [8, 10] (fun v i wr => ∃ (k : Nat) (n : Nat) (A' : Option Addr) (c' : Nat) (R : List Sl), k ≤ 2 ∧ i = .int .i64 k ∧ v = .slice A' n c' ∧ (n = (clT 2 s (r * 2 + k)).length ∧ n ≤ 16) ∧ TabD wr w.heap.size wr.heap.size A' n c' R ∧ TbC R n 2 (cellsC (clT 2 s (r * 2 + k))) ∧ Below w.heap.size w wr) (fun _ i _ => 2 - (intOf i).toNat)
      case atStart => exact ⟨0, n, _, _, R, by omega, rfl, rfl, HN.out, HT.out, HC.out, hb⟩
      case round =>
        obtain ⟨k, n2, A2, c2, R2, hk, rfl, rfl, hn2, ht2, hcp2, hb2⟩ := hrel
        have HT2 := hide ht2
        have HC2 := hide hcp2
        have HN2 := hide hn2
        have hn216 := hn2.2
        have hz2 := hb2.size
        clear ht2 hcp2 hn2
        by_cases hkq : k < 2
        · have hkI : (k : Int) < 2 := by omega
          have HCL := hide (clT_in (s := s) (r := r) hkq)
          cases hbt : bt s k
          · have HBT := hide (fun W => bitS_f s k W (by omega) (by omega) hbt)
            rw [hbt] at HCL
            clear hbt
            have HY := hide (show (n2 = (clT 2 s (r * 2 + (k + 1))).length ∧ n2 ≤ 16) ∧ TbC R2 n2 2 (cellsC (clT 2 s (r * 2 + (k + 1)))) from by
              have e : clT 2 s (r * 2 + (k + 1)) = clT 2 s (r * 2 + k) := by rw [← Nat.add_assoc, HCL.out]; simp
              rw [e]
              exact ⟨HN2.out, HC2.out⟩)
            go_wp2_with fail
            refine (HBT.out _).mono ?_
            rintro e _ ⟨rfl, rfl⟩
            go_wp2_with fail
            go_roundw
            case rel => first | exact ⟨k + 1, n2, _, _, R2, by omega, by go_num, rfl, HY.out.1, HT2.out, HY.out.2, hb2⟩ | ((repeat apply Exists.intro); exact ⟨⟨k + 1, n2, _, _, R2, by omega, by go_num, rfl, HY.out.1, HT2.out, HY.out.2, hb2⟩, rfl⟩)
            case measure => simp [intOf]; omega
          · have HBT := hide (fun W => bitS_t s k W (by omega) (by omega) hbt)
            rw [hbt] at HCL
            clear hbt
            have hlen := clT_len 2 s (r * 2 + k + 1)
            have HL := hide (show n2 + 1 = (clT 2 s (r * 2 + k + 1)).length by rw [HCL.out, List.length_append, HN2.out.1]; rfl)
            have HCP := hide (fun (A : Option Addr) (c : Nat) => (show TbC (R2 ++ [⟨A, c, [(r : Int), (k : Int)]⟩]) (n2 + 1) 2 (cellsC (clT 2 s (r * 2 + k + 1))) from by
              rw [HCL.out]
              have := HC2.out
              rw [HN2.out.1] at this ⊢
              exact cells_push this))
            have h16 : n2 + 1 ≤ 16 := by rw [HL.out]; omega
            clear hlen
            have HRL := hide (show Row (wr.alloc (.cells #[.int .i64 (r : Int), .int .i64 (k : Int)] 3)) wr.heap.size (some ⟨wr.heap.size, 0, none⟩) 2 2 [(r : Int), (k : Int)] from Row.lit (n := 2) rfl rfl (Nat.le_refl _))
            go_wp2_with fail
            refine (HBT.out _).mono ?_
            rintro e _ ⟨rfl, rfl⟩
            go_wp2_with (at_builtin; (refine push_row rfl _ _ rfl R2 rfl (HT2.out.alloc _).tab (some ⟨wr.heap.size, 0, none⟩) 2 2 [(r : Int), (k : Int)] (HRL.out.mono hz2) _ (Eq.trans (b := Value.slice (some ⟨wr.heap.size + 1, 0, none⟩) 1 1) rfl (by simp)) (by omega) (by simp; omega) ?_; intro A3 c3 w3 ht3 hb3 hg3 hat3; have hz3 : wr.heap.size + 1 ≤ w3.heap.size := (by have := hb3.size; have := hg3.size; simpa using this); have HX := hide (show _ ∧ _ from ⟨(HT2.out.alloc _).push (top' := w3.heap.size) HRL.out ht3 (by omega) (fun q hq => by simp at hq; omega), (hb2.alloc hz2 _).trans hb3⟩); clear ht3 hb3 hg3 hat3))
            go_roundw
            case rel => first | exact ⟨k + 1, n2 + 1, _, _, _, by omega, by go_num, rfl, ⟨HL.out, h16⟩, HX.out.1, HCP.out _ _, HX.out.2⟩ | ((repeat apply Exists.intro); exact ⟨⟨k + 1, n2 + 1, _, _, _, by omega, by go_num, rfl, ⟨HL.out, h16⟩, HX.out.1, HCP.out _ _, HX.out.2⟩, rfl⟩)
            case measure => simp [intOf]; omega
        · obtain rfl : k = 2 := by omega
          go_wp2_with fail
          go_roundw
          case rel => exact ⟨r + 1, n2, _, _, R2, by omega, by go_num, rfl, by rw [Nat.add_mul, Nat.one_mul]; exact HN2.out, HT2.out, by rw [Nat.add_mul, Nat.one_mul]; exact HC2.out, hb2⟩
          case measure => simp [intOf]; omega
    · obtain rfl : r = 2 := by omega
      obtain ⟨wc, hwc⟩ : ∃ x, x = wr := ⟨_, rfl⟩
      rw [← hwc] at HT hb hz
      rw [← hwc]
      clear hwc
      have h8 : n ≤ 8 := by
        have := clT_8.1 s hs
        have h9 := HN.out.1
        have e : (clT 2 s (2 * 2)).length = (clT 2 s 4).length := rfl
        omega
      obtain ⟨gc, hgc⟩ : ∃ x, x = cap2 3 s := ⟨_, rfl⟩
      have hgn : gc = 2 ^ n := by rw [hgc, HN.out.1]; rfl
      have hgb : 1 ≤ gc ∧ gc ≤ 256 := by
        have h1 : 2 ^ n ≤ 2 ^ 8 := Nat.pow_le_pow_right (by omega) h8
        have h2 : 0 < 2 ^ n := Nat.two_pow_pos n
        omega
      have HPW : Hid (∀ W, Calls Try.prog 64 #[.int .i64 n] W fun e w' => e = .returned (.int .i64 (gc : Nat)) ∧ W = w') := hide (fun W => by
        have := powerS_any n W (by omega)
        rw [show (2 : Int) ^ n = ((gc : Nat) : Int) by rw [hgn]; push_cast; rfl] at this
        exact this)
      have HGC := hide hgc
      clear hgc hgn
      go_wp2_with fail
      go_loopw [11] (fun i wr => ∃ g : Nat, g ≤ gc ∧ i = .int .i64 g ∧ (∀ t, t < g → okT 3 s M (fillA 3 s t M) = false) ∧ Below wc.heap.size wc wr) (fun i _ => gc - (intOf i).toNat)
      case atStart => exact ⟨0, by omega, rfl, by simp, Below.refl _ _⟩
      case round =>
        obtain ⟨g, hg, rfl, hno, hbw⟩ := hrel
        have HNO := hide hno
        clear hno
        by_cases hlg : g < gc
        · obtain ⟨wg, hwg⟩ : ∃ x, x = wr := ⟨_, rfl⟩
          rw [← hwg] at hbw
          rw [← hwg]
          clear hwg
          have hzg : wc.heap.size ≤ wg.heap.size := hbw.size
          have HBG := hide (up hbw hb hz)
          go_wp2_with fail
          refine (HPW.out _).mono ?_
          rintro e _ ⟨rfl, rfl⟩
          go_wp2_with fail
          go_loopw [12, 13] (fun v i wx => ∃ (k : Nat) (A3 : Option Addr) (c3 : Nat) (R3 : List Sl), k ≤ 2 ∧ i = .int .i64 k ∧ v = .slice A3 k c3 ∧ TabD wx wg.heap.size wx.heap.size A3 k c3 R3 ∧ TbC R3 k 2 M ∧ Below wg.heap.size wg wx) (fun _ i _ => 2 - (intOf i).toNat)
          case atStart => exact ⟨0, _, _, [], by omega, rfl, rfl, TabD.empty0 0 rfl (Nat.le_refl _), TbC.nil _ _, (Below.refl _ _).alloc (Nat.le_refl _) _⟩
          case round =>
            obtain ⟨k, A3, c3, R3, hk, rfl, rfl, ht3, hcp3, hb3⟩ := hrel
            have HT3 := hide ht3
            have HC3 := hide hcp3
            have hz3 := hb3.size
            have hbx : Below w.heap.size w wr := up hb3 HBG.out HBG.out.size
            have hzx := hbx.size
            clear ht3 hcp3
            by_cases hkq : k < 2
            · have hkI : (k : Int) < 2 := by omega
              obtain ⟨R1, C1, e1, eC, e2⟩ := HC0.out k hkq
              have hck := (hbx.cell (p := ⟨b, off + k, none⟩) hbl).trans e1
              obtain ⟨rb, ro, rfl, hrb, hcr⟩ := e2 (by omega)
              have HI := hide (show Ints (wr.alloc (.cells #[] 3)) w.heap.size (some ⟨rb, ro, none⟩) 2 (M k) from (ints_cut (show Ints w w.heap.size (some ⟨rb, ro, none⟩) 4 (M k) from e2) (by omega)).keep (hbx.alloc hzx _) (Nat.le_refl _))
              clear e1 e2 hcr
              have hbl2 : b < wr.heap.size := by omega
              have HP := hide (fun (A : Option Addr) (c : Nat) => HC3.out.push (A := A) (c := c) (xs := listOf 2 (M k)) (by simp [listOf_len]) (fun j hj => listOf_getD _ hj))
              go_wp2_with (first | (at_builtin; (refine push_ints rfl _ _ rfl [] rfl (Row.lit (cs := #[]) (xs := []) (n := 0) (base := wr.heap.size) rfl rfl (Nat.le_refl _)) (M k) HI.out (by omega) rfl (by omega) (by simp) ?_; intro A5 c5 w5 hr5 hb5 hg5; rw [Nat.zero_add] at hr5; rw [List.nil_append] at hr5; rw [Nat.zero_add]; have hz5 : wr.heap.size + 1 ≤ w5.heap.size := (by have := hg5.size; simpa using this); have HF := hide (show Row w5 wr.heap.size A5 2 c5 (listOf 2 (M k)) ∧ Below wr.heap.size wr w5 from ⟨hr5, ((Below.refl _ _).alloc (Nat.le_refl _) _).trans hb5⟩); clear hr5 hb5 hg5)) | (at_builtin; (refine push_row rfl _ _ rfl R3 rfl (HT3.out.keep HF.out.2).tab A5 2 c5 (listOf 2 (M k)) (HF.out.1.mono hz3) _ rfl (by omega) (by omega) ?_; intro A6 c6 w6 ht6 hb6 hg6 hat6; have hz6 := hb6.size; have HX := hide (show _ ∧ _ from ⟨(HT3.out.keep HF.out.2).push (top' := w6.heap.size) HF.out.1 ht6 (by omega) (fun q hq => by have := (HF.out.1.blk q (by rw [ownBlock_slice]; exact hq)).2; omega), (hb3.trans (HF.out.2.mono hz3)).trans (hb6.mono (by omega))⟩); clear ht6 hb6 hg6 hat6)))
              go_roundw
              case rel => first | exact ⟨k + 1, _, _, _, by omega, by go_num, rfl, HX.out.1, HP.out A5 c5, HX.out.2⟩ | ((repeat apply Exists.intro); exact ⟨⟨k + 1, _, _, _, by omega, by go_num, rfl, HX.out.1, HP.out A5 c5, HX.out.2⟩, rfl⟩)
              case measure => simp [intOf]; omega
            · obtain rfl : k = 2 := by omega
              obtain ⟨wa, hwa⟩ : ∃ x, x = wr := ⟨_, rfl⟩
              rw [← hwa] at HT3 hb3 hz3
              rw [← hwa]
              clear hwa hbx hzx
              obtain ⟨bA, eA⟩ : ∃ bA, A3 = some ⟨bA, 0, none⟩ := by
                rcases HT3.out.tab.form with ⟨_, h, _⟩ | ⟨b, e, _⟩
                · omega
                · exact ⟨b, e⟩
              subst eA
              have HCm := hide (fun x (hx : x ∈ clT 2 s (2 * 2)) => clT_mem (by omega) hx)
              have HNl := hide HN.out.1
              generalize hCS : clT 2 s (2 * 2) = CS at *
              have HCS := hide hCS
              clear hCS
              go_wp2_with fail
              go_loopw [14] (fun i wx => ∃ (j : Nat) (R4 : List Sl), j ≤ n ∧ i = .int .i64 j ∧ TabD wx wg.heap.size wa.heap.size (some ⟨bA, 0, none⟩) 2 c3 R4 ∧ TbC R4 2 2 (fillT CS g M j) ∧ Below wg.heap.size wg wx ∧ wa.heap.size ≤ wx.heap.size) (fun i _ => n - (intOf i).toNat)
              case atStart => exact ⟨0, R3, by omega, rfl, HT3.out, HC3.out, hb3, Nat.le_refl _⟩
              case round =>
                obtain ⟨j, R4, hj, rfl, ht4, hcp4, hb4, hz4⟩ := hrel
                have HT4 := hide ht4
                have HC4 := hide hcp4
                clear ht4 hcp4
                by_cases hjn : j < n
                · have hbc4 : Below wc.heap.size wc wr := up hb4 hbw hzg
                  obtain ⟨bC, eC, hbC⟩ : ∃ bC, A' = some ⟨bC, 0, none⟩ ∧ bC < wc.heap.size := by
                    rcases HT.out.tab.form with ⟨_, h, _⟩ | ⟨b, e, _, h, _⟩
                    · omega
                    · exact ⟨b, e, h⟩
                  subst eC
                  obtain ⟨b0, d0, hat0⟩ := HC.out.at_ (HT.out.keep hbc4) (i := j) (j := 0) hjn (by omega)
                  obtain ⟨b1, d1, hat1⟩ := HC.out.at_ (HT.out.keep hbc4) (i := j) (j := 1) hjn (by omega)
                  have a0 := hat0.row
                  have a1 := hat0.cell
                  have a2 := hat1.row
                  have a3 := hat1.cell
                  rw [a0] at a2
                  simp only [Option.some.injEq, Value.slice.injEq, Addr.mk.injEq, and_true, true_and] at a2
                  obtain ⟨rfl, rfl⟩ := a2
                  have hx := HCm.out (CS.getD j (0, 0)) (by
                    simp only [List.getD, List.getElem?_eq_getElem (show j < CS.length by have := HNl.out; omega), Option.getD_some]
                    exact List.getElem_mem _)
                  have HS := hide (show fillT CS g M (j + 1) = upd (fillT CS g M j) (CS.getD j (0, 0)).1 (CS.getD j (0, 0)).2 (gb g j) from rfl)
                  simp only [cellsC, if_pos, if_neg (show ¬ (1 = 0) by omega)] at a1 a3
                  obtain ⟨x2, _, _, x1⟩ := hx
                  have x1 := x1 (Nat.le_refl _)
                  generalize (CS.getD j (0, 0)).1 = u at *
                  generalize (CS.getD j (0, 0)).2 = v at *
                  obtain ⟨b2, d2, hat2⟩ := HC4.out.at_ HT4.out (i := u) (j := v) x1 x2
                  have a4 := hat2.row
                  have a5 := hat2.cell
                  have a6 := hat2.fz
                  have hlo := hat2.lo
                  have HSET := hide (hat2.set (gb g j))
                  have hd0 := hat0.cap
                  have hd2 := hat2.cap
                  have HBT : Hid (∀ W, Calls Try.prog 48 #[.int .i64 (g : Nat), .int .i64 (j : Nat)] W fun e w' => e = .returned (.int .i64 (gb g j)) ∧ W = w') := hide (fun W => bitS_any g j W (by omega) (by omega))
                  generalize gb g j = y at *
                  have n1 := hat0.hi
                  have n2 := hat2.ne
                  have o0 := (World.cell?_setCell_other wr ⟨b2, v, none⟩ ⟨bC, j, none⟩ (.int .i64 y) (by intro h; injection h; omega)).trans a0
                  have o1 := (World.cell?_setCell_other wr ⟨b2, v, none⟩ ⟨b0, 0, none⟩ (.int .i64 y) (by intro h; injection h; omega)).trans a1
                  have o3 := (World.cell?_setCell_other wr ⟨b2, v, none⟩ ⟨b0, 1, none⟩ (.int .i64 y) (by intro h; injection h; omega)).trans a3
                  have o4 := (World.cell?_setCell_other wr ⟨b2, v, none⟩ ⟨bA, u, none⟩ (.int .i64 y) (by intro h; injection h; omega)).trans a4
                  clear hat0 hat1 hat2
                  go_wp2_with fail
                  have hjI : (0 : Int) ≤ (j : Int) := by omega
                  have hjI2 : (j : Int) < (n : Int) := by omega
                  have huI : (0 : Int) ≤ (u : Int) := by omega
                  have huI2 : (u : Int) < 2 := by omega
                  have hvI : (0 : Int) ≤ (v : Int) := by omega
                  have hvI2 : (v : Int) < 2 := by omega
                  go_region_held3 (fun w' => w'.cell? ⟨bC, j, none⟩ = some (.slice (some ⟨b0, 0, none⟩) 2 d0) ∧ w'.cell? ⟨b0, 0, none⟩ = some (.int .i64 (u : Nat)) ∧ w'.cell? ⟨b0, 1, none⟩ = some (.int .i64 (v : Nat)) ∧ w'.cell? ⟨bA, u, none⟩ = some (.slice (some ⟨b2, 0, none⟩) 2 d2)) (first | exact ⟨a0, a1, a3, a4⟩ | exact ⟨o0, o1, o3, o4⟩) (first | (go_at_call 48; refine (HBT.out _).mono ?_; rintro e _ ⟨rfl, rfl⟩))
                  all_goals
                    obtain ⟨R5, hq1, hq2⟩ := HSET.out
                    go_wp2_with fail
                    go_roundw
                    case rel => first | exact ⟨j + 1, R5, by omega, by go_num, (by first | exact hq1 | exact hq1.drew), by rw [HS.out]; exact hq2, (by first | exact hb4.setCell (p := ⟨b2, v, none⟩) hlo _ | exact Below.drew (hb4.setCell (p := ⟨b2, v, none⟩) hlo _)), by simpa [World.setCell] using hz4⟩ | ((repeat apply Exists.intro); exact ⟨⟨j + 1, R5, by omega, by go_num, (by first | exact hq1 | exact hq1.drew), by rw [HS.out]; exact hq2, (by first | exact hb4.setCell (p := ⟨b2, v, none⟩) hlo _ | exact Below.drew (hb4.setCell (p := ⟨b2, v, none⟩) hlo _)), by simpa [World.setCell] using hz4⟩, rfl⟩)
                    case measure => simp [intOf]; omega
                · obtain rfl : j = n := by omega
                  obtain ⟨wf, hwf⟩ : ∃ x, x = wr := ⟨_, rfl⟩
                  rw [← hwf] at HT4 hb4 hz4
                  rw [← hwf]
                  clear hwf
                  have hFA : fillT CS g M j = fillA 3 s g M := by
                    show fillT CS g M j = fillT (clT 2 s (2 * 2)) g M (clT 2 s (2 * 2)).length
                    rw [HCS.out, HNl.out]
                  rw [hFA] at HC4
                  have HAE : ∃ X, X = fillA 3 s g M := ⟨_, rfl⟩
                  obtain ⟨AA, hAA⟩ := HAE
                  have hBA : Bin 2 2 (fillA 3 s g M) := by
                    rw [← hFA]
                    exact fillT_bin (fun i j hi hj => HB.out i j hi (by omega)) j
                  have HGY := hide (fun (h : okT 3 s M (fillA 3 s g M) = true) => mendG_some (p := 3) (s := s) (M := M) (show g < cap2 3 s by rw [← HGC.out]; exact hlg) h HNO.out)
                  have HOK := hide (okr_two (p := 3) (s := s) (g := g) (M := M) (by omega))
                  have HGN := hide (show okT 3 s M (fillA 3 s g M) = false → ∀ t, t < g + 1 → okT 3 s M (fillA 3 s t M) = false from fun h t ht => by
                    by_cases e : t = g
                    · subst e; exact h
                    · exact HNO.out t (by omega))
                  have HFT := hide (show TbC R4 2 2 (fillA 3 s g M) from HC4.out)
                  clear hFA HC4
                  rw [← hAA] at HGY HOK HGN HFT hBA
                  have HAA := hide hAA
                  clear hAA
                  have HR := hide (rowPlus_any (some ⟨bA, 0, none⟩) 2 c3 2 AA wf (by omega) (by omega) hBA (HFT.out.mat HT4.out))
                  have HW := hide (W1_bin hBA 3)
                  clear hBA
                  go_wp2_with fail
                  refine (HR.out).mono ?_
                  rintro e w1 ⟨A1, c1, R1, rfl, t1, t2, hb1⟩
                  have HD := hide (diag3_any A1 c1 (W1 2 AA) w1 HW.out (t2.mat t1))
                  have HB1 := hide hb1
                  have hz1 := hb1.size
                  clear t1 t2 hb1
                  go_wp2_with fail
                  refine (HD.out).mono ?_
                  rintro e w2 ⟨A2, c2, R2, rfl, t3, t4, hb2⟩
                  have hz2 := hb2.size
                  have HB2 := hide (show Below wf.heap.size wf w2 from up hb2 HB1.out hz1)
                  have HM2 := hide (show Mat w2 w2.heap.size A2 2 (fun _ => 4) (plusF 3 AA) from t4.mat t3)
                  clear t3 t4 hb2
                  obtain ⟨b2, o2, rfl, hbl2, hc2⟩ := HM2.out (by omega)
                  have HC2 := hide hc2
                  have hzf := hb4.size
                  have HB0 := hide (show Below w.heap.size w w2 from up HB2.out (up hb4 HBG.out HBG.out.size) (by have := HBG.out.size; omega))
                  clear hc2
                  go_wp2_with fail
                  go_loopw [16, 17] (fun v i wx => ∃ r : Nat, r ≤ 2 ∧ i = .int .i64 r ∧ v = .bool (okr 3 s 2 M AA r) ∧ Below w2.heap.size w2 wx) (fun _ i _ => 2 - (intOf i).toNat)
                  case atStart => exact ⟨0, by omega, rfl, rfl, Below.refl _ _⟩
                  case round =>
                    obtain ⟨r, hr2, rfl, rfl, hb6⟩ := hrel
                    obtain ⟨wo, hwo⟩ : ∃ x, x = wr := ⟨_, rfl⟩
                    rw [← hwo] at hb6
                    rw [← hwo]
                    clear hwo
                    by_cases hrq : r < 2
                    · have HS2 := hide (show okr 3 s 2 M AA (r + 1) = (okr 3 s 2 M AA r && okc 3 s 2 M AA r 4) from rfl)
                      have HLO := hide (okc_low (p := 3) (s := s) (k0 := 2) (M := M) (A := AA) (i := r) (n := 2) (Nat.le_refl _))
                      generalize okr 3 s 2 M AA r = z at *
                      have HB6 := hide hb6
                      clear hb6
                      have hrI : (r : Int) < 2 := by omega
                      go_wp2_with fail
                      go_loopw [16, 18] (fun v i wx => ∃ k : Nat, (2 ≤ k ∧ k ≤ 4) ∧ i = .int .i64 k ∧ v = .bool (z && okc 3 s 2 M AA r k) ∧ Below w2.heap.size w2 wx) (fun _ i _ => 4 - (intOf i).toNat)
                      case atStart => exact ⟨2, by omega, rfl, by rw [HLO.out, Bool.and_true], HB6.out⟩
                      case round =>
                        obtain ⟨k, hk, rfl, rfl, hb7⟩ := hrel
                        by_cases hkm : k < 4
                        · have hkI : (k : Int) ≤ 3 := by omega
                          have HS := hide (show (z && okc 3 s 2 M AA r (k + 1)) = ((z && okc 3 s 2 M AA r k) && (bt s k || plusF 3 AA r k == M r k)) by rw [okc, decide_eq_false (show ¬ k < 2 by omega), Bool.false_or, Bool.and_assoc])
                          obtain ⟨Rr, Cr, f1, f2⟩ := HC2.out r hrq
                          obtain ⟨b3, o3, rfl, hb3l, f3⟩ := f2 (by omega)
                          obtain ⟨Rw, Cw, g1, _, g2⟩ := HC0.out r hrq
                          obtain ⟨b5, o5, rfl, hb5l, g3⟩ := g2 (by omega)
                          have hbw7 := up hb7 HB0.out HB0.out.size
                          have x1 := (hb7.cell (p := ⟨b2, o2 + r, none⟩) hbl2).trans f1
                          have x2 := (hb7.cell (p := ⟨b3, o3 + k, none⟩) hb3l).trans (f3 k hkm)
                          have x3 := (hbw7.cell (p := ⟨b, off + r, none⟩) hbl).trans g1
                          have x4 := (hbw7.cell (p := ⟨b5, o5 + k, none⟩) hb5l).trans (g3 k hkm)
                          have HB7 := hide hb7
                          have j1 : (0 : Int) ≤ (r : Int) := by omega
                          have j2 : (r : Int) < 2 := by omega
                          have j3 : (0 : Int) ≤ (k : Int) := by omega
                          have j4 : (k : Int) < 4 := by omega
                          clear f1 f2 f3 g1 g2 g3 hb7 hbw7
                          generalize (z && okc 3 s 2 M AA r k) = o at *
                          generalize plusF 3 AA r k = x at *
                          generalize M r k = y at *
                          cases o
                          · go_wp2_with fail
                            go_quiet (fail)
                            go_wp2_with fail
                            go_roundw
                            case rel => exact ⟨k + 1, by omega, by go_num, by rw [HS.out]; rfl, below_drewN HB7.out _⟩
                            case measure => simp [intOf]; omega
                          cases hbt : bt s k
                          · have HBT := hide (fun W => bitS_f s k W (by omega) (by omega) hbt)
                            rw [hbt] at HS
                            clear hbt
                            cases hxy : x == y
                            all_goals
                              rw [hxy] at HS
                              go_wp2_with fail
                              go_quiet ((first | (go_at_call 48; exact quietN (HBT.out _))))
                              go_wp2_with fail
                              go_roundw
                              case rel => exact ⟨k + 1, by omega, by go_num, by rw [HS.out]; rfl, below_drewN HB7.out _⟩
                              case measure => simp [intOf]; omega
                          · have HBT := hide (fun W => bitS_t s k W (by omega) (by omega) hbt)
                            rw [hbt] at HS
                            clear hbt
                            go_wp2_with fail
                            go_quiet ((first | (go_at_call 48; exact quietN (HBT.out _))))
                            go_wp2_with fail
                            go_roundw
                            case rel => exact ⟨k + 1, by omega, by go_num, by rw [HS.out]; rfl, below_drewN HB7.out _⟩
                            case measure => simp [intOf]; omega
                        · obtain rfl : k = 4 := by omega
                          go_wp2_with fail
                          go_roundw
                          case rel => exact ⟨r + 1, by omega, by go_num, by rw [HS2.out], hb7⟩
                          case measure => simp [intOf]; omega
                    · obtain rfl : r = 2 := by omega
                      have HBE := hide (show Below wf.heap.size wf wo from up hb6 HB2.out HB2.out.size)
                      clear hb6
                      rw [HOK.out]
                      cases hok : okT 3 s M AA
                      · have HN2 := hide (HGN.out hok)
                        clear hok
                        go_wp2_with fail
                        go_roundw
                        case rel => first | exact ⟨g + 1, by omega, by go_num, HN2.out, up (up HBE.out hb4 hzf) hbw hzg⟩ | ((repeat apply Exists.intro); exact ⟨⟨g + 1, by omega, by go_num, HN2.out, up (up HBE.out hb4 hzf) hbw hzg⟩, rfl⟩)
                        case measure => simp [intOf]; omega
                      · have HY := hide (HGY.out hok)
                        clear hok
                        go_wp2_with fail
                        go_ret2
                        exact ⟨up (up HBE.out hb4 hzf) HBG.out HBG.out.size, .inr ⟨g, _, _, R4, HY.out, rfl, (HT4.out.keep HBE.out).mono (by have := HBG.out.size; omega) (by have := HBE.out.size; omega), by rw [← HAA.out]; exact HFT.out⟩⟩
        · obtain rfl : g = gc := by omega
          have HNONE := hide (mendG_none (p := 3) (s := s) (M := M) (fun t ht => HNO.out t (by rw [HGC.out]; exact ht)))
          go_wp2_with fail
          refine (HPW.out _).mono ?_
          rintro e _ ⟨rfl, rfl⟩
          go_wp2_with fail
          go_ret2
          exact ⟨up hbw hb hz, .inl ⟨HNONE.out, rfl⟩⟩

set_option maxRecDepth 100000 in
set_option maxHeartbeats 2000000 in
theorem fill5_any (A : Option Addr) (c s : Nat) (M : Nat → Nat → Int) (w : World) (hs : s < 64) (hw : wt s ≤ 2) (hM : Bin 4 (5 + 1) M) (h : MatC w w.heap.size A 4 (fun _ => 6) M) :
    Calls Try.prog 77 #[.int .i64 5, .slice A 4 c, .int .i64 s] w (MdPost 5 s M w) := by
  obtain ⟨b, off, rfl, hbl, hc⟩ := h (by omega)
  have HB := hide hM
  have HC0 := hide hc
  clear h hM hc
  go_enter Try.func77, Try.ntmps77
  go_wp2_with fail
  go_loopw [8, 9] (fun v i wr => ∃ (r : Nat) (n : Nat) (A' : Option Addr) (c' : Nat) (R : List Sl), r ≤ 4 ∧ i = .int .i64 r ∧ v = .slice A' n c' ∧ (n = (clT 4 s (r * 4)).length ∧ n ≤ 16) ∧ TabD wr w.heap.size wr.heap.size A' n c' R ∧ TbC R n 2 (cellsC (clT 4 s (r * 4))) ∧ Below w.heap.size w wr) (fun _ i _ => 4 - (intOf i).toNat)
  case atStart => exact ⟨0, 0, _, _, [], by omega, rfl, rfl, ⟨rfl, by omega⟩, TabD.empty0 0 rfl (Nat.le_refl _), TbC.nil _ _, by go_grown⟩
  case round =>
    obtain ⟨r, n, A', c', R, hr, rfl, rfl, hn, ht, hcp, hb⟩ := hrel
    have HT := hide ht
    have HC := hide hcp
    have HN := hide hn
    have hn16 := hn.2
    have hz := hb.size
    clear ht hcp hn
    by_cases hlt : r < 4
    · obtain ⟨wo, hwo⟩ : ∃ x, x = wr := ⟨_, rfl⟩
      rw [← hwo] at HT hb hz
      rw [← hwo]
      clear hwo
      have hrI : (r : Int) < 4 := by omega
      go_wp2_with fail
      go_loopw [8, 10] (fun v i wr => ∃ (k : Nat) (n : Nat) (A' : Option Addr) (c' : Nat) (R : List Sl), k ≤ 4 ∧ i = .int .i64 k ∧ v = .slice A' n c' ∧ (n = (clT 4 s (r * 4 + k)).length ∧ n ≤ 16) ∧ TabD wr w.heap.size wr.heap.size A' n c' R ∧ TbC R n 2 (cellsC (clT 4 s (r * 4 + k))) ∧ Below w.heap.size w wr) (fun _ i _ => 4 - (intOf i).toNat)
      case atStart => exact ⟨0, n, _, _, R, by omega, rfl, rfl, HN.out, HT.out, HC.out, hb⟩
      case round =>
        obtain ⟨k, n2, A2, c2, R2, hk, rfl, rfl, hn2, ht2, hcp2, hb2⟩ := hrel
        have HT2 := hide ht2
        have HC2 := hide hcp2
        have HN2 := hide hn2
        have hn216 := hn2.2
        have hz2 := hb2.size
        clear ht2 hcp2 hn2
        by_cases hkq : k < 4
        · have hkI : (k : Int) < 4 := by omega
          have HCL := hide (clT_in (s := s) (r := r) hkq)
          cases hbt : bt s k
          · have HBT := hide (fun W => bitS_f s k W (by omega) (by omega) hbt)
            rw [hbt] at HCL
            clear hbt
            have HY := hide (show (n2 = (clT 4 s (r * 4 + (k + 1))).length ∧ n2 ≤ 16) ∧ TbC R2 n2 2 (cellsC (clT 4 s (r * 4 + (k + 1)))) from by
              have e : clT 4 s (r * 4 + (k + 1)) = clT 4 s (r * 4 + k) := by rw [← Nat.add_assoc, HCL.out]; simp
              rw [e]
              exact ⟨HN2.out, HC2.out⟩)
            go_wp2_with fail
            refine (HBT.out _).mono ?_
            rintro e _ ⟨rfl, rfl⟩
            go_wp2_with fail
            go_roundw
            case rel => first | exact ⟨k + 1, n2, _, _, R2, by omega, by go_num, rfl, HY.out.1, HT2.out, HY.out.2, hb2⟩ | ((repeat apply Exists.intro); exact ⟨⟨k + 1, n2, _, _, R2, by omega, by go_num, rfl, HY.out.1, HT2.out, HY.out.2, hb2⟩, rfl⟩)
            case measure => simp [intOf]; omega
          · have HBT := hide (fun W => bitS_t s k W (by omega) (by omega) hbt)
            rw [hbt] at HCL
            clear hbt
            have hlen := clT_len 4 s (r * 4 + k + 1)
            have HL := hide (show n2 + 1 = (clT 4 s (r * 4 + k + 1)).length by rw [HCL.out, List.length_append, HN2.out.1]; rfl)
            have HCP := hide (fun (A : Option Addr) (c : Nat) => (show TbC (R2 ++ [⟨A, c, [(r : Int), (k : Int)]⟩]) (n2 + 1) 2 (cellsC (clT 4 s (r * 4 + k + 1))) from by
              rw [HCL.out]
              have := HC2.out
              rw [HN2.out.1] at this ⊢
              exact cells_push this))
            have h16 : n2 + 1 ≤ 16 := by rw [HL.out]; omega
            clear hlen
            have HRL := hide (show Row (wr.alloc (.cells #[.int .i64 (r : Int), .int .i64 (k : Int)] 3)) wr.heap.size (some ⟨wr.heap.size, 0, none⟩) 2 2 [(r : Int), (k : Int)] from Row.lit (n := 2) rfl rfl (Nat.le_refl _))
            go_wp2_with fail
            refine (HBT.out _).mono ?_
            rintro e _ ⟨rfl, rfl⟩
            go_wp2_with (at_builtin; (refine push_row rfl _ _ rfl R2 rfl (HT2.out.alloc _).tab (some ⟨wr.heap.size, 0, none⟩) 2 2 [(r : Int), (k : Int)] (HRL.out.mono hz2) _ (Eq.trans (b := Value.slice (some ⟨wr.heap.size + 1, 0, none⟩) 1 1) rfl (by simp)) (by omega) (by simp; omega) ?_; intro A3 c3 w3 ht3 hb3 hg3 hat3; have hz3 : wr.heap.size + 1 ≤ w3.heap.size := (by have := hb3.size; have := hg3.size; simpa using this); have HX := hide (show _ ∧ _ from ⟨(HT2.out.alloc _).push (top' := w3.heap.size) HRL.out ht3 (by omega) (fun q hq => by simp at hq; omega), (hb2.alloc hz2 _).trans hb3⟩); clear ht3 hb3 hg3 hat3))
            go_roundw
            case rel => first | exact ⟨k + 1, n2 + 1, _, _, _, by omega, by go_num, rfl, ⟨HL.out, h16⟩, HX.out.1, HCP.out _ _, HX.out.2⟩ | ((repeat apply Exists.intro); exact ⟨⟨k + 1, n2 + 1, _, _, _, by omega, by go_num, rfl, ⟨HL.out, h16⟩, HX.out.1, HCP.out _ _, HX.out.2⟩, rfl⟩)
            case measure => simp [intOf]; omega
        · obtain rfl : k = 4 := by omega
          go_wp2_with fail
          go_roundw
          case rel => exact ⟨r + 1, n2, _, _, R2, by omega, by go_num, rfl, by rw [Nat.add_mul, Nat.one_mul]; exact HN2.out, HT2.out, by rw [Nat.add_mul, Nat.one_mul]; exact HC2.out, hb2⟩
          case measure => simp [intOf]; omega
    · obtain rfl : r = 4 := by omega
      obtain ⟨wc, hwc⟩ : ∃ x, x = wr := ⟨_, rfl⟩
      rw [← hwc] at HT hb hz
      rw [← hwc]
      clear hwc
      have h8 : n ≤ 8 := by
        have := clT_8.2 s hs
        simp only [hw, decide_true, Bool.true_and, decide_eq_false_iff_not] at this
        have h9 := HN.out.1
        have e : (clT 4 s (4 * 4)).length = (clT 4 s 16).length := rfl
        omega
      obtain ⟨gc, hgc⟩ : ∃ x, x = cap2 5 s := ⟨_, rfl⟩
      have hgn : gc = 2 ^ n := by rw [hgc, HN.out.1]; rfl
      have hgb : 1 ≤ gc ∧ gc ≤ 256 := by
        have h1 : 2 ^ n ≤ 2 ^ 8 := Nat.pow_le_pow_right (by omega) h8
        have h2 : 0 < 2 ^ n := Nat.two_pow_pos n
        omega
      have HPW : Hid (∀ W, Calls Try.prog 64 #[.int .i64 n] W fun e w' => e = .returned (.int .i64 (gc : Nat)) ∧ W = w') := hide (fun W => by
        have := powerS_any n W (by omega)
        rw [show (2 : Int) ^ n = ((gc : Nat) : Int) by rw [hgn]; push_cast; rfl] at this
        exact this)
      have HGC := hide hgc
      clear hgc hgn
      go_wp2_with fail
      go_loopw [11] (fun i wr => ∃ g : Nat, g ≤ gc ∧ i = .int .i64 g ∧ (∀ t, t < g → okT 5 s M (fillA 5 s t M) = false) ∧ Below wc.heap.size wc wr) (fun i _ => gc - (intOf i).toNat)
      case atStart => exact ⟨0, by omega, rfl, by simp, Below.refl _ _⟩
      case round =>
        obtain ⟨g, hg, rfl, hno, hbw⟩ := hrel
        have HNO := hide hno
        clear hno
        by_cases hlg : g < gc
        · obtain ⟨wg, hwg⟩ : ∃ x, x = wr := ⟨_, rfl⟩
          rw [← hwg] at hbw
          rw [← hwg]
          clear hwg
          have hzg : wc.heap.size ≤ wg.heap.size := hbw.size
          have HBG := hide (up hbw hb hz)
          go_wp2_with fail
          refine (HPW.out _).mono ?_
          rintro e _ ⟨rfl, rfl⟩
          go_wp2_with fail
          go_loopw [12, 13] (fun v i wx => ∃ (k : Nat) (A3 : Option Addr) (c3 : Nat) (R3 : List Sl), k ≤ 4 ∧ i = .int .i64 k ∧ v = .slice A3 k c3 ∧ TabD wx wg.heap.size wx.heap.size A3 k c3 R3 ∧ TbC R3 k 4 M ∧ Below wg.heap.size wg wx) (fun _ i _ => 4 - (intOf i).toNat)
          case atStart => exact ⟨0, _, _, [], by omega, rfl, rfl, TabD.empty0 0 rfl (Nat.le_refl _), TbC.nil _ _, (Below.refl _ _).alloc (Nat.le_refl _) _⟩
          case round =>
            obtain ⟨k, A3, c3, R3, hk, rfl, rfl, ht3, hcp3, hb3⟩ := hrel
            have HT3 := hide ht3
            have HC3 := hide hcp3
            have hz3 := hb3.size
            have hbx : Below w.heap.size w wr := up hb3 HBG.out HBG.out.size
            have hzx := hbx.size
            clear ht3 hcp3
            by_cases hkq : k < 4
            · have hkI : (k : Int) < 4 := by omega
              obtain ⟨R1, C1, e1, eC, e2⟩ := HC0.out k hkq
              have hck := (hbx.cell (p := ⟨b, off + k, none⟩) hbl).trans e1
              obtain ⟨rb, ro, rfl, hrb, hcr⟩ := e2 (by omega)
              have HI := hide (show Ints (wr.alloc (.cells #[] 3)) w.heap.size (some ⟨rb, ro, none⟩) 4 (M k) from (ints_cut (show Ints w w.heap.size (some ⟨rb, ro, none⟩) 6 (M k) from e2) (by omega)).keep (hbx.alloc hzx _) (Nat.le_refl _))
              clear e1 e2 hcr
              have hbl2 : b < wr.heap.size := by omega
              have HP := hide (fun (A : Option Addr) (c : Nat) => HC3.out.push (A := A) (c := c) (xs := listOf 4 (M k)) (by simp [listOf_len]) (fun j hj => listOf_getD _ hj))
              go_wp2_with (first | (at_builtin; (refine push_ints rfl _ _ rfl [] rfl (Row.lit (cs := #[]) (xs := []) (n := 0) (base := wr.heap.size) rfl rfl (Nat.le_refl _)) (M k) HI.out (by omega) rfl (by omega) (by simp) ?_; intro A5 c5 w5 hr5 hb5 hg5; rw [Nat.zero_add] at hr5; rw [List.nil_append] at hr5; rw [Nat.zero_add]; have hz5 : wr.heap.size + 1 ≤ w5.heap.size := (by have := hg5.size; simpa using this); have HF := hide (show Row w5 wr.heap.size A5 4 c5 (listOf 4 (M k)) ∧ Below wr.heap.size wr w5 from ⟨hr5, ((Below.refl _ _).alloc (Nat.le_refl _) _).trans hb5⟩); clear hr5 hb5 hg5)) | (at_builtin; (refine push_row rfl _ _ rfl R3 rfl (HT3.out.keep HF.out.2).tab A5 4 c5 (listOf 4 (M k)) (HF.out.1.mono hz3) _ rfl (by omega) (by omega) ?_; intro A6 c6 w6 ht6 hb6 hg6 hat6; have hz6 := hb6.size; have HX := hide (show _ ∧ _ from ⟨(HT3.out.keep HF.out.2).push (top' := w6.heap.size) HF.out.1 ht6 (by omega) (fun q hq => by have := (HF.out.1.blk q (by rw [ownBlock_slice]; exact hq)).2; omega), (hb3.trans (HF.out.2.mono hz3)).trans (hb6.mono (by omega))⟩); clear ht6 hb6 hg6 hat6)))
              go_roundw
              case rel => first | exact ⟨k + 1, _, _, _, by omega, by go_num, rfl, HX.out.1, HP.out A5 c5, HX.out.2⟩ | ((repeat apply Exists.intro); exact ⟨⟨k + 1, _, _, _, by omega, by go_num, rfl, HX.out.1, HP.out A5 c5, HX.out.2⟩, rfl⟩)
              case measure => simp [intOf]; omega
            · obtain rfl : k = 4 := by omega
              obtain ⟨wa, hwa⟩ : ∃ x, x = wr := ⟨_, rfl⟩
              rw [← hwa] at HT3 hb3 hz3
              rw [← hwa]
              clear hwa hbx hzx
              obtain ⟨bA, eA⟩ : ∃ bA, A3 = some ⟨bA, 0, none⟩ := by
                rcases HT3.out.tab.form with ⟨_, h, _⟩ | ⟨b, e, _⟩
                · omega
                · exact ⟨b, e⟩
              subst eA
              have HCm := hide (fun x (hx : x ∈ clT 4 s (4 * 4)) => clT_mem (by omega) hx)
              have HNl := hide HN.out.1
              generalize hCS : clT 4 s (4 * 4) = CS at *
              have HCS := hide hCS
              clear hCS
              go_wp2_with fail
              go_loopw [14] (fun i wx => ∃ (j : Nat) (R4 : List Sl), j ≤ n ∧ i = .int .i64 j ∧ TabD wx wg.heap.size wa.heap.size (some ⟨bA, 0, none⟩) 4 c3 R4 ∧ TbC R4 4 4 (fillT CS g M j) ∧ Below wg.heap.size wg wx ∧ wa.heap.size ≤ wx.heap.size) (fun i _ => n - (intOf i).toNat)
              case atStart => exact ⟨0, R3, by omega, rfl, HT3.out, HC3.out, hb3, Nat.le_refl _⟩
              case round =>
                obtain ⟨j, R4, hj, rfl, ht4, hcp4, hb4, hz4⟩ := hrel
                have HT4 := hide ht4
                have HC4 := hide hcp4
                clear ht4 hcp4
                by_cases hjn : j < n
                · have hbc4 : Below wc.heap.size wc wr := up hb4 hbw hzg
                  obtain ⟨bC, eC, hbC⟩ : ∃ bC, A' = some ⟨bC, 0, none⟩ ∧ bC < wc.heap.size := by
                    rcases HT.out.tab.form with ⟨_, h, _⟩ | ⟨b, e, _, h, _⟩
                    · omega
                    · exact ⟨b, e, h⟩
                  subst eC
                  obtain ⟨b0, d0, hat0⟩ := HC.out.at_ (HT.out.keep hbc4) (i := j) (j := 0) hjn (by omega)
                  obtain ⟨b1, d1, hat1⟩ := HC.out.at_ (HT.out.keep hbc4) (i := j) (j := 1) hjn (by omega)
                  have a0 := hat0.row
                  have a1 := hat0.cell
                  have a2 := hat1.row
                  have a3 := hat1.cell
                  rw [a0] at a2
                  simp only [Option.some.injEq, Value.slice.injEq, Addr.mk.injEq, and_true, true_and] at a2
                  obtain ⟨rfl, rfl⟩ := a2
                  have hx := HCm.out (CS.getD j (0, 0)) (by
                    simp only [List.getD, List.getElem?_eq_getElem (show j < CS.length by have := HNl.out; omega), Option.getD_some]
                    exact List.getElem_mem _)
                  have HS := hide (show fillT CS g M (j + 1) = upd (fillT CS g M j) (CS.getD j (0, 0)).1 (CS.getD j (0, 0)).2 (gb g j) from rfl)
                  simp only [cellsC, if_pos, if_neg (show ¬ (1 = 0) by omega)] at a1 a3
                  obtain ⟨x2, _, _, x1⟩ := hx
                  have x1 := x1 (Nat.le_refl _)
                  generalize (CS.getD j (0, 0)).1 = u at *
                  generalize (CS.getD j (0, 0)).2 = v at *
                  obtain ⟨b2, d2, hat2⟩ := HC4.out.at_ HT4.out (i := u) (j := v) x1 x2
                  have a4 := hat2.row
                  have a5 := hat2.cell
                  have a6 := hat2.fz
                  have hlo := hat2.lo
                  have HSET := hide (hat2.set (gb g j))
                  have hd0 := hat0.cap
                  have hd2 := hat2.cap
                  have HBT : Hid (∀ W, Calls Try.prog 48 #[.int .i64 (g : Nat), .int .i64 (j : Nat)] W fun e w' => e = .returned (.int .i64 (gb g j)) ∧ W = w') := hide (fun W => bitS_any g j W (by omega) (by omega))
                  generalize gb g j = y at *
                  have n1 := hat0.hi
                  have n2 := hat2.ne
                  have o0 := (World.cell?_setCell_other wr ⟨b2, v, none⟩ ⟨bC, j, none⟩ (.int .i64 y) (by intro h; injection h; omega)).trans a0
                  have o1 := (World.cell?_setCell_other wr ⟨b2, v, none⟩ ⟨b0, 0, none⟩ (.int .i64 y) (by intro h; injection h; omega)).trans a1
                  have o3 := (World.cell?_setCell_other wr ⟨b2, v, none⟩ ⟨b0, 1, none⟩ (.int .i64 y) (by intro h; injection h; omega)).trans a3
                  have o4 := (World.cell?_setCell_other wr ⟨b2, v, none⟩ ⟨bA, u, none⟩ (.int .i64 y) (by intro h; injection h; omega)).trans a4
                  clear hat0 hat1 hat2
                  go_wp2_with fail
                  have hjI : (0 : Int) ≤ (j : Int) := by omega
                  have hjI2 : (j : Int) < (n : Int) := by omega
                  have huI : (0 : Int) ≤ (u : Int) := by omega
                  have huI2 : (u : Int) < 4 := by omega
                  have hvI : (0 : Int) ≤ (v : Int) := by omega
                  have hvI2 : (v : Int) < 4 := by omega
                  go_region_held3 (fun w' => w'.cell? ⟨bC, j, none⟩ = some (.slice (some ⟨b0, 0, none⟩) 2 d0) ∧ w'.cell? ⟨b0, 0, none⟩ = some (.int .i64 (u : Nat)) ∧ w'.cell? ⟨b0, 1, none⟩ = some (.int .i64 (v : Nat)) ∧ w'.cell? ⟨bA, u, none⟩ = some (.slice (some ⟨b2, 0, none⟩) 4 d2)) (first | exact ⟨a0, a1, a3, a4⟩ | exact ⟨o0, o1, o3, o4⟩) (first | (go_at_call 48; refine (HBT.out _).mono ?_; rintro e _ ⟨rfl, rfl⟩))
                  all_goals
                    obtain ⟨R5, hq1, hq2⟩ := HSET.out
                    go_wp2_with fail
                    go_roundw
                    case rel => first | exact ⟨j + 1, R5, by omega, by go_num, (by first | exact hq1 | exact hq1.drew), by rw [HS.out]; exact hq2, (by first | exact hb4.setCell (p := ⟨b2, v, none⟩) hlo _ | exact Below.drew (hb4.setCell (p := ⟨b2, v, none⟩) hlo _)), by simpa [World.setCell] using hz4⟩ | ((repeat apply Exists.intro); exact ⟨⟨j + 1, R5, by omega, by go_num, (by first | exact hq1 | exact hq1.drew), by rw [HS.out]; exact hq2, (by first | exact hb4.setCell (p := ⟨b2, v, none⟩) hlo _ | exact Below.drew (hb4.setCell (p := ⟨b2, v, none⟩) hlo _)), by simpa [World.setCell] using hz4⟩, rfl⟩)
                    case measure => simp [intOf]; omega
                · obtain rfl : j = n := by omega
                  obtain ⟨wf, hwf⟩ : ∃ x, x = wr := ⟨_, rfl⟩
                  rw [← hwf] at HT4 hb4 hz4
                  rw [← hwf]
                  clear hwf
                  have hFA : fillT CS g M j = fillA 5 s g M := by
                    show fillT CS g M j = fillT (clT 4 s (4 * 4)) g M (clT 4 s (4 * 4)).length
                    rw [HCS.out, HNl.out]
                  rw [hFA] at HC4
                  have HAE : ∃ X, X = fillA 5 s g M := ⟨_, rfl⟩
                  obtain ⟨AA, hAA⟩ := HAE
                  have hBA : Bin 4 4 (fillA 5 s g M) := by
                    rw [← hFA]
                    exact fillT_bin (fun i j hi hj => HB.out i j hi (by omega)) j
                  have HGY := hide (fun (h : okT 5 s M (fillA 5 s g M) = true) => mendG_some (p := 5) (s := s) (M := M) (show g < cap2 5 s by rw [← HGC.out]; exact hlg) h HNO.out)
                  have HOK := hide (okr_two (p := 5) (s := s) (g := g) (M := M) (by omega))
                  have HGN := hide (show okT 5 s M (fillA 5 s g M) = false → ∀ t, t < g + 1 → okT 5 s M (fillA 5 s t M) = false from fun h t ht => by
                    by_cases e : t = g
                    · subst e; exact h
                    · exact HNO.out t (by omega))
                  have HFT := hide (show TbC R4 4 4 (fillA 5 s g M) from HC4.out)
                  clear hFA HC4
                  rw [← hAA] at HGY HOK HGN HFT hBA
                  have HAA := hide hAA
                  clear hAA
                  have HR := hide (rowPlus_any (some ⟨bA, 0, none⟩) 4 c3 4 AA wf (by omega) (by omega) hBA (HFT.out.mat HT4.out))
                  have HW := hide (W1_bin hBA 5)
                  clear hBA
                  go_wp2_with fail
                  refine (HR.out).mono ?_
                  rintro e w1 ⟨A1, c1, R1, rfl, t1, t2, hb1⟩
                  have HD := hide (diag5_any A1 c1 (W1 4 AA) w1 HW.out (t2.mat t1))
                  have HB1 := hide hb1
                  have hz1 := hb1.size
                  clear t1 t2 hb1
                  go_wp2_with fail
                  refine (HD.out).mono ?_
                  rintro e w2 ⟨A2, c2, R2, rfl, t3, t4, hb2⟩
                  have hz2 := hb2.size
                  have HB2 := hide (show Below wf.heap.size wf w2 from up hb2 HB1.out hz1)
                  have HM2 := hide (show Mat w2 w2.heap.size A2 4 (fun _ => 6) (plusF 5 AA) from t4.mat t3)
                  clear t3 t4 hb2
                  obtain ⟨b2, o2, rfl, hbl2, hc2⟩ := HM2.out (by omega)
                  have HC2 := hide hc2
                  have hzf := hb4.size
                  have HB0 := hide (show Below w.heap.size w w2 from up HB2.out (up hb4 HBG.out HBG.out.size) (by have := HBG.out.size; omega))
                  clear hc2
                  go_wp2_with fail
                  go_loopw [16, 17] (fun v i wx => ∃ r : Nat, r ≤ 4 ∧ i = .int .i64 r ∧ v = .bool (okr 5 s 4 M AA r) ∧ Below w2.heap.size w2 wx) (fun _ i _ => 4 - (intOf i).toNat)
                  case atStart => exact ⟨0, by omega, rfl, rfl, Below.refl _ _⟩
                  case round =>
                    obtain ⟨r, hr2, rfl, rfl, hb6⟩ := hrel
                    obtain ⟨wo, hwo⟩ : ∃ x, x = wr := ⟨_, rfl⟩
                    rw [← hwo] at hb6
                    rw [← hwo]
                    clear hwo
                    by_cases hrq : r < 4
                    · have HS2 := hide (show okr 5 s 4 M AA (r + 1) = (okr 5 s 4 M AA r && okc 5 s 4 M AA r 6) from rfl)
                      have HLO := hide (okc_low (p := 5) (s := s) (k0 := 4) (M := M) (A := AA) (i := r) (n := 4) (Nat.le_refl _))
                      generalize okr 5 s 4 M AA r = z at *
                      have HB6 := hide hb6
                      clear hb6
                      have hrI : (r : Int) < 4 := by omega
                      go_wp2_with fail
                      go_loopw [16, 18] (fun v i wx => ∃ k : Nat, (4 ≤ k ∧ k ≤ 6) ∧ i = .int .i64 k ∧ v = .bool (z && okc 5 s 4 M AA r k) ∧ Below w2.heap.size w2 wx) (fun _ i _ => 6 - (intOf i).toNat)
                      case atStart => exact ⟨4, by omega, rfl, by rw [HLO.out, Bool.and_true], HB6.out⟩
                      case round =>
                        obtain ⟨k, hk, rfl, rfl, hb7⟩ := hrel
                        by_cases hkm : k < 6
                        · have hkI : (k : Int) ≤ 5 := by omega
                          have HS := hide (show (z && okc 5 s 4 M AA r (k + 1)) = ((z && okc 5 s 4 M AA r k) && (bt s k || plusF 5 AA r k == M r k)) by rw [okc, decide_eq_false (show ¬ k < 4 by omega), Bool.false_or, Bool.and_assoc])
                          obtain ⟨Rr, Cr, f1, f2⟩ := HC2.out r hrq
                          obtain ⟨b3, o3, rfl, hb3l, f3⟩ := f2 (by omega)
                          obtain ⟨Rw, Cw, g1, _, g2⟩ := HC0.out r hrq
                          obtain ⟨b5, o5, rfl, hb5l, g3⟩ := g2 (by omega)
                          have hbw7 := up hb7 HB0.out HB0.out.size
                          have x1 := (hb7.cell (p := ⟨b2, o2 + r, none⟩) hbl2).trans f1
                          have x2 := (hb7.cell (p := ⟨b3, o3 + k, none⟩) hb3l).trans (f3 k hkm)
                          have x3 := (hbw7.cell (p := ⟨b, off + r, none⟩) hbl).trans g1
                          have x4 := (hbw7.cell (p := ⟨b5, o5 + k, none⟩) hb5l).trans (g3 k hkm)
                          have HB7 := hide hb7
                          have j1 : (0 : Int) ≤ (r : Int) := by omega
                          have j2 : (r : Int) < 4 := by omega
                          have j3 : (0 : Int) ≤ (k : Int) := by omega
                          have j4 : (k : Int) < 6 := by omega
                          clear f1 f2 f3 g1 g2 g3 hb7 hbw7
                          generalize (z && okc 5 s 4 M AA r k) = o at *
                          generalize plusF 5 AA r k = x at *
                          generalize M r k = y at *
                          cases o
                          · go_wp2_with fail
                            go_quiet (fail)
                            go_wp2_with fail
                            go_roundw
                            case rel => exact ⟨k + 1, by omega, by go_num, by rw [HS.out]; rfl, below_drewN HB7.out _⟩
                            case measure => simp [intOf]; omega
                          cases hbt : bt s k
                          · have HBT := hide (fun W => bitS_f s k W (by omega) (by omega) hbt)
                            rw [hbt] at HS
                            clear hbt
                            cases hxy : x == y
                            all_goals
                              rw [hxy] at HS
                              go_wp2_with fail
                              go_quiet ((first | (go_at_call 48; exact quietN (HBT.out _))))
                              go_wp2_with fail
                              go_roundw
                              case rel => exact ⟨k + 1, by omega, by go_num, by rw [HS.out]; rfl, below_drewN HB7.out _⟩
                              case measure => simp [intOf]; omega
                          · have HBT := hide (fun W => bitS_t s k W (by omega) (by omega) hbt)
                            rw [hbt] at HS
                            clear hbt
                            go_wp2_with fail
                            go_quiet ((first | (go_at_call 48; exact quietN (HBT.out _))))
                            go_wp2_with fail
                            go_roundw
                            case rel => exact ⟨k + 1, by omega, by go_num, by rw [HS.out]; rfl, below_drewN HB7.out _⟩
                            case measure => simp [intOf]; omega
                        · obtain rfl : k = 6 := by omega
                          go_wp2_with fail
                          go_roundw
                          case rel => exact ⟨r + 1, by omega, by go_num, by rw [HS2.out], hb7⟩
                          case measure => simp [intOf]; omega
                    · obtain rfl : r = 4 := by omega
                      have HBE := hide (show Below wf.heap.size wf wo from up hb6 HB2.out HB2.out.size)
                      clear hb6
                      rw [HOK.out]
                      cases hok : okT 5 s M AA
                      · have HN2 := hide (HGN.out hok)
                        clear hok
                        go_wp2_with fail
                        go_roundw
                        case rel => first | exact ⟨g + 1, by omega, by go_num, HN2.out, up (up HBE.out hb4 hzf) hbw hzg⟩ | ((repeat apply Exists.intro); exact ⟨⟨g + 1, by omega, by go_num, HN2.out, up (up HBE.out hb4 hzf) hbw hzg⟩, rfl⟩)
                        case measure => simp [intOf]; omega
                      · have HY := hide (HGY.out hok)
                        clear hok
                        go_wp2_with fail
                        go_ret2
                        exact ⟨up (up HBE.out hb4 hzf) HBG.out HBG.out.size, .inr ⟨g, _, _, R4, HY.out, rfl, (HT4.out.keep HBE.out).mono (by have := HBG.out.size; omega) (by have := HBE.out.size; omega), by rw [← HAA.out]; exact HFT.out⟩⟩
        · obtain rfl : g = gc := by omega
          have HNONE := hide (mendG_none (p := 5) (s := s) (M := M) (fun t ht => HNO.out t (by rw [HGC.out]; exact ht)))
          go_wp2_with fail
          refine (HPW.out _).mono ?_
          rintro e _ ⟨rfl, rfl⟩
          go_wp2_with fail
          go_ret2
          exact ⟨up hbw hb hz, .inl ⟨HNONE.out, rfl⟩⟩

end Go.Proofs.Ytkalecdjcdgodaa
