/-
  FlowOf, the program's side. Conditions: the net can be read.
-/
import Derived.Test.YtecmihmopiepfaaFlow
import Derived.Deep.QuietTactic
import Derived.BigQuiet
namespace Go.Proofs.Ytecmihmopiepfaa
open Go.RowKit

theorem nameX {E : Act → World → Prop} {a : Act} {W : World} (F : World → Prop) (h : F W) (k : ∀ w, F w → E a w) : E a W := k W h
theorem GI.set {w : World} {lo m : Nat} {G : Option Addr} {f : Nat → Int} (h : GI w lo G m f) {p : Addr} (hp : p.block < lo) (u : Value) : GI (w.setCell p u) lo G m f := by
  obtain ⟨b, off, e, h1, h2, h3⟩ := h
  refine ⟨b, off, e, h1, by simpa [World.setCell] using h2, fun i hi => ?_⟩
  rw [World.cell?_setCell_other _ _ _ _ (by intro hh; rw [hh] at hp; dsimp only at hp; omega)]
  exact h3 i hi

/-- what a flow keeps in view round by round -/
structure FlInv (n to : Nat) (C : Nat → Nat → Int) (s v : Int) : Prop where
  net : Net n C
  s0 : 0 ≤ s
  cut : s + ct C n 1 n ≤ 720
  is : flowF n to 721 C s = v
theorem FlInv.bd {n to : Nat} {C : Nat → Nat → Int} {s v : Int} (h : FlInv n to C s v) : s ≤ 720 := by
  have h1 := ct_nonneg h.net.nonneg n 1 n
  have h2 := h.cut
  omega
theorem FlInv.cell {n to : Nat} {C : Nat → Nat → Int} {s v : Int} (h : FlInv n to C s v) (a b : Nat) : 0 ≤ C a b ∧ C a b ≤ 40 := by
  have h1 := h.net.nonneg a b
  have h2 := h.net.nonneg b a
  have h3 := h.net.sum a b
  omega
theorem FlInv.stop {n to : Nat} {C : Nat → Nat → Int} {s v : Int} (h : FlInv n to C s v) (hw : wayF n to C n [0] = []) : s = v := by
  have := h.is
  rw [flowF, if_pos hw] at this
  exact this
theorem FlInv.next {n to : Nat} {C : Nat → Nat → Int} {s v : Int} (hn : 1 ≤ n) (ht : 1 ≤ to) (h : FlInv n to C s v) (hw : wayF n to C n [0] ≠ []) :
    FlInv n to (stepF C (wayF n to C n [0])) (s + sendF C (wayF n to C n [0])) v := by
  have hf := fst_of hn ht hw
  have h3 := hf.cut (ok_one ht)
  have h4 := hf.send
  have h0 := ct_nonneg h.net.nonneg n 1 n
  have hN := hf.net h.net
  have hc := h.cut
  have hs := h.s0
  refine ⟨hN, by omega, by omega, ?_⟩
  have h5 := h.is
  rw [flowF, if_neg hw] at h5
  rw [← h5]
  exact flowF_more hn ht 720 721 _ _ hN (by omega) (by omega)
theorem minTo_bd {C : Nat → Nat → Int} {l : List Nat} (h : ∀ a b, 0 ≤ C a b ∧ C a b ≤ 40) : ∀ j, 0 ≤ minTo C l j ∧ minTo C l j ≤ 40
  | 0 => h _ _
  | j + 1 => by
    have h1 := minTo_bd (l := l) h j
    have h2 := h (l.getD j 0) (l.getD (j + 1) 0)
    simp only [minTo]
    split <;> omega
theorem pushTo_bd {n to : Nat} {C : Nat → Nat → Int} {l : List Nat} {s v : Int} (h : FlInv n to C s v) (hf : Fst n to C l) (j : Nat) (hj : j < l.length) (a b : Nat) : 0 ≤ pushTo C (sendF C l) l j a b ∧ pushTo C (sendF C l) l j a b ≤ 40 := by
  have h1 := hf.send
  have h2 := pushTo_nonneg hf.smp h.net.nonneg (by omega) h1.2 j hj
  have h3 := pushTo_sum (C := C) (x := sendF C l) hf.smp a b j hj
  have h4 := h.net.sum a b
  have h5 := h2 a b
  have h6 := h2 b a
  omega

set_option maxHeartbeats 4000000 in
set_option maxRecDepth 100000 in
theorem flowI_go (A : Option Addr) (n c : Nat) (L : Nat → Nat) (M : Nat → Nat → Int) (to : Nat) (w : World) (hn : 2 ≤ n ∧ n ≤ 6) (ht : 1 ≤ to ∧ to < n) (v : Int) (hi : FlInv n to M 0 v)
    (hG : Calls Try.prog 49 #[.slice A n c, .int .i64 to] w fun e w' => e = .returned (.bool true) ∧ Below w.heap.size w w') (hL : ∀ i, i < n → L i = n) (h : Mat w w.heap.size A n L M) :
    Calls Try.prog 24 #[.slice A n c, .int .i64 to] w fun e w' => e = .returned (.int .i64 v) ∧ Below w.heap.size w w' := by
  have HG := hide hG
  have HL := hide hL
  have Hh := hide h
  have HI := hide hi
  clear hG hL h hi
  have hmk := run_make0 (P := Try.prog) 23 26 (.slice none 0 0) 24 Try.underlying23 info_ints rfl .i64 .i64 n (by omega) (by omega)
  go_enter Try.func24, Try.ntmps24
  go_wp2_with fail
  refine (HG.out).mono ?_
  rintro e w0 ⟨rfl, hb0⟩
  have hz0 := hb0.size
  go_wp2_with fail
  clear hmk
  go_loopw [5, 22] (fun v i wr => ∃ (k : Nat) (A' : Option Addr) (c' : Nat) (R : List Sl), k ≤ n ∧ i = .int .i64 k ∧ v = .slice A' k c' ∧ TabD wr w.heap.size wr.heap.size A' k c' R ∧ Copied R k L M ∧ Below w.heap.size w wr) (fun _ i _ => n - (intOf i).toNat)
  case atStart => exact ⟨0, _, _, [], by omega, rfl, rfl, TabD.emptyAt rfl n _ hz0 (by omega), Copied.nil _ _, hb0.alloc (by omega) _⟩
  case round =>
    obtain ⟨k, A', c', R, hk, rfl, rfl, htb, hcp, hb⟩ := hrel
    have HT := hide htb
    have HC := hide hcp
    have hz := hb.size
    clear htb hcp
    by_cases hlt : k < n
    · obtain ⟨b, off, rfl, hbl, hc⟩ := Hh.out (by omega)
      obtain ⟨R1, C1, e1, e2⟩ := hc k hlt
      have hck := (hb.cell (p := ⟨b, off + k, none⟩) hbl).trans e1
      have hlk := HL.out k hlt
      rw [hlk] at hck e2
      have HCL := hide (slClone_any R1 n C1 (M k) wr (by omega) (e2.keep hb hz))
      have HP := hide (fun (A : Option Addr) (c : Nat) => HC.out.push (A := A) (c := c))
      rw [hlk] at HP
      clear hc e1 e2 hlk
      go_wp2_with fail
      refine (HCL.out).mono ?_
      rintro e w2 ⟨A2, c2, rfl, hr2, hb2⟩
      have hz2 := hb2.size
      have HF := hide (show _ ∧ _ from ⟨hr2, hb2⟩)
      clear hr2 hb2
      go_wp2_with (at_builtin; refine push_row rfl _ _ rfl R rfl (HT.out.keep HF.out.2).tab A2 n c2 (listOf n (M k)) (HF.out.1.mono hz) _ rfl (by omega) (by omega) ?_; intro A3 c3 w3 ht3 hb3 hg3 hat3; have hz3 := hb3.size; have HX := hide (show _ ∧ _ from ⟨(HT.out.keep HF.out.2).push (top' := w3.heap.size) HF.out.1 ht3 (by omega) (fun q hq => by have := (HF.out.1.blk q (by rw [ownBlock_slice]; exact hq)).2; omega), (hb.trans (HF.out.2.mono hz)).trans (hb3.mono (by omega))⟩); clear ht3 hb3 hg3 hat3)
      go_roundw
      case rel => first | exact ⟨k + 1, _, _, _, by omega, by go_num, rfl, HX.out.1, by have := HP.out A2 c2; exact this, HX.out.2⟩ | ((repeat apply Exists.intro); exact ⟨⟨k + 1, _, _, _, by omega, by go_num, rfl, HX.out.1, by have := HP.out A2 c2; exact this, HX.out.2⟩, rfl⟩)
      case measure => simp [intOf]; omega
    · obtain rfl : k = n := by omega
      obtain ⟨wo, rfl⟩ : ∃ x, x = wr := ⟨_, rfl⟩
      obtain ⟨bA, rfl, hbA, hbA2⟩ : ∃ b, A' = some ⟨b, 0, none⟩ ∧ w.heap.size ≤ b ∧ b < wo.heap.size := by
        rcases HT.out.tab.form with ⟨_, h0, _⟩ | ⟨g, e, h1, h2, _⟩
        · omega
        · exact ⟨g, e, h1, h2⟩
      have HS0 := hide (show FlS wo w.heap.size wo.heap.size bA k c' R M from ⟨HT.out, FlM.of_copied HC.out HL.out⟩)
      have HG0 := hide (show ∀ (W : World) (Rx : List Sl) (Cx : Nat → Nat → Int), wo.heap.size ≤ W.heap.size → FlS W w.heap.size W.heap.size bA k c' Rx Cx →
          Calls Try.prog 54 #[.slice (some ⟨bA, 0, none⟩) k c', .slice (some ⟨W.heap.size, 0, none⟩) 1 1, .int .i64 to] (W.alloc (.cells #[.int .i64 0] 3)) (WayPost (wayF k to Cx k [0]) W.heap.size (W.alloc (.cells #[.int .i64 0] 3))) from fun W Rx Cx hW hS => by
        have hB := (Below.refl W.heap.size W).alloc (Nat.le_refl _) (.cells #[.int .i64 0] 3)
        exact wayI_any k to Cx hn k [0] _ _ c' 0 1 W.heap.size _ (by simp) rfl (by simp; omega) (smp0 (by omega) _) ((hS.keep hB).is.mat (hS.keep hB).tab) ⟨W.heap.size, 0, rfl, Nat.le_refl _, by simp, fun i hi => by
          obtain rfl : i = 0 := by omega
          exact Blk.at_ (i := 0) (Blk.new W 3 #[.int .i64 0]) rfl⟩)
      clear HT HC
      go_wp2_with fail
      refine (HG0.out wo R M (Nat.le_refl _) HS0.out).mono ?_
      rintro e w1 ⟨A1, c1, rfl, hor, hb1⟩
      have hb1' : Below wo.heap.size wo w1 := ((Below.refl _ _).alloc (Nat.le_refl _) _).trans (hb1.mono (by simp))
      have hz1 := hb1'.size
      have HB1 := hide (show Below w.heap.size w w1 from hb.trans (hb1'.mono hz))
      have HS1 := hide ((HS0.out.keep hb1'))
      have HOR := hide hor
      clear hor hb1 hb1'
      go_wp2_with fail
      go_loopw [8, 9] (fun sv lv W => ∃ (s : Int) (C : Nat → Nat → Int) (Rx : List Sl) (top : Nat) (Al : Option Addr) (cl : Nat), sv = .int .i64 s ∧ lv = .slice Al (wayF k to C k [0]).length cl ∧ FlInv k to C s v ∧ FlS W w.heap.size top bA k c' Rx C ∧ (top ≤ W.heap.size ∧ wo.heap.size ≤ top) ∧
          ((wayF k to C k [0] = [] ∧ Al = none ∧ cl = 0) ∨ (wayF k to C k [0] ≠ [] ∧ (∃ a, Al = some a) ∧ GI W top Al (wayF k to C k [0]).length (gF (wayF k to C k [0])))) ∧ Below w.heap.size w W) (fun sv _ _ => (721 - intOf sv).toNat)
      case atStart => exact ⟨0, M, R, wo.heap.size, A1, c1, rfl, rfl, HI.out, HS1.out, ⟨hz1, Nat.le_refl _⟩, HOR.out, HB1.out⟩
      case round =>
        obtain ⟨s, C, Rx, top, Al, cl, rfl, rfl, hinv, hS, ⟨htop, htop2⟩, hor, hB⟩ := hrel
        obtain ⟨W, rfl⟩ : ∃ x, x = wr := ⟨_, rfl⟩
        have HB := hide hB
        have HS := hide hS
        have hsb := hinv.bd
        have hs0 := hinv.s0
        have hzB := hB.size
        clear hB hS HS1 HB1 HOR HS0 HI
        rcases hor with ⟨hw, rfl, rfl⟩ | ⟨hw, -, hgi⟩
        · have HV := hide (hinv.stop hw)
          rw [hw]
          have hnn := fun (W : World) => run_neq_slice_nil_any (P := Try.prog) W 26 3 none 0 0 0 0 Try.underlying26
          clear hw hinv
          go_wp2_with fail
          go_ret
          exact ⟨ret_int HV.out, HB.out⟩
        · have hf := fst_of (by omega) ht.1 hw
          have HNEXT := hide (hinv.next (by omega) ht.1 hw)
          have hCb := hinv.cell
          have HPB := hide (fun j hj a b => pushTo_bd hinv hf j hj a b)
          have hmb := fun j => minTo_bd (C := C) (l := wayF k to C k [0]) hCb j
          clear hw hinv
          generalize wayF k to C k [0] = l at *
          have hl2 := hf.two
          have hl6 := hf.smp.len.2
          have HLT := hide (fun i (hi : i < l.length) => hf.smp.at_lt hi)
          have HNE := hide (fun i (hi : i + 1 < l.length) => (fun e => by have := hf.smp.inj (by omega) hi e; omega : l.getD i 0 ≠ l.getD (i + 1) 0))
          have hfx := hf.send.1
          have HX := hide (show sendF C l = minTo C l (l.length - 1) from rfl)
          have HMB := hide hmb
          have hxb := hmb (l.length - 1)
          rw [← HX.out] at hxb
          have HGI := hide hgi
          obtain ⟨bl, ol, rfl, hbl1, hbl2, hcl⟩ := hgi
          have HCL := hide hcl
          have c0 : W.cell? ⟨bl, ol, none⟩ = some (.int .i64 (l.getD 0 0 : Nat)) := by have := hcl 0 (by omega); simpa only [Nat.add_zero, gF] using this
          have c1 : W.cell? ⟨bl, ol + 1, none⟩ = some (.int .i64 (l.getD 1 0 : Nat)) := hcl 1 (by omega)
          obtain ⟨b0, d0, hat⟩ := HS.out.is.at_ HS.out.tab (HLT.out 0 (by omega)) (HLT.out 1 (by omega))
          have a1 := hat.row
          have a2 := hat.cell
          have hp0 := HLT.out 0 (by omega)
          have hp1 := HLT.out 1 (by omega)
          have HM0 := hide (show C (l.getD 0 0) (l.getD 1 0) = minTo C l 0 from rfl)
          have hnn := fun (W : World) => run_neq_slice_nil_any (P := Try.prog) W 26 3 (some ⟨bl, ol, none⟩) l.length cl 0 0 Try.underlying26
          clear hcl hf hmb hCb hat
          generalize hq0 : C (l.getD 0 0) (l.getD 1 0) = y0 at a2 HM0
          clear hq0
          generalize l.getD 0 0 = p0 at *
          generalize l.getD 1 0 = p1 at *
          go_wp2_with fail
          go_quiet (fail)
          go_wp2_with fail
          clear c0 c1 a1 a2 hp0 hp1 hnn
          go_loopw [10, 11] (fun sv i wr => ∃ p1 q : Nat, 1 ≤ p1 ∧ p1 ≤ l.length ∧ i = .int .i64 p1 ∧ sv = .int .i64 (minTo C l (p1 - 1)) ∧ wr = W.drewN q) (fun _ i _ => l.length - (intOf i).toNat)
          case atStart => exact ⟨1, _, by omega, by omega, rfl, by rw [← HM0.out], rfl⟩
          case round =>
            obtain ⟨p1, q, hp, hp2, rfl, rfl, rfl⟩ := hrel
            by_cases hpl : p1 < l.length
            · obtain ⟨p, hpp⟩ : ∃ p, p1 = p + 1 := ⟨p1 - 1, by omega⟩
              have hpp' : p1 - 1 = p := by omega
              have c0 : W.cell? ⟨bl, ol + p, none⟩ = some (.int .i64 (l.getD p 0 : Nat)) := HCL.out p (by omega)
              have c1 : W.cell? ⟨bl, ol + p1, none⟩ = some (.int .i64 (l.getD p1 0 : Nat)) := HCL.out p1 hpl
              obtain ⟨b1, d1, hat⟩ := HS.out.is.at_ HS.out.tab (HLT.out p (by omega)) (HLT.out p1 hpl)
              have a1 : W.cell? ⟨bA, l.getD p 0, none⟩ = _ := hat.row
              have a2 : W.cell? ⟨b1, l.getD p1 0, none⟩ = _ := hat.cell
              have hp0 := HLT.out p (by omega)
              have hp1 := HLT.out p1 hpl
              have hwp : IntKind.i64.wrap ((p1 : Int) - 1) = (p : Int) := by rw [IntWalk.i64_in _ (by omega)]; omega
              have hpl0 : p < l.length := by omega
              have HMS := hide (show minTo C l p1 = if C (l.getD p 0) (l.getD p1 0) < minTo C l p then C (l.getD p 0) (l.getD p1 0) else minTo C l p by rw [hpp]; rfl)
              rw [hpp'] 
              clear hat hpp hpp'
              generalize C (l.getD p 0) (l.getD p1 0) = y1 at *
              generalize l.getD p 0 = p2 at *
              generalize l.getD p1 0 = p3 at *
              generalize minTo C l p = m1 at *
              by_cases hym : y1 < m1
              · rw [if_pos hym] at HMS
                go_wp2_with fail
                go_region
                go_wp2_with fail
                go_roundw
                case rel => exact ⟨p1 + 1, q + 1, by omega, by omega, by go_num, by rw [Nat.add_sub_cancel, HMS.out], rfl⟩
                case measure => simp [intOf]; omega
              · rw [if_neg hym] at HMS
                go_wp2_with fail
                go_region
                go_wp2_with fail
                go_roundw
                case rel => exact ⟨p1 + 1, q + 1, by omega, by omega, by go_num, by rw [Nat.add_sub_cancel, HMS.out], rfl⟩
                case measure => simp [intOf]; omega
            · have hpe : p1 = l.length := by omega
              rw [show minTo C l (p1 - 1) = sendF C l by rw [HX.out, hpe]]
              clear hpe
              go_wp2_with fail
              have HGQ := hide (show GI (W.drewN q) top (some ⟨bl, ol, none⟩) l.length (gF l) from HGI.out)
              have HSQ := hide (show FlS (W.drewN q) w.heap.size top bA k c' Rx C from ⟨⟨HS.out.tab.tab.drewN q, HS.out.tab.apart, HS.out.tab.under⟩, HS.out.is⟩)
              have HBQ := hide (below_drewN HB.out q)
              have hsz : (W.drewN q).heap.size = W.heap.size := rfl
              go_loopw [12] (fun i wr => ∃ (p1 : Nat) (Rp : List Sl), 1 ≤ p1 ∧ p1 ≤ l.length ∧ i = .int .i64 p1 ∧ FlS wr w.heap.size top bA k c' Rp (pushTo C (sendF C l) l (p1 - 1)) ∧ GI wr top (some ⟨bl, ol, none⟩) l.length (gF l) ∧ Below w.heap.size w wr ∧ W.heap.size ≤ wr.heap.size) (fun i _ => l.length - (intOf i).toNat)
              case atStart => exact ⟨1, _, by omega, by omega, rfl, HSQ.out, HGQ.out, HBQ.out, Nat.le_refl _⟩
              case round =>
                obtain ⟨p1, Rp, hp, hp2, rfl, hS1, hG1, hB1, hW1⟩ := hrel
                obtain ⟨wi, rfl⟩ : ∃ x, x = wr := ⟨_, rfl⟩
                have HS1 := hide hS1
                have HG1 := hide hG1
                have HB1 := hide hB1
                clear hS1 hG1 hB1
                by_cases hpl : p1 < l.length
                · obtain ⟨p, hpp⟩ : ∃ p, p1 = p + 1 := ⟨p1 - 1, by omega⟩
                  have hpp' : p1 - 1 = p := by omega
                  rw [hpp'] at HS1
                  obtain ⟨_, _, e, _, hbl3, hcl1⟩ := HG1.out
                  obtain ⟨rfl, rfl⟩ : bl = _ ∧ ol = _ := by simpa using e
                  have HCL1 := hide hcl1
                  have c0 : wi.cell? ⟨bl, ol + p, none⟩ = some (.int .i64 (l.getD p 0 : Nat)) := hcl1 p (by omega)
                  have c1 : wi.cell? ⟨bl, ol + p1, none⟩ = some (.int .i64 (l.getD p1 0 : Nat)) := hcl1 p1 hpl
                  obtain ⟨b1, d1, hat⟩ := HS1.out.is.at_ HS1.out.tab (HLT.out p (by omega)) (HLT.out p1 hpl)
                  have a1 := hat.row
                  have a2 := hat.cell
                  have a3 := hat.fz
                  have hp0 := HLT.out p (by omega)
                  have hp1 := HLT.out p1 hpl
                  have hwp : IntKind.i64.wrap ((p1 : Int) - 1) = (p : Int) := by rw [IntWalk.i64_in _ (by omega)]; omega
                  have hpl0 : p < l.length := by omega
                  have hb1t : b1 < top := hat.hi
                  have hb1l : w.heap.size ≤ b1 := hat.lo
                  have hblne : bl ≠ b1 := by omega
                  have hyb := HPB.out p (by omega) (l.getD p 0) (l.getD p1 0)
                  have HPD := hide (show pushTo C (sendF C l) l p1 = push1 (pushTo C (sendF C l) l p) (sendF C l) (l.getD p 0) (l.getD p1 0) by rw [hpp]; rfl)
                  have HSET := hide (hat.set (pushTo C (sendF C l) l p (l.getD p 0) (l.getD p1 0) - sendF C l))
                  have hne := HNE.out p (by omega)
                  rw [← hpp] at hne
                  have HZB := hide (HPB.out p (by omega) (l.getD p1 0) (l.getD p 0))
                  have HP1 := hide hpp
                  clear hat hpp hpp' hcl1 e
                  generalize hC1 : pushTo C (sendF C l) l p = C1 at *
                  generalize sendF C l = x at *
                  generalize hpa : l.getD p 0 = pa at *
                  generalize hpb : l.getD p1 0 = pb at *
                  have HPA := hide hpa
                  have HPBB := hide hpb
                  clear hpa hpb hC1
                  generalize hy : C1 pa pb = y at a2 hyb HSET
                  have HY := hide hy
                  clear hy
                  go_wp2_with fail
                  go_region
                  obtain ⟨R2, ht2, hm2⟩ := HSET.out
                  refine nameX (fun wx => FlS wx w.heap.size top bA k c' R2 (upd C1 pa pb (y - x)) ∧ GI wx top (some ⟨bl, ol, none⟩) l.length (gF l) ∧ Below w.heap.size w wx ∧ W.heap.size ≤ wx.heap.size) ?_ ?_

                  · exact ⟨⟨(by first | exact ht2 | exact ht2.drew), hm2⟩, HG1.out.set (p := ⟨b1, pb, none⟩) hb1t _, (by first | exact HB1.out.setCell (p := ⟨b1, pb, none⟩) hb1l _ | exact Below.drew (HB1.out.setCell (p := ⟨b1, pb, none⟩) hb1l _)), by simpa [World.setCell] using hW1⟩
                  rintro wx ⟨hS2, hG2, hB2, hW2⟩
                  have HG2 := hide hG2
                  have HB2 := hide hB2
                  obtain ⟨_, _, e, _, _, hcl2⟩ := hG2
                  obtain ⟨rfl, rfl⟩ : bl = _ ∧ ol = _ := by simpa using e
                  have c0' : wx.cell? ⟨bl, ol + p, none⟩ = some (.int .i64 (pa : Nat)) := by have := hcl2 p (by omega); rwa [gF, HPA.out] at this
                  have c1' : wx.cell? ⟨bl, ol + p1, none⟩ = some (.int .i64 (pb : Nat)) := by have := hcl2 p1 hpl; rwa [gF, HPBB.out] at this
                  obtain ⟨b2, d2, hat2⟩ := hS2.is.at_ hS2.tab hp1 hp0
                  have q1 := hat2.row
                  have q2 := hat2.cell
                  have q3 := hat2.fz
                  have hb2t : b2 < top := hat2.hi
                  have hb2l : w.heap.size ≤ b2 := hat2.lo
                  have hzv : upd C1 pa pb (y - x) pb pa = C1 pb pa := upd_ne (by rintro ⟨e, _⟩; exact hne e.symm)
                  have hzb := HZB.out
                  have HSET2 := hide (hat2.set (upd C1 pa pb (y - x) pb pa + x))
                  have HPD2 := hide (show pushTo C x l p1 = upd (upd C1 pa pb (y - x)) pb pa (upd C1 pa pb (y - x) pb pa + x) by rw [HPD.out, push1, HY.out])
                  rw [← hzv] at hzb
                  clear hat2 hcl2 e hS2 hB2 hzv ht2 hm2 c0 c1 a1 a2 a3
                  generalize upd C1 pa pb (y - x) pb pa = z at q2 hzb HSET2 HPD2
                  generalize upd C1 pa pb (y - x) = C2 at *
                  go_wp2_with fail
                  go_region
                  obtain ⟨R3, ht3, hm3⟩ := HSET2.out
                  have HF := hide (show FlS (wx.setCell ⟨b2, pa, none⟩ (.int .i64 (z + x))) w.heap.size top bA k c' R3 (pushTo C x l p1) from ⟨ht3, by rw [HPD2.out]; exact hm3⟩)
                  have HGF := hide (HG2.out.set (p := ⟨b2, pa, none⟩) hb2t (.int .i64 (z + x)))
                  have HBF := hide (HB2.out.setCell (p := ⟨b2, pa, none⟩) hb2l (.int .i64 (z + x)))
                  clear ht3 hm3
                  go_wp2_with fail
                  go_roundw
                  case rel => exact ⟨p1 + 1, R3, by omega, by omega, by go_num, by first | exact ⟨HF.out.tab.drew, HF.out.is⟩ | exact HF.out, HGF.out, (by first | exact HBF.out | exact Below.drew HBF.out), by simpa [World.setCell] using hW2⟩
                  case measure => simp [intOf]; omega
                · have hpe : p1 = l.length := by omega
                  have HFS := hide (show FlS wi w.heap.size top bA k c' Rp (stepF C l) by
                    have := HS1.out
                    rwa [hpe] at this)
                  clear hpe
                  have hs2 : -100 ≤ s + sendF C l ∧ s + sendF C l ≤ 10000 := by omega
                  have HGN := hide (HG0.out wi Rp (stepF C l) (by omega) (HFS.out.mono (by omega)))
                  go_wp2_with fail
                  refine (HGN.out).mono ?_
                  rintro e w5 ⟨A5, c5, rfl, hor5, hb5⟩
                  have hb5' : Below wi.heap.size wi w5 := ((Below.refl _ _).alloc (Nat.le_refl _) _).trans (hb5.mono (by simp))
                  have hz5 := hb5'.size
                  have HB5 := hide (show Below w.heap.size w w5 from HB1.out.trans (hb5'.mono (by omega)))
                  have HS5 := hide (((HFS.out.mono (show top ≤ wi.heap.size by omega)).keep hb5'))
                  have HOR5 := hide hor5
                  clear hor5 hb5 hb5'
                  go_wp2_with fail
                  go_roundw
                  case rel => exact ⟨_, stepF C l, Rp, wi.heap.size, A5, c5, rfl, rfl, HNEXT.out, HS5.out, ⟨hz5, by omega⟩, HOR5.out, HB5.out⟩
                  case measure => simp [intOf]; omega
end Go.Proofs.Ytecmihmopiepfaa
