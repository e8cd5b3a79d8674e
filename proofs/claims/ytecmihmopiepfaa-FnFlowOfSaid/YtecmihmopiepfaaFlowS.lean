/-
  FlowOf, the reference's side. Conditions: the net can be read.
-/
import Derived.Test.YtecmihmopiepfaaFlowI
import Derived.StillTailTactics
namespace Go.Proofs.Ytecmihmopiepfaa
open Go.RowKit

set_option maxHeartbeats 4000000 in
set_option maxRecDepth 100000 in
theorem flowS_go (A : Option Addr) (n c : Nat) (L : Nat → Nat) (M : Nat → Nat → Int) (to : Nat) (w : World) (hn : 2 ≤ n ∧ n ≤ 6) (ht : 1 ≤ to ∧ to < n) (v : Int) (hi : FlInv n to M 0 v)
    (hG : Calls Try.prog 45 #[.slice A n c] w fun e w' => e = .returned (.bool true) ∧ Below w.heap.size w w') (hR : inR to 1 ((n : Int) - 1) = true) (hL : ∀ i, i < n → L i = n) (h : Mat w w.heap.size A n L M) :
    Calls Try.prog 30 #[.slice A n c, .int .i64 to] w fun e w' => e = .returned (.int .i64 v) ∧ Below w.heap.size w w' := by
  have HG := hide hG
  have HL := hide hL
  have Hh := hide h
  have HI := hide hi
  clear hG hL h hi
  go_enter Try.func30, Try.ntmps30
  go_wp2_with fail
  refine (HG.out).mono ?_
  rintro e w0 ⟨rfl, hb0⟩
  have hz0 := hb0.size
  have HCR := hide (copyRows_any A n c L M w0 (by omega) (fun i hi => by have := HL.out i hi; omega) (Hh.out.keep hb0 hz0))
  go_wp2_with (first | (go_at_call 47; refine (inRange_any _ _ _ _).mono ?_; rintro e w' ⟨rfl, rfl⟩; rw [hR]))
  refine (HCR.out).mono ?_
  rintro e wo ⟨A1, cA, R, rfl, ⟨htb, hcp⟩, hb1⟩
  have hz1 := hb1.size
  have hbo : Below w.heap.size w wo := hb0.trans (hb1.mono hz0)
  have hz := hbo.size
  obtain ⟨bA, rfl, hbA, hbA2⟩ : ∃ b, A1 = some ⟨b, 0, none⟩ ∧ w.heap.size ≤ b ∧ b < wo.heap.size := by
    rcases htb.tab.form with ⟨_, h0, _⟩ | ⟨g, e, h1, h2, _⟩
    · omega
    · exact ⟨g, e, by omega, h2⟩
  have HS0 := hide (show FlS wo w.heap.size wo.heap.size bA n cA R M from ⟨htb.mono hz0 (Nat.le_refl _), FlM.of_copied hcp HL.out⟩)
  have HG0 := hide (show ∀ (W : World) (Rx : List Sl) (Cx : Nat → Nat → Int), wo.heap.size ≤ W.heap.size → FlS W w.heap.size W.heap.size bA n cA Rx Cx →
      Calls Try.prog 58 #[.slice (some ⟨bA, 0, none⟩) n cA, .int .i64 to, .slice (some ⟨W.heap.size, 0, none⟩) 1 1] (W.alloc (.cells #[.int .i64 0] 3)) (WayPost (wayF n to Cx n [0]) W.heap.size (W.alloc (.cells #[.int .i64 0] 3))) from fun W Rx Cx hW hS => by
    have hB := (Below.refl W.heap.size W).alloc (Nat.le_refl _) (.cells #[.int .i64 0] 3)
    exact wayS_any n to Cx hn n [0] _ _ cA 0 1 W.heap.size _ (by simp) rfl (by simp; omega) (smp0 (by omega) _) ((hS.keep hB).is.mat (hS.keep hB).tab) ⟨W.heap.size, 0, rfl, Nat.le_refl _, by simp, fun i hi => by
      obtain rfl : i = 0 := by omega
      exact Blk.at_ (i := 0) (Blk.new W 3 #[.int .i64 0]) rfl⟩)
  have HBO := hide hbo
  clear htb hcp hb0 hb1 hbo
  go_wp2_with fail
  go_loopw [6] (fun sv W => ∃ (s : Int) (C : Nat → Nat → Int) (Rx : List Sl), sv = .int .i64 s ∧ FlInv n to C s v ∧ FlS W w.heap.size W.heap.size bA n cA Rx C ∧ wo.heap.size ≤ W.heap.size ∧ Below w.heap.size w W) (fun sv _ => (721 - intOf sv).toNat)
  case atStart => exact ⟨0, M, R, rfl, HI.out, HS0.out, Nat.le_refl _, HBO.out⟩
  case round =>
    obtain ⟨s, C, Rx, rfl, hinv, hS0, hWo, hB0⟩ := hrel
    obtain ⟨Wi, rfl⟩ : ∃ x, x = wr := ⟨_, rfl⟩
    have HGN := hide (HG0.out Wi Rx C hWo hS0)
    have HSX := hide hS0
    have HBX := hide hB0
    have hsb := hinv.bd
    have hs0 := hinv.s0
    have hzX := hB0.size
    clear hS0 hB0 HS0 HBO HI
    go_wp2_with fail
    refine (HGN.out).mono ?_
    rintro e W ⟨Al, cl, rfl, hor, hbW⟩
    have hbW' : Below Wi.heap.size Wi W := ((Below.refl _ _).alloc (Nat.le_refl _) _).trans (hbW.mono (by simp))
    have htop := hbW'.size
    have HB := hide (HBX.out.trans (hbW'.mono hzX))
    have HS := hide (HSX.out.keep hbW')
    have hzB := HB.out.size
    obtain ⟨top, htp⟩ : ∃ t, t = Wi.heap.size := ⟨_, rfl⟩
    rw [← htp] at HS htop hor
    have htopo : wo.heap.size ≤ top := by omega
    have HTP := hide htp
    clear hbW hbW' htp HGN
    rcases hor with ⟨hw, rfl, rfl⟩ | ⟨hw, -, hgi⟩
    · have HV := hide (hinv.stop hw)
      rw [hw]
      clear hw hinv
      go_wp2_with fail
      go_ret
      exact ⟨ret_int HV.out, HB.out⟩
    · have hf := fst_of (by omega) ht.1 hw
      have HNEXT := hide (hinv.next (by omega) ht.1 hw)
      have hCb := hinv.cell
      have HPB := hide (fun j hj a b => pushTo_bd hinv hf j hj a b)
      have hmb := fun j => minTo_bd (C := C) (l := wayF n to C n [0]) hCb j
      clear hw hinv
      generalize wayF n to C n [0] = l at *
      have hl2 := hf.two
      have hl6 := hf.smp.len.2
      have hl00 : ((l.length : Int) == 0) = false := by rw [beq_eq_false_iff_ne]; omega
      have HLT := hide (fun i (hi : i < l.length) => hf.smp.at_lt hi)
      have HNE := hide (fun i (hi : i + 1 < l.length) => (fun e => by have := hf.smp.inj (by omega) hi e; omega : l.getD i 0 ≠ l.getD (i + 1) 0))
      have hfx := hf.send.1
      have HX := hide (show sendF C l = minTo C l (l.length - 1) from rfl)
      have HMB := hide hmb
      have hxb := hmb (l.length - 1)
      rw [← HX.out] at hxb
      have HGI := hide hgi
      obtain ⟨bl, ol, rfl, hbl1, hbl2, hcl⟩ := hgi
      have HCL := hide hcl
      have c0 : W.cell? ⟨bl, ol, none⟩ = some (.int .i64 (l.getD 0 0 : Nat)) := by have := hcl 0 (by omega); simpa only [Nat.add_zero, gF] using this
      have c1 : W.cell? ⟨bl, ol + 1, none⟩ = some (.int .i64 (l.getD 1 0 : Nat)) := hcl 1 (by omega)
      obtain ⟨b0, d0, hat⟩ := HS.out.is.at_ HS.out.tab (HLT.out 0 (by omega)) (HLT.out 1 (by omega))
      have a1 := hat.row
      have a2 := hat.cell
      have hp0 := HLT.out 0 (by omega)
      have hp1 := HLT.out 1 (by omega)
      have HM0 := hide (show C (l.getD 0 0) (l.getD 1 0) = minTo C l 0 from rfl)
      clear hcl hf hmb hCb hat
      generalize hq0 : C (l.getD 0 0) (l.getD 1 0) = y0 at a2 HM0
      clear hq0
      generalize l.getD 0 0 = p0 at *
      generalize l.getD 1 0 = p1 at *
      go_wp2_with fail
      go_quiet (fail)
      go_wp2_with fail
      clear c0 c1 a1 a2 hp0 hp1
      go_loopw [8, 9] (fun sv i wr => ∃ p q : Nat, p + 1 ≤ l.length ∧ i = .int .i64 p ∧ sv = .int .i64 (minTo C l p) ∧ wr = W.drewN q) (fun _ i _ => l.length - (intOf i).toNat)
      case atStart => exact ⟨0, _, by omega, rfl, by rw [← HM0.out], rfl⟩
      case round =>
        obtain ⟨p, q, hp, rfl, rfl, rfl⟩ := hrel
        obtain ⟨p1, hpp⟩ : ∃ p1, p1 = p + 1 := ⟨_, rfl⟩
        by_cases hpl : p1 < l.length
        · have hpl' : p + 1 < l.length := by omega
          have hpl0 : p < l.length := by omega
          have c0 : W.cell? ⟨bl, ol + p, none⟩ = some (.int .i64 (l.getD p 0 : Nat)) := HCL.out p (by omega)
          have c1 : W.cell? ⟨bl, ol + p1, none⟩ = some (.int .i64 (l.getD p1 0 : Nat)) := HCL.out p1 hpl
          obtain ⟨b1, d1, hat⟩ := HS.out.is.at_ HS.out.tab (HLT.out p (by omega)) (HLT.out p1 hpl)
          have a1 : W.cell? ⟨bA, l.getD p 0, none⟩ = _ := hat.row
          have a2 : W.cell? ⟨b1, l.getD p1 0, none⟩ = _ := hat.cell
          have hp0 := HLT.out p (by omega)
          have hp1 := HLT.out p1 hpl
          have hwp : IntKind.i64.wrap ((p : Int) + 1) = (p1 : Int) := by rw [IntWalk.i64_in _ (by omega)]; omega
          have HMS := hide (show minTo C l p1 = if C (l.getD p 0) (l.getD p1 0) < minTo C l p then C (l.getD p 0) (l.getD p1 0) else minTo C l p by rw [hpp]; rfl)
          have HPP := hide hpp
          clear hat hpp
          generalize C (l.getD p 0) (l.getD p1 0) = y1 at *
          generalize l.getD p 0 = p2 at *
          generalize l.getD p1 0 = p3 at *
          generalize minTo C l p = m1 at *
          by_cases hym : y1 < m1
          · rw [if_pos hym] at HMS
            go_wp2_with fail
            go_region
            go_wp2_with fail
            go_roundw
            case rel => first | exact ⟨p1, q + 1, by omega, by have := HPP.out; go_num, by rw [HMS.out], rfl⟩ | ((repeat apply Exists.intro); exact ⟨⟨p1, q + 1, by omega, by have := HPP.out; go_num, by rw [HMS.out], rfl⟩, rfl⟩)
            case measure => have := HPP.out; simp [intOf]; omega
          · rw [if_neg hym] at HMS
            go_wp2_with fail
            go_region
            go_wp2_with fail
            go_roundw
            case rel => first | exact ⟨p1, q + 1, by omega, by have := HPP.out; go_num, by rw [HMS.out], rfl⟩ | ((repeat apply Exists.intro); exact ⟨⟨p1, q + 1, by omega, by have := HPP.out; go_num, by rw [HMS.out], rfl⟩, rfl⟩)
            case measure => have := HPP.out; simp [intOf]; omega
        · have hpe : p = l.length - 1 := by omega
          rw [show minTo C l p = sendF C l by rw [HX.out, hpe]]
          have hpl' : ¬ p + 1 < l.length := by omega
          have HPP := hide hpp
          have HPE := hide hpe
          clear hpe hpp
          go_wp2_with fail
          have HGQ := hide (show GI (W.drewN q) top (some ⟨bl, ol, none⟩) l.length (gF l) from HGI.out)
          have HSQ := hide (show FlS (W.drewN q) w.heap.size top bA n cA Rx C from ⟨⟨HS.out.tab.tab.drewN q, HS.out.tab.apart, HS.out.tab.under⟩, HS.out.is⟩)
          have HBQ := hide (below_drewN HB.out q)
          have hsz : (W.drewN q).heap.size = W.heap.size := rfl
          go_loopw [10] (fun i wr => ∃ (p : Nat) (Rp : List Sl), p + 1 ≤ l.length ∧ i = .int .i64 p ∧ FlS wr w.heap.size top bA n cA Rp (pushTo C (sendF C l) l p) ∧ GI wr top (some ⟨bl, ol, none⟩) l.length (gF l) ∧ Below w.heap.size w wr ∧ W.heap.size ≤ wr.heap.size) (fun i _ => l.length - (intOf i).toNat)
          case atStart => exact ⟨0, _, by omega, rfl, HSQ.out, HGQ.out, HBQ.out, Nat.le_refl _⟩
          case round =>
            obtain ⟨p, Rp, hp, rfl, hS1, hG1, hB1, hW1⟩ := hrel
            obtain ⟨wi, rfl⟩ : ∃ x, x = wr := ⟨_, rfl⟩
            have HS1 := hide hS1
            have HG1 := hide hG1
            have HB1 := hide hB1
            clear hS1 hG1 hB1
            obtain ⟨p1, hpp⟩ : ∃ p1, p1 = p + 1 := ⟨_, rfl⟩
            by_cases hpl : p1 < l.length
            · have hpl' : p + 1 < l.length := by omega
              obtain ⟨_, _, e, _, hbl3, hcl1⟩ := HG1.out
              obtain ⟨rfl, rfl⟩ : bl = _ ∧ ol = _ := by simpa using e
              have HCL1 := hide hcl1
              have c0 : wi.cell? ⟨bl, ol + p, none⟩ = some (.int .i64 (l.getD p 0 : Nat)) := hcl1 p (by omega)
              have c1 : wi.cell? ⟨bl, ol + p1, none⟩ = some (.int .i64 (l.getD p1 0 : Nat)) := hcl1 p1 hpl
              obtain ⟨b1, d1, hat⟩ := HS1.out.is.at_ HS1.out.tab (HLT.out p (by omega)) (HLT.out p1 hpl)
              have a1 := hat.row
              have a2 := hat.cell
              have a3 := hat.fz
              have hp0 := HLT.out p (by omega)
              have hp1 := HLT.out p1 hpl
              have hwp : IntKind.i64.wrap ((p : Int) + 1) = (p1 : Int) := by rw [IntWalk.i64_in _ (by omega)]; omega
              have hpl0 : p < l.length := by omega
              have hb1t : b1 < top := hat.hi
              have hb1l : w.heap.size ≤ b1 := hat.lo
              have hblne : bl ≠ b1 := by omega
              have hyb := HPB.out p (by omega) (l.getD p 0) (l.getD p1 0)
              have HPD := hide (show pushTo C (sendF C l) l p1 = push1 (pushTo C (sendF C l) l p) (sendF C l) (l.getD p 0) (l.getD p1 0) by rw [hpp]; rfl)
              have HSET := hide (hat.set (pushTo C (sendF C l) l p (l.getD p 0) (l.getD p1 0) - sendF C l))
              have hne := HNE.out p (by omega)
              rw [← hpp] at hne
              have HZB := hide (HPB.out p (by omega) (l.getD p1 0) (l.getD p 0))
              have HP1 := hide hpp
              clear hat hpp hcl1 e
              generalize hC1 : pushTo C (sendF C l) l p = C1 at *
              generalize sendF C l = x at *
              generalize hpa : l.getD p 0 = pa at *
              generalize hpb : l.getD p1 0 = pb at *
              have HPA := hide hpa
              have HPBB := hide hpb
              clear hpa hpb hC1
              generalize hy : C1 pa pb = y at a2 hyb HSET
              have HY := hide hy
              clear hy
              go_wp2_with fail
              go_still_tail 29, (by kernel_rfl)
              change wpList _ _ _ _ _ wi.drew
              go_wp2_with fail
              obtain ⟨R2, ht2, hm2⟩ := HSET.out
              refine nameX (fun wx => FlS wx w.heap.size top bA n cA R2 (upd C1 pa pb (y - x)) ∧ GI wx top (some ⟨bl, ol, none⟩) l.length (gF l) ∧ Below w.heap.size w wx ∧ W.heap.size ≤ wx.heap.size) ?_ ?_

              · exact ⟨⟨(by first | exact ht2 | exact ht2.drew), hm2⟩, HG1.out.set (p := ⟨b1, pb, none⟩) hb1t _, (by first | exact HB1.out.setCell (p := ⟨b1, pb, none⟩) hb1l _ | exact Below.drew (HB1.out.setCell (p := ⟨b1, pb, none⟩) hb1l _)), by simpa [World.setCell] using hW1⟩
              rintro wx ⟨hS2, hG2, hB2, hW2⟩
              have HG2 := hide hG2
              have HB2 := hide hB2
              obtain ⟨_, _, e, _, _, hcl2⟩ := hG2
              obtain ⟨rfl, rfl⟩ : bl = _ ∧ ol = _ := by simpa using e
              have c0' : wx.cell? ⟨bl, ol + p, none⟩ = some (.int .i64 (pa : Nat)) := by have := hcl2 p (by omega); rwa [gF, HPA.out] at this
              have c1' : wx.cell? ⟨bl, ol + p1, none⟩ = some (.int .i64 (pb : Nat)) := by have := hcl2 p1 hpl; rwa [gF, HPBB.out] at this
              obtain ⟨b2, d2, hat2⟩ := hS2.is.at_ hS2.tab hp1 hp0
              have q1 := hat2.row
              have q2 := hat2.cell
              have q3 := hat2.fz
              have hb2t : b2 < top := hat2.hi
              have hb2l : w.heap.size ≤ b2 := hat2.lo
              have hzv : upd C1 pa pb (y - x) pb pa = C1 pb pa := upd_ne (by rintro ⟨e, _⟩; exact hne e.symm)
              have hzb := HZB.out
              have HSET2 := hide (hat2.set (upd C1 pa pb (y - x) pb pa + x))
              have HPD2 := hide (show pushTo C x l p1 = upd (upd C1 pa pb (y - x)) pb pa (upd C1 pa pb (y - x) pb pa + x) by rw [HPD.out, push1, HY.out])
              rw [← hzv] at hzb
              clear hat2 hcl2 e hS2 hB2 hzv ht2 hm2 c0 c1 a1 a2 a3
              generalize upd C1 pa pb (y - x) pb pa = z at q2 hzb HSET2 HPD2
              generalize upd C1 pa pb (y - x) = C2 at *
              go_still_tail 29, (by kernel_rfl)
              change wpList _ _ _ _ _ wx.drew
              go_wp2_with fail
              obtain ⟨R3, ht3, hm3⟩ := HSET2.out
              have HF := hide (show FlS (wx.setCell ⟨b2, pa, none⟩ (.int .i64 (z + x))) w.heap.size top bA n cA R3 (pushTo C x l p1) from ⟨ht3, by rw [HPD2.out]; exact hm3⟩)
              have HGF := hide (HG2.out.set (p := ⟨b2, pa, none⟩) hb2t (.int .i64 (z + x)))
              have HBF := hide (HB2.out.setCell (p := ⟨b2, pa, none⟩) hb2l (.int .i64 (z + x)))
              clear ht3 hm3
              go_roundw
              case rel => exact ⟨p1, R3, by omega, by have := HP1.out; go_num, by first | exact ⟨HF.out.tab.drew, HF.out.is⟩ | exact HF.out, HGF.out, (by first | exact HBF.out | exact Below.drew HBF.out), by simpa [World.setCell] using hW2⟩
              case measure => have := HP1.out; simp [intOf]; omega
            · have hpe : p = l.length - 1 := by omega
              have hpl' : ¬ p + 1 < l.length := by omega
              have HFS := hide (show FlS wi w.heap.size top bA n cA Rp (stepF C l) by
                have := HS1.out
                rwa [hpe] at this)
              clear hpe hpp
              have hs2 : -100 ≤ s + sendF C l ∧ s + sendF C l ≤ 10000 := by omega
              go_wp2_with fail
              go_roundw
              case rel => exact ⟨_, stepF C l, Rp, rfl, HNEXT.out, HFS.out.mono (by omega), by omega, HB1.out⟩
              case measure => simp [intOf]; omega
end Go.Proofs.Ytecmihmopiepfaa
