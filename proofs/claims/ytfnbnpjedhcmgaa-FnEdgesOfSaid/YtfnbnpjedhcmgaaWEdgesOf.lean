/-
  FnEdgesOf returns true for every code: the walk. Conditions: none.
-/
import Derived.Test.YtfnbnpjedhcmgaaStoreDraw2
import Derived.Test.YtfnbnpjedhcmgaaStore6
import Derived.Test.YtfnbnpjedhcmgaaLeastPlain
namespace Go.Proofs.Ytfnbnpjedhcmgaa
open Go.RowKit

/-- what the law says of a valid store, in plain Lean -/
def edChk (nd ne ak : Int) : Bool :=
  capOf nd ne ak (ak - ne + 1) 1 == ne * (ak - ne + 1) && capOf nd ne ak (2 * ak) 2 == ne * (2 * ak + 1 - ne) &&
  leastS nd ne ak (ak - ne + 1) 1 (ne * (ak - ne + 1)) == (1, true) && leastK nd ne ak (2 * ak) 2 (ne * (2 * ak + 1 - ne)) == (2 * ak, true) &&
  leastK nd ne ak (ak - ne + 1) 1 (ne * (ak - ne + 1)) == (ak - ne + 1, true) && leastS nd ne ak (2 * ak) 2 (ne * (2 * ak + 1 - ne)) == (2, true)
theorem edChk_all : ((List.range 5).all fun i => (List.range 5).all fun j => (List.range 5).all fun l => !(decide (j ≤ l) && decide (l ≤ i)) || edChk ((i : Int) + 2) ((j : Int) + 1) ((l : Int) + 1)) = true := by decide +kernel
theorem edChk_true {nd ne ak k s : Int} (hv : vSt nd ne ak k s = true) : edChk nd ne ak = true := by
  obtain ⟨b1, b2, b3, b4, b5, b6, b7, b8, b9, b10⟩ := vSt_bd hv
  have h := edChk_all
  rw [List.all_eq_true] at h
  have h1 := h (nd - 2).toNat (by rw [List.mem_range]; omega)
  rw [List.all_eq_true] at h1
  have h2 := h1 (ne - 1).toNat (by rw [List.mem_range]; omega)
  rw [List.all_eq_true] at h2
  have h3 := h2 (ak - 1).toNat (by rw [List.mem_range]; omega)
  rw [show (((nd - 2).toNat : Nat) : Int) + 2 = nd by omega, show (((ne - 1).toNat : Nat) : Int) + 1 = ne by omega, show (((ak - 1).toNat : Nat) : Int) + 1 = ak by omega] at h3
  rw [show decide ((ne - 1).toNat ≤ (ak - 1).toNat) = true by simp; omega, show decide ((ak - 1).toNat ≤ (nd - 2).toNat) = true by simp; omega] at h3
  simpa using h3


theorem edChk_parts {nd ne ak : Int} (h : edChk nd ne ak = true) : capOf nd ne ak (ak - ne + 1) 1 = ne * (ak - ne + 1) ∧ capOf nd ne ak (2 * ak) 2 = ne * (2 * ak + 1 - ne) ∧
    leastS nd ne ak (ak - ne + 1) 1 (ne * (ak - ne + 1)) = (1, true) ∧ leastK nd ne ak (2 * ak) 2 (ne * (2 * ak + 1 - ne)) = (2 * ak, true) ∧
    leastK nd ne ak (ak - ne + 1) 1 (ne * (ak - ne + 1)) = (ak - ne + 1, true) ∧ leastS nd ne ak (2 * ak) 2 (ne * (2 * ak + 1 - ne)) = (2, true) := by
  simp only [edChk, Bool.and_eq_true, beq_iff_eq] at h
  obtain ⟨⟨⟨⟨⟨h1, h2⟩, h3⟩, h4⟩, h5⟩, h6⟩ := h
  exact ⟨h1, h2, h3, h4, h5, h6⟩

theorem edgeV_yes {nd ne ak k s : Int} (hv : vSt nd ne ak k s = true) : edgeV nd ne ak k s = .tuple #[.agg #[.int .i64 nd, .int .i64 ne, .int .i64 ak, .int .i64 (ak - ne + 1), .int .i64 1], .int .i64 (ne * (ak - ne + 1)), .agg #[.int .i64 nd, .int .i64 ne, .int .i64 ak, .int .i64 (2 * ak), .int .i64 2], .int .i64 (ne * (2 * ak + 1 - ne))] := by simp [edgeV, hv]
theorem edgeV_no {nd ne ak k s : Int} (hv : vSt nd ne ak k s = false) : edgeV nd ne ak k s = .tuple #[.agg #[.int .i64 0, .int .i64 0, .int .i64 0, .int .i64 0, .int .i64 0], .int .i64 0, .agg #[.int .i64 0, .int .i64 0, .int .i64 0, .int .i64 0, .int .i64 0], .int .i64 0] := by simp [edgeV, hv]

set_option maxHeartbeats 2000000 in
theorem fnEdgesOf_walk (a : Option Addr) (len cap : Nat) (zs : List Int) (w : World) (h : IsRow .u8 w a len cap zs) :
    Calls Try.prog 14 #[.slice a len cap] w fun e w' => e = .returned (.bool true) ∧ Below w.heap.size w w' := by
  have hlen : len ≤ 9223372036854775807 := by obtain ⟨h1, h2, _⟩ := bytes_in h; unfold maxLen at h2; omega
  have Hh := hide h
  clear h
  by_cases hl : 1048576 < len
  · go_enter Try.func14, Try.ntmps14
    go_wp2_with fail
    go_ret
    exact ⟨rfl, by go_grown⟩
  go_enter Try.func14, Try.ntmps14
  go_wp2_with fail
  refine (DrawEdgesOf_any a len cap zs w _ Hh.out (by go_grown)).mono ?_
  rintro e w1 ⟨nd, ne, ak, k, s, rfl, hb1⟩
  have HB1 := hide hb1
  have z1 := hb1.size
  clear hb1
  cases hv : vSt nd ne ak k s
  · have KI := hide (fun W => EdgesOfI_any nd ne ak k s W)
    have KS := hide (fun W => EdgesOfS_any nd ne ak k s W)
    have KV := hide (fun W => ValidStoreI_any nd ne ak k s W)
    rw [edgeV_no hv] at KI KS
    rw [hv] at KV
    clear hv
    go_wp2_with fail
    refine (KI.out _).mono ?_
    rintro e w2 ⟨rfl, hb2⟩
    have b0 : SBlk w2 w1.heap.size 29 #[.int .i64 nd, .int .i64 ne, .int .i64 ak, .int .i64 k, .int .i64 s] := SBlk.below (SBlk.new w1 _ _) hb2 (by simp)
    have z2 : w1.heap.size < w2.heap.size := b0.lt
    have B2 := hide (up hb2 (HB1.out.alloc z1 _) (by simp; omega))
    have c0 := b0.at_ (i := 0) rfl
    have c1 := b0.at_ (i := 1) rfl
    have c2 := b0.at_ (i := 2) rfl
    have c3 := b0.at_ (i := 3) rfl
    have c4 := b0.at_ (i := 4) rfl
    have B0 := hide b0
    clear hb2 b0
    go_wp2_with fail
    refine (KS.out _).mono ?_
    rintro e w3 ⟨rfl, hb3⟩
    clear c0 c1 c2 c3 c4
    have g0 : SBlk w3 w1.heap.size 29 #[.int .i64 nd, .int .i64 ne, .int .i64 ak, .int .i64 k, .int .i64 s] := SBlk.below ((B0.out.alloc _).alloc _) hb3 (by simp; omega)
    have g1 : SBlk w3 w2.heap.size 29 #[.int .i64 0, .int .i64 0, .int .i64 0, .int .i64 0, .int .i64 0] := SBlk.below ((SBlk.new w2 _ _).alloc _) hb3 (by simp; omega)
    have g2 : SBlk w3 (w2.heap.size + 1) 29 #[.int .i64 0, .int .i64 0, .int .i64 0, .int .i64 0, .int .i64 0] := SBlk.below (SBlk.newAt (by simp) _ _) hb3 (by simp)
    have z3 : w2.heap.size + 1 < w3.heap.size := g2.lt
    have B3 := hide (up hb3 ((B2.out.alloc B2.out.size _).alloc (by simp; have := B2.out.size; omega) _) (by simp; have := B2.out.size; omega))
    have p0 := g0.at_ (i := 0) rfl
    have p1 := g0.at_ (i := 1) rfl
    have p2 := g0.at_ (i := 2) rfl
    have p3 := g0.at_ (i := 3) rfl
    have p4 := g0.at_ (i := 4) rfl
    have q0 := g1.at_ (i := 0) rfl
    have q1 := g1.at_ (i := 1) rfl
    have q2 := g1.at_ (i := 2) rfl
    have q3 := g1.at_ (i := 3) rfl
    have q4 := g1.at_ (i := 4) rfl
    have r0 := g2.at_ (i := 0) rfl
    have r1 := g2.at_ (i := 1) rfl
    have r2 := g2.at_ (i := 2) rfl
    have r3 := g2.at_ (i := 3) rfl
    have r4 := g2.at_ (i := 4) rfl
    have G0 := hide g0
    have G1 := hide g1
    have G2 := hide g2
    have z3a : w1.heap.size < w3.heap.size := g0.lt
    have z3b : w2.heap.size < w3.heap.size := g1.lt
    clear g0 g1 g2 hb3
    go_wp2_with fail
    refine (KV.out _).mono ?_
    rintro e w4 ⟨rfl, hb4⟩
    clear p0 p1 p2 p3 p4 q0 q1 q2 q3 q4 r0 r1 r2 r3 r4
    have g1 : SBlk w4 w2.heap.size 29 #[.int .i64 0, .int .i64 0, .int .i64 0, .int .i64 0, .int .i64 0] := SBlk.below ((G1.out.alloc _).alloc _) hb4 (by simp; omega)
    have g2 : SBlk w4 (w2.heap.size + 1) 29 #[.int .i64 0, .int .i64 0, .int .i64 0, .int .i64 0, .int .i64 0] := SBlk.below ((G2.out.alloc _).alloc _) hb4 (by simp; omega)
    have g3 : SBlk w4 w3.heap.size 29 #[.int .i64 0, .int .i64 0, .int .i64 0, .int .i64 0, .int .i64 0] := SBlk.below ((SBlk.new w3 _ _).alloc _) hb4 (by simp; omega)
    have g4 : SBlk w4 (w3.heap.size + 1) 29 #[.int .i64 0, .int .i64 0, .int .i64 0, .int .i64 0, .int .i64 0] := SBlk.below (SBlk.newAt (by simp) _ _) hb4 (by simp)
    have B4 := hide (up hb4 ((B3.out.alloc B3.out.size _).alloc (by simp; have := B3.out.size; omega) _) (by simp; have := B3.out.size; omega))
    have p0 := g1.at_ (i := 0) rfl
    have p1 := g1.at_ (i := 1) rfl
    have p2 := g1.at_ (i := 2) rfl
    have p3 := g1.at_ (i := 3) rfl
    have p4 := g1.at_ (i := 4) rfl
    have q0 := g2.at_ (i := 0) rfl
    have q1 := g2.at_ (i := 1) rfl
    have q2 := g2.at_ (i := 2) rfl
    have q3 := g2.at_ (i := 3) rfl
    have q4 := g2.at_ (i := 4) rfl
    have r0 := g3.at_ (i := 0) rfl
    have r1 := g3.at_ (i := 1) rfl
    have r2 := g3.at_ (i := 2) rfl
    have r3 := g3.at_ (i := 3) rfl
    have r4 := g3.at_ (i := 4) rfl
    have s0 := g4.at_ (i := 0) rfl
    have s1 := g4.at_ (i := 1) rfl
    have s2 := g4.at_ (i := 2) rfl
    have s3 := g4.at_ (i := 3) rfl
    have s4 := g4.at_ (i := 4) rfl
    have G1 := hide g1
    have G2 := hide g2
    have l1 := g1.lt
    have l2 := g2.lt
    have l3 := g3.lt
    have l4 := g4.lt
    clear g1 g2 g3 g4 hb4
    go_wp2_with fail
    go_ret
    exact ⟨rfl, B4.out⟩
  · have KI := hide (fun W => EdgesOfI_any nd ne ak k s W)
    have KS := hide (fun W => EdgesOfS_any nd ne ak k s W)
    have KV := hide (fun W => ValidStoreI_any nd ne ak k s W)
    rw [edgeV_yes hv] at KI KS
    rw [hv] at KV
    obtain ⟨p1, p2, p3, p4, p5, p6⟩ := edChk_parts (edChk_true hv)
    have P1 := hide p1
    have P2 := hide p2
    have P3 := hide p3
    have P4 := hide p4
    have P5 := hide p5
    have P6 := hide p6
    clear p1 p2 p3 p4 p5 p6 hv
    go_wp2_with fail
    refine (KI.out _).mono ?_
    rintro e w2 ⟨rfl, hb2⟩
    have b0 : SBlk w2 w1.heap.size 29 #[.int .i64 nd, .int .i64 ne, .int .i64 ak, .int .i64 k, .int .i64 s] := SBlk.below (SBlk.new w1 _ _) hb2 (by simp)
    have z2 : w1.heap.size < w2.heap.size := b0.lt
    have B2 := hide (up hb2 (HB1.out.alloc z1 _) (by simp; omega))
    have c0 := b0.at_ (i := 0) rfl
    have c1 := b0.at_ (i := 1) rfl
    have c2 := b0.at_ (i := 2) rfl
    have c3 := b0.at_ (i := 3) rfl
    have c4 := b0.at_ (i := 4) rfl
    have B0 := hide b0
    clear hb2 b0
    go_wp2_with fail
    refine (KS.out _).mono ?_
    rintro e w3 ⟨rfl, hb3⟩
    clear c0 c1 c2 c3 c4
    have g0 : SBlk w3 w1.heap.size 29 #[.int .i64 nd, .int .i64 ne, .int .i64 ak, .int .i64 k, .int .i64 s] := SBlk.below ((B0.out.alloc _).alloc _) hb3 (by simp; omega)
    have g1 : SBlk w3 w2.heap.size 29 #[.int .i64 nd, .int .i64 ne, .int .i64 ak, .int .i64 (ak - ne + 1), .int .i64 1] := SBlk.below ((SBlk.new w2 _ _).alloc _) hb3 (by simp; omega)
    have g2 : SBlk w3 (w2.heap.size + 1) 29 #[.int .i64 nd, .int .i64 ne, .int .i64 ak, .int .i64 (2 * ak), .int .i64 2] := SBlk.below (SBlk.newAt (by simp) _ _) hb3 (by simp)
    have z3 : w2.heap.size + 1 < w3.heap.size := g2.lt
    have B3 := hide (up hb3 ((B2.out.alloc B2.out.size _).alloc (by simp; have := B2.out.size; omega) _) (by simp; have := B2.out.size; omega))
    have p0 := g0.at_ (i := 0) rfl
    have p1 := g0.at_ (i := 1) rfl
    have p2 := g0.at_ (i := 2) rfl
    have p3 := g0.at_ (i := 3) rfl
    have p4 := g0.at_ (i := 4) rfl
    have q0 := g1.at_ (i := 0) rfl
    have q1 := g1.at_ (i := 1) rfl
    have q2 := g1.at_ (i := 2) rfl
    have q3 := g1.at_ (i := 3) rfl
    have q4 := g1.at_ (i := 4) rfl
    have r0 := g2.at_ (i := 0) rfl
    have r1 := g2.at_ (i := 1) rfl
    have r2 := g2.at_ (i := 2) rfl
    have r3 := g2.at_ (i := 3) rfl
    have r4 := g2.at_ (i := 4) rfl
    have G0 := hide g0
    have G1 := hide g1
    have G2 := hide g2
    have z3a : w1.heap.size < w3.heap.size := g0.lt
    have z3b : w2.heap.size < w3.heap.size := g1.lt
    clear g0 g1 g2 hb3
    go_wp2_with fail
    refine (KV.out _).mono ?_
    rintro e w4 ⟨rfl, hb4⟩
    clear p0 p1 p2 p3 p4 q0 q1 q2 q3 q4 r0 r1 r2 r3 r4
    have g1 : SBlk w4 w2.heap.size 29 #[.int .i64 nd, .int .i64 ne, .int .i64 ak, .int .i64 (ak - ne + 1), .int .i64 1] := SBlk.below ((G1.out.alloc _).alloc _) hb4 (by simp; omega)
    have g2 : SBlk w4 (w2.heap.size + 1) 29 #[.int .i64 nd, .int .i64 ne, .int .i64 ak, .int .i64 (2 * ak), .int .i64 2] := SBlk.below ((G2.out.alloc _).alloc _) hb4 (by simp; omega)
    have g3 : SBlk w4 w3.heap.size 29 #[.int .i64 nd, .int .i64 ne, .int .i64 ak, .int .i64 (ak - ne + 1), .int .i64 1] := SBlk.below ((SBlk.new w3 _ _).alloc _) hb4 (by simp; omega)
    have g4 : SBlk w4 (w3.heap.size + 1) 29 #[.int .i64 nd, .int .i64 ne, .int .i64 ak, .int .i64 (2 * ak), .int .i64 2] := SBlk.below (SBlk.newAt (by simp) _ _) hb4 (by simp)
    have B4 := hide (up hb4 ((B3.out.alloc B3.out.size _).alloc (by simp; have := B3.out.size; omega) _) (by simp; have := B3.out.size; omega))
    have p0 := g1.at_ (i := 0) rfl
    have p1 := g1.at_ (i := 1) rfl
    have p2 := g1.at_ (i := 2) rfl
    have p3 := g1.at_ (i := 3) rfl
    have p4 := g1.at_ (i := 4) rfl
    have q0 := g2.at_ (i := 0) rfl
    have q1 := g2.at_ (i := 1) rfl
    have q2 := g2.at_ (i := 2) rfl
    have q3 := g2.at_ (i := 3) rfl
    have q4 := g2.at_ (i := 4) rfl
    have r0 := g3.at_ (i := 0) rfl
    have r1 := g3.at_ (i := 1) rfl
    have r2 := g3.at_ (i := 2) rfl
    have r3 := g3.at_ (i := 3) rfl
    have r4 := g3.at_ (i := 4) rfl
    have s0 := g4.at_ (i := 0) rfl
    have s1 := g4.at_ (i := 1) rfl
    have s2 := g4.at_ (i := 2) rfl
    have s3 := g4.at_ (i := 3) rfl
    have s4 := g4.at_ (i := 4) rfl
    have G1 := hide g1
    have G2 := hide g2
    have l1 := g1.lt
    have l2 := g2.lt
    have l3 := g3.lt
    have l4 := g4.lt
    clear g1 g2 g3 g4 hb4 l3 l4 r0 r1 r2 r3 r4 s0 s1 s2 s3 s4 G0
    have ex : (ne * (ak - ne + 1) == ne * (ak - ne + 1)) = true := by simp
    have ey : (ne * (2 * ak + 1 - ne) == ne * (2 * ak + 1 - ne)) = true := by simp
    have ez : (2 * ak == 2 * ak) = true := by simp
    have ew : (ak - ne + 1 == ak - ne + 1) = true := by simp
    go_wp2_with fail
    refine (LeastSentI_any nd ne ak (ak - ne + 1) 1 (ne * (ak - ne + 1)) _).mono ?_
    rintro e w5 ⟨rfl, hb5⟩
    rw [P3.out]
    clear p0 p1 p2 p3 p4 q0 q1 q2 q3 q4 l1 l2
    have g1 : SBlk w5 w2.heap.size 29 #[.int .i64 nd, .int .i64 ne, .int .i64 ak, .int .i64 (ak - ne + 1), .int .i64 1] := SBlk.below G1.out hb5 G1.out.lt
    have g2 : SBlk w5 (w2.heap.size + 1) 29 #[.int .i64 nd, .int .i64 ne, .int .i64 ak, .int .i64 (2 * ak), .int .i64 2] := SBlk.below G2.out hb5 G2.out.lt
    have B5 := hide (up hb5 B4.out B4.out.size)
    clear G1 G2 hb5
    have p0 := g1.at_ (i := 0) rfl
    have p1 := g1.at_ (i := 1) rfl
    have p2 := g1.at_ (i := 2) rfl
    have p3 := g1.at_ (i := 3) rfl
    have p4 := g1.at_ (i := 4) rfl
    have q0 := g2.at_ (i := 0) rfl
    have q1 := g2.at_ (i := 1) rfl
    have q2 := g2.at_ (i := 2) rfl
    have q3 := g2.at_ (i := 3) rfl
    have q4 := g2.at_ (i := 4) rfl
    have l1 := g1.lt
    have l2 := g2.lt
    have G1 := hide g1
    have G2 := hide g2
    clear g1 g2
    go_wp2_with fail
    refine (LeastKeptI_any nd ne ak (2 * ak) 2 (ne * (2 * ak + 1 - ne)) _).mono ?_
    rintro e w6 ⟨rfl, hb6⟩
    rw [P4.out]
    clear p0 p1 p2 p3 p4 q0 q1 q2 q3 q4 l1 l2
    have g1 : SBlk w6 w2.heap.size 29 #[.int .i64 nd, .int .i64 ne, .int .i64 ak, .int .i64 (ak - ne + 1), .int .i64 1] := SBlk.below G1.out hb6 G1.out.lt
    have g2 : SBlk w6 (w2.heap.size + 1) 29 #[.int .i64 nd, .int .i64 ne, .int .i64 ak, .int .i64 (2 * ak), .int .i64 2] := SBlk.below G2.out hb6 G2.out.lt
    have B6 := hide (up hb6 B5.out B5.out.size)
    clear G1 G2 hb6
    have p0 := g1.at_ (i := 0) rfl
    have p1 := g1.at_ (i := 1) rfl
    have p2 := g1.at_ (i := 2) rfl
    have p3 := g1.at_ (i := 3) rfl
    have p4 := g1.at_ (i := 4) rfl
    have q0 := g2.at_ (i := 0) rfl
    have q1 := g2.at_ (i := 1) rfl
    have q2 := g2.at_ (i := 2) rfl
    have q3 := g2.at_ (i := 3) rfl
    have q4 := g2.at_ (i := 4) rfl
    have l1 := g1.lt
    have l2 := g2.lt
    have G1 := hide g1
    have G2 := hide g2
    clear g1 g2
    go_wp2_with fail
    refine (LeastKeptI_any nd ne ak (ak - ne + 1) 1 (ne * (ak - ne + 1)) _).mono ?_
    rintro e w7 ⟨rfl, hb7⟩
    rw [P5.out]
    clear p0 p1 p2 p3 p4 q0 q1 q2 q3 q4 l1 l2
    have g1 : SBlk w7 w2.heap.size 29 #[.int .i64 nd, .int .i64 ne, .int .i64 ak, .int .i64 (ak - ne + 1), .int .i64 1] := SBlk.below G1.out hb7 G1.out.lt
    have g2 : SBlk w7 (w2.heap.size + 1) 29 #[.int .i64 nd, .int .i64 ne, .int .i64 ak, .int .i64 (2 * ak), .int .i64 2] := SBlk.below G2.out hb7 G2.out.lt
    have B7 := hide (up hb7 B6.out B6.out.size)
    clear G1 G2 hb7
    have p0 := g1.at_ (i := 0) rfl
    have p1 := g1.at_ (i := 1) rfl
    have p2 := g1.at_ (i := 2) rfl
    have p3 := g1.at_ (i := 3) rfl
    have p4 := g1.at_ (i := 4) rfl
    have q0 := g2.at_ (i := 0) rfl
    have q1 := g2.at_ (i := 1) rfl
    have q2 := g2.at_ (i := 2) rfl
    have q3 := g2.at_ (i := 3) rfl
    have q4 := g2.at_ (i := 4) rfl
    have l1 := g1.lt
    have l2 := g2.lt
    have G1 := hide g1
    have G2 := hide g2
    clear g1 g2
    go_wp2_with fail
    refine (LeastSentI_any nd ne ak (2 * ak) 2 (ne * (2 * ak + 1 - ne)) _).mono ?_
    rintro e w8 ⟨rfl, hb8⟩
    rw [P6.out]
    clear p0 p1 p2 p3 p4 q0 q1 q2 q3 q4 l1 l2
    have g1 : SBlk w8 w2.heap.size 29 #[.int .i64 nd, .int .i64 ne, .int .i64 ak, .int .i64 (ak - ne + 1), .int .i64 1] := SBlk.below G1.out hb8 G1.out.lt
    have g2 : SBlk w8 (w2.heap.size + 1) 29 #[.int .i64 nd, .int .i64 ne, .int .i64 ak, .int .i64 (2 * ak), .int .i64 2] := SBlk.below G2.out hb8 G2.out.lt
    have B8 := hide (up hb8 B7.out B7.out.size)
    clear G1 G2 hb8
    have p0 := g1.at_ (i := 0) rfl
    have p1 := g1.at_ (i := 1) rfl
    have p2 := g1.at_ (i := 2) rfl
    have p3 := g1.at_ (i := 3) rfl
    have p4 := g1.at_ (i := 4) rfl
    have q0 := g2.at_ (i := 0) rfl
    have q1 := g2.at_ (i := 1) rfl
    have q2 := g2.at_ (i := 2) rfl
    have q3 := g2.at_ (i := 3) rfl
    have q4 := g2.at_ (i := 4) rfl
    have l1 := g1.lt
    have l2 := g2.lt
    have G1 := hide g1
    have G2 := hide g2
    clear g1 g2
    go_wp2_with fail
    refine (CapacityOfI_any nd ne ak (ak - ne + 1) 1 _).mono ?_
    rintro e w9 ⟨rfl, hb9⟩
    rw [P1.out]
    clear p0 p1 p2 p3 p4 q0 q1 q2 q3 q4 l1 l2
    have g1 : SBlk w9 w2.heap.size 29 #[.int .i64 nd, .int .i64 ne, .int .i64 ak, .int .i64 (ak - ne + 1), .int .i64 1] := SBlk.below G1.out hb9 G1.out.lt
    have g2 : SBlk w9 (w2.heap.size + 1) 29 #[.int .i64 nd, .int .i64 ne, .int .i64 ak, .int .i64 (2 * ak), .int .i64 2] := SBlk.below G2.out hb9 G2.out.lt
    have B9 := hide (up hb9 B8.out B8.out.size)
    clear G1 G2 hb9
    have p0 := g1.at_ (i := 0) rfl
    have p1 := g1.at_ (i := 1) rfl
    have p2 := g1.at_ (i := 2) rfl
    have p3 := g1.at_ (i := 3) rfl
    have p4 := g1.at_ (i := 4) rfl
    have q0 := g2.at_ (i := 0) rfl
    have q1 := g2.at_ (i := 1) rfl
    have q2 := g2.at_ (i := 2) rfl
    have q3 := g2.at_ (i := 3) rfl
    have q4 := g2.at_ (i := 4) rfl
    have l1 := g1.lt
    have l2 := g2.lt
    have G1 := hide g1
    have G2 := hide g2
    clear g1 g2
    go_wp2_with fail
    refine (CapacityOfI_any nd ne ak (2 * ak) 2 _).mono ?_
    rintro e w10 ⟨rfl, hb10⟩
    rw [P2.out]
    clear p0 p1 p2 p3 p4 q0 q1 q2 q3 q4 l1 l2
    have g1 : SBlk w10 w2.heap.size 29 #[.int .i64 nd, .int .i64 ne, .int .i64 ak, .int .i64 (ak - ne + 1), .int .i64 1] := SBlk.below G1.out hb10 G1.out.lt
    have g2 : SBlk w10 (w2.heap.size + 1) 29 #[.int .i64 nd, .int .i64 ne, .int .i64 ak, .int .i64 (2 * ak), .int .i64 2] := SBlk.below G2.out hb10 G2.out.lt
    have B10 := hide (up hb10 B9.out B9.out.size)
    clear G1 G2 hb10
    have p0 := g1.at_ (i := 0) rfl
    have p1 := g1.at_ (i := 1) rfl
    have p2 := g1.at_ (i := 2) rfl
    have p3 := g1.at_ (i := 3) rfl
    have p4 := g1.at_ (i := 4) rfl
    have q0 := g2.at_ (i := 0) rfl
    have q1 := g2.at_ (i := 1) rfl
    have q2 := g2.at_ (i := 2) rfl
    have q3 := g2.at_ (i := 3) rfl
    have q4 := g2.at_ (i := 4) rfl
    have l1 := g1.lt
    have l2 := g2.lt
    have G1 := hide g1
    have G2 := hide g2
    clear g1 g2
    go_wp2_with fail
    go_ret
    exact ⟨rfl, B10.out⟩
end Go.Proofs.Ytfnbnpjedhcmgaa
