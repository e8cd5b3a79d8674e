/-
  PossibleOf, the reference's. Conditions: the scheme and the shares can be read.
  All lists over a prime, the reference's. Conditions: the prime is at most 7, the lists have at most 4 numbers.
-/
import Derived.Test.YtcalfblghblhcaaPossPlain
import Derived.Test.YtcalfblghblhcaaRed
import Derived.Test.YtcalfblghblhcaaQuietIn
namespace Go.Proofs.Ytcalfblghblhcaa
open Go.RowKit

section
variable {ops : Array Oper} {rest : List Oper} {o : Oper} {a : Act} {Q : Exit → Act → World → Prop} {w : World} {base c : Nat} {A : Option Addr}
/-- a slice that can be read (it may be empty), appended to an empty one -/
theorem copy_row (hgd : o.guard = none) (s x : Operand) (ho : o.op = .call { callee := .builtin .append, args := #[s, x], argTypes := #[23, 23] })
    (hs : a.eval s = .slice A 0 c) (hown : Row w base A 0 c []) {b off m c2 : Nat} (f : Nat → Int) (hc : ∀ i, i < m → w.cell? ⟨b, off + i, none⟩ = some (.int .i64 (f i)))
    (hx : a.eval x = .slice (some ⟨b, off, none⟩) m c2) (hn : m ≤ 1000000) (hbase : base ≤ w.heap.size)
    (h : ∀ A' c' w', Row w' base A' m c' (listOf m f) → Below base w w' → w.grownBy w' (Value.slice A 0 c).ownBlock → wpList Try.prog ops Q rest (a.put o.dst (.slice A' m c')) w') :
    wpList Try.prog ops Q (o :: rest) a w := by
  obtain ⟨i0, hi, hz, hz1, hz2⟩ := parts_of info_int
  refine wpList_append_own_at (w := w) hgd s x 23 ho base 3 i0 (.int .i64 0) 1 8 Try.underlying23 hi hz hz1 hz2 rfl (by omega) (.slice A 0 c) 0 [] hs hown.2 ⟨b, off, none⟩ m c2 ((listOf m f).map (Value.int .i64)) hx (by simp [listOf_len]) (fun j u hu => ?_) (fun u hu => ?_) (by unfold maxLen; omega) (by omega) hbase ?_
  · have hj : j < m := by
      rcases Nat.lt_or_ge j m with h1 | h1
      · exact h1
      · rw [List.getElem?_eq_none (by simp [listOf_len]; exact h1)] at hu; cases hu
    rw [List.getElem?_map, listOf_get f hj] at hu
    have e : (⟨b, off, none⟩ : Addr).add j = ⟨b, off + j, none⟩ := by unfold Addr.add; split <;> simp_all
    rw [e, hc j hj]
    exact hu
  · obtain ⟨z, _, rfl⟩ := List.mem_map.1 hu
    rfl
  · intro v' w' hown' hg _ _
    rw [Nat.zero_add, List.nil_append] at hown'
    have hval : ∃ A' c', v' = .slice A' m c' := by
      rcases hown'.2 with ⟨h1, h0⟩ | ⟨g, cap, cur, h1, _⟩
      · subst h0; exact ⟨_, _, h1⟩
      · exact ⟨_, _, h1⟩
    obtain ⟨A', c', rfl⟩ := hval
    exact h A' c' w' ⟨listOf_len _ _, hown'⟩ (hown.grown hg hbase) hg
end

/-- a table of the first N lists of k numbers -/
def MsT (w : World) (base : Nat) (A : Option Addr) (c N p k : Nat) (R : List Sl) : Prop := Tab w base A N c R ∧ ∀ j, j < N → ∃ q, R[j]? = some q ∧ q.xs = dgs p k j ∧ ∃ b, q.A = some ⟨b, 0, none⟩
section
variable {w w' : World} {base c N p k : Nat} {A : Option Addr} {R : List Sl}
theorem MsT.keep (h : MsT w base A c N p k R) (hb : Below w.heap.size w w') : MsT w' base A c N p k R := ⟨h.1.keep hb, h.2⟩
theorem MsT.mono {base' : Nat} (h : MsT w base A c N p k R) (hb : base' ≤ base) : MsT w base' A c N p k R := ⟨h.1.mono hb, h.2⟩
theorem MsT.push {A' A1 : Option Addr} {c' c1 b : Nat} {ys : List Int} (h : MsT w base A c N p k R) (ht : Tab w' base A' (N + 1) c' (R ++ [⟨A1, c1, ys⟩])) (hy : ys = dgs p k N) (hA : A1 = some ⟨b, 0, none⟩) : MsT w' base A' c' (N + 1) p k (R ++ [⟨A1, c1, ys⟩]) := by
  refine ⟨ht, fun j hj => ?_⟩
  have hl := h.1.1
  by_cases e : j = N
  · subst e
    refine ⟨⟨A1, c1, ys⟩, ?_, hy, b, hA⟩
    rw [List.getElem?_append_right (by omega), hl]; simp
  · obtain ⟨q, h1, h2⟩ := h.2 j (by omega)
    exact ⟨q, by rw [List.getElem?_append_left (by omega)]; exact h1, h2⟩
/-- list j of the table -/
theorem MsT.at_ (h : MsT w base A c N p k R) {j : Nat} (hj : j < N) : ∃ b g cq, A = some ⟨b, 0, none⟩ ∧ b < w.heap.size ∧ g < w.heap.size ∧ w.cell? ⟨b, j, none⟩ = some (.slice (some ⟨g, 0, none⟩) k cq) ∧ ∀ i, i < k → w.cell? ⟨g, 0 + i, none⟩ = some (.int .i64 ((dgs p k j).getD i 0)) := by
  obtain ⟨b, r, hA, hb, hlt, hr, hc, _, hrow⟩ := h.1.at_ hj
  obtain ⟨q, h1, h2, g, h3⟩ := h.2 j hj
  rw [hr] at h1
  injection h1 with h1
  subst h1
  rw [h3] at hc hrow
  rw [h2, dgs_len] at hc hrow
  obtain ⟨_, hgl⟩ := hrow.blk g rfl
  refine ⟨b, g, r.c, hA, hlt, hgl, hc, fun i hi => ?_⟩
  obtain ⟨b2, e, _, _, hx, _⟩ := hrow.at_ hi
  injection e with e
  injection e with e
  subst e
  rw [Nat.zero_add]
  exact hx
end
theorem MsT.at2 {w : World} {base c N p k : Nat} {A : Option Addr} {R : List Sl} (h : MsT w base A c N p k R) {j : Nat} (hj : j < N) : ∃ b g cq, A = some ⟨b, 0, none⟩ ∧ (base ≤ b ∧ b < w.heap.size) ∧ (base ≤ g ∧ g < w.heap.size) ∧ w.cell? ⟨b, j, none⟩ = some (.slice (some ⟨g, 0, none⟩) k cq) ∧ ∀ i, i < k → w.cell? ⟨g, 0 + i, none⟩ = some (.int .i64 ((dgs p k j).getD i 0)) := by
  obtain ⟨b, r, hA, hb, hlt, hr, hc, _, hrow⟩ := h.1.at_ hj
  obtain ⟨q, h1, h2, g, h3⟩ := h.2 j hj
  rw [hr] at h1
  injection h1 with h1
  subst h1
  rw [h3] at hc hrow
  rw [h2, dgs_len] at hc hrow
  refine ⟨b, g, r.c, hA, ⟨hb, hlt⟩, hrow.blk g rfl, hc, fun i hi => ?_⟩
  obtain ⟨b2, e, _, _, hx, _⟩ := hrow.at_ hi
  injection e with e
  injection e with e
  subst e
  rw [Nat.zero_add]
  exact hx
/-- list i * p + x is list i with x behind it -/
theorem dgs_snoc {p k i x : Nat} (hx : x < p) : dgs p (k + 1) (i * p + x) = dgs p k i ++ [((x : Nat) : Int)] := by
  have hp : 0 < p := by omega
  have e1 : (i * p + x) / p = i := by rw [Nat.mul_comm, Nat.mul_add_div hp, Nat.div_eq_of_lt hx, Nat.add_zero]
  have e2 : (i * p + x) % p = x := by rw [Nat.mul_comm, Nat.mul_add_mod, Nat.mod_eq_of_lt hx]
  rw [dgs, e1, e2]
theorem listOf_self (xs : List Int) : listOf xs.length (fun i => xs.getD i 0) = xs := by
  refine List.ext_getElem? fun i => ?_
  by_cases h : i < xs.length
  · rw [listOf_get _ h]; simp [List.getD, h]
  · rw [List.getElem?_eq_none (by rw [listOf_len]; omega), List.getElem?_eq_none (by omega)]

theorem tab_one {w : World} {base n c : Nat} {A : Option Addr} {xs : List Int} (h : Row w base A n c xs) (hb : base ≤ w.heap.size) : Tab (w.alloc (.cells #[.slice A n c] 23)) base (some ⟨w.heap.size, 0, none⟩) 1 1 [⟨A, c, xs⟩] := by
  have hl := h.1
  subst hl
  refine ⟨rfl, ⟨rfl, .inr ⟨w.heap.size, 1, _, rfl, hb, heap_alloc_new w _, Nat.le_refl _, by unfold maxLen; omega, rfl, rfl⟩⟩, fun r hr => ?_⟩
  rw [List.mem_singleton] at hr
  subst hr
  exact h.alloc _

set_option maxHeartbeats 2000000 in
theorem messagesS_any (p K : Nat) (w : World) (hp : 2 ≤ p ∧ p ≤ 7) (hK : K ≤ 4) :
    Calls Try.prog 58 #[.int .i64 p, .int .i64 K] w fun e w' => ∃ A' c' R, e = .returned (.slice A' (p ^ K) c') ∧ MsT w' w.heap.size A' c' (p ^ K) p K R ∧ Below w.heap.size w w' := by
  have HPW := hide (fun r (hr : r ≤ K) => Nat.le_trans (Nat.pow_le_pow_left hp.2 r) (Nat.pow_le_pow_right (show 0 < 7 by omega) (show r ≤ 4 by omega)))
  go_enter Try.func58, Try.ntmps58
  go_wp2_with fail
  go_loopw [1, 5] (fun kv ov wr => ∃ (r d N : Nat) (A' : Option Addr) (c' : Nat) (R : List Sl), r + d = K ∧ N = p ^ r ∧ kv = .int .i64 d ∧ ov = .slice A' N c' ∧ MsT wr w.heap.size A' c' N p r R ∧ Below w.heap.size w wr) (fun kv _ _ => (intOf kv).toNat)
  case atStart =>
    have hr := Row.lit (w := w) (cs := #[]) (xs := []) (n := 0) (base := w.heap.size) rfl rfl (Nat.le_refl _)
    have ht := tab_one hr (by simp)
    rw [World.size_alloc] at ht
    exact ⟨0, K, 1, _, _, _, by omega, rfl, rfl, rfl, ⟨ht, fun j hj => (by
      obtain rfl : j = 0 := by omega
      exact ⟨_, rfl, rfl, _, rfl⟩)⟩, ((Below.refl _ _).alloc (Nat.le_refl _) _).alloc (by simp) _⟩
  case round =>
    obtain ⟨r, d, N, A', c', R, hrd, hN, rfl, rfl, hT, hB⟩ := hrel
    have HN := hide hN
    have HRD := hide hrd
    have HT := hide hT
    have HB := hide hB
    have hzo := hB.size
    obtain ⟨wo, rfl⟩ : ∃ x, x = wr := ⟨_, rfl⟩
    clear hN hT hB
    by_cases hd : d = 0
    · subst hd
      have hrK : r = K := by omega
      clear hrd
      go_wp2_with fail
      go_ret
      subst hrK
      have hN := HN.out
      subst hN
      exact ⟨_, _, _, rfl, HT.out, HB.out⟩
    have hdI : (0 : Int) < (d : Int) := by omega
    have hmx : p ^ (r + 1) ≤ 7 ^ 4 := HPW.out (r + 1) (by omega)
    have HMX := hide (show N * p ≤ 2401 by rw [HN.out, ← Nat.pow_succ]; exact Nat.le_trans hmx (by decide))
    have hNb : N ≤ 2401 := by
      have h1 : N * 1 ≤ N * p := Nat.mul_le_mul_left N (by omega)
      have := HMX.out
      omega
    have hd4 : d ≤ 4 := by omega
    have hd0 : 0 < d := by omega
    clear hrd hd hmx
    go_wp2_with fail
    go_loopw [6, 7] (fun nv iv wr => ∃ (i n2 : Nat) (A2 : Option Addr) (c2 : Nat) (R2 : List Sl), i ≤ N ∧ n2 = i * p ∧ iv = .int .i64 i ∧ nv = .slice A2 n2 c2 ∧ MsT wr wo.heap.size A2 c2 n2 p (r + 1) R2 ∧ Below wo.heap.size wo wr) (fun _ iv _ => N - (intOf iv).toNat)
    case atStart => exact ⟨0, 0, _, _, [], by omega, by omega, rfl, rfl, ⟨Tab.empty0 0 rfl (Nat.le_refl _), fun j hj => absurd hj (by omega)⟩, (Below.refl _ _).alloc (Nat.le_refl _) _⟩
    case round =>
      obtain ⟨i, n2, A2, c2, R2, hi, hn2, rfl, rfl, hT2, hB2⟩ := hrel
      have HN2 := hide hn2
      have HT2 := hide hT2
      have HB2 := hide hB2
      have hz2 := hB2.size
      obtain ⟨wm, rfl⟩ : ∃ x, x = wr := ⟨_, rfl⟩
      clear hn2 hT2 hB2
      by_cases hlt : i < N
      · have hiI : (i : Int) < (N : Int) := by omega
        have hiI0 : (0 : Int) ≤ (i : Int) := by omega
        have HM3 := hide (show i * p + p ≤ 2401 by
          have h1 : (i + 1) * p ≤ N * p := Nat.mul_le_mul_right p hlt
          rw [Nat.add_mul, Nat.one_mul] at h1
          have := HMX.out
          omega)
        go_wp2_with fail
        go_loopw [6, 8] (fun nv xv wr => ∃ (x n3 : Nat) (A3 : Option Addr) (c3 : Nat) (R3 : List Sl), x ≤ p ∧ n3 = i * p + x ∧ xv = .int .i64 x ∧ nv = .slice A3 n3 c3 ∧ MsT wr wo.heap.size A3 c3 n3 p (r + 1) R3 ∧ Below wo.heap.size wo wr) (fun _ xv _ => p - (intOf xv).toNat)
        case atStart => exact ⟨0, _, _, _, _, by omega, HN2.out, rfl, rfl, HT2.out, HB2.out⟩
        case round =>
          obtain ⟨x, n3, A3, c3, R3, hx, hn3, rfl, rfl, hT3, hB3⟩ := hrel
          have HN3 := hide hn3
          have HT3 := hide hT3
          have HB3 := hide hB3
          have hz3 := hB3.size
          have hm3 := HM3.out
          have hb3 : n3 ≤ 2401 := by omega
          clear hn3 hT3 hB3 hm3
          by_cases hxp : x < p
          · have hxI : (x : Int) < (p : Int) := by omega
            have hxI0 : (0 : Int) ≤ (x : Int) := by omega
            obtain ⟨bO, g, cq, rfl, hbO, hg, x1, x2⟩ := (HT.out.keep HB3.out).at_ hlt
            have HX2 := hide (fun t (ht : t < r) => (show (wr.alloc (.cells #[] 3)).cell? ⟨g, 0 + t, none⟩ = some (.int .i64 ((dgs p r i).getD t 0)) from ((Below.refl wr.heap.size wr).alloc (Nat.le_refl _) _).cell (p := ⟨g, 0 + t, none⟩) hg ▸ x2 t ht))
            clear x2
            have HLS := hide (show listOf r (fun t => (dgs p r i).getD t 0) = dgs p r i by
              have h := listOf_self (dgs p r i)
              rw [dgs_len] at h
              exact h)
            have HSN := hide (dgs_snoc (k := r) (i := i) hxp)
            have hr4 : r ≤ 4 := by have := HRD.out; omega
            go_wp2_with (first | (at_builtin; (refine copy_row rfl _ _ rfl rfl (Row.lit (cs := #[]) (xs := []) (n := 0) (base := wr.heap.size) rfl rfl (Nat.le_refl _)) (fun t => (dgs p r i).getD t 0) HX2.out rfl (by omega) (by simp) ?_; intro A5 c5 w5 hr5 hb5 hg5; rw [HLS.out] at hr5; have hz5 : wr.heap.size + 1 ≤ w5.heap.size := (by have := hg5.size; simpa using this); have HF := hide (show Row w5 wr.heap.size A5 r c5 (dgs p r i) ∧ Below wr.heap.size wr w5 from ⟨hr5, ((Below.refl _ _).alloc (Nat.le_refl _) _).trans hb5⟩); clear hr5 hb5 hg5)) | (at_builtin; (refine push_int rfl _ _ rfl _ rfl HF.out.1 ((x : Nat) : Int) _ rfl (by omega) (by omega) ?_; intro A6 c6 w6 hr6 hb6 hg6 hat6; have hz6 := hb6.size; have HF6 := hide (show Row w6 wr.heap.size A6 (r + 1) c6 (dgs p r i ++ [((x : Nat) : Int)]) ∧ Below wr.heap.size wr w6 from ⟨hr6, HF.out.2.trans hb6⟩); clear hr6 hb6 hg6 hat6)) | (at_builtin; (refine push_row rfl _ _ rfl R3 rfl (HT3.out.keep HF6.out.2).1 A6 (r + 1) c6 (dgs p r i ++ [((x : Nat) : Int)]) (HF6.out.1.mono hz3) _ rfl (by omega) (by omega) ?_; intro A7 c7 w7 ht7 hb7 hg7 hat7; have hz7 := hb7.size; have HX := hide (show MsT w7 wo.heap.size A7 c7 (n3 + 1) p (r + 1) _ ∧ Below wo.heap.size wo w7 from ⟨(by obtain ⟨g6, e6, _⟩ := Row.some_ HF6.out.1 (by omega); exact HT3.out.push ht7 (by rw [HN3.out]; exact HSN.out.symm) e6), (HB3.out.trans (HF6.out.2.mono hz3)).trans hb7⟩); clear ht7 hb7 hg7 hat7)))
            go_roundw
            case rel => first | exact ⟨x + 1, n3 + 1, _, _, _, by omega, by have := HN3.out; omega, by go_num, rfl, HX.out.1, HX.out.2⟩ | ((repeat apply Exists.intro); refine ⟨?_, rfl⟩; exact ⟨x + 1, n3 + 1, _, _, _, by omega, by have := HN3.out; omega, by go_num, rfl, HX.out.1, HX.out.2⟩)
            case measure => simp [intOf]; omega
          · obtain rfl : x = p := by omega
            have hge : ¬ (x : Int) < (x : Int) := by omega
            go_wp2_with fail
            refine ⟨⟨i + 1, n3, _, _, _, by omega, by rw [Nat.add_mul, Nat.one_mul]; exact HN3.out, by go_num, rfl, HT3.out, HB3.out⟩, ?_⟩
            simp [intOf]; omega
      · obtain rfl : i = N := by omega
        have hge : ¬ (i : Int) < (i : Int) := by omega
        go_wp2_with fail
        refine ⟨⟨r + 1, d - 1, n2, _, _, _, by have := HRD.out; omega, by rw [HN2.out, Nat.pow_succ, ← HN.out], by rw [show ((d - 1 : Nat) : Int) = (d : Int) - 1 by omega], rfl, HT2.out.mono hzo, HB.out.trans (HB2.out.mono hzo)⟩, ?_⟩
        simp [intOf]; omega
end Go.Proofs.Ytcalfblghblhcaa
namespace Go.Proofs.Ytcalfblghblhcaa
open Go.RowKit

set_option maxRecDepth 100000 in
set_option maxHeartbeats 4000000 in
theorem PossibleOfS_any (p : Int) (A : Option Addr) (n c : Nat) (L : Nat → Nat) (M : Nat → Nat → Int) (O : Option Addr) (m e : Nat) (f : Nat → Int) (B : Option Addr) (n1 c1 : Nat) (g : Nat → Int) (s : Int) (w : World) (hn : n ≤ 1048576) (hL : ∀ i, i < n → L i ≤ 1048576) (hm : m ≤ 1048576) (h : Mat w w.heap.size A n L M) (h2 : Ints w w.heap.size O m f) (hn1 : n1 ≤ 1048576) (h3 : Ints w w.heap.size B n1 g) :
    Calls Try.prog 21 #[.agg #[.int .i64 p, .slice A n c, .slice O m e], .slice B n1 c1, .int .i64 s] w (PsPost p n L M m f n1 g s w) := by
  have HV := hide (fun (W : World) (hb : Below w.heap.size w W) => validSchemeS_any p A O n c m e L M f W (by omega) (fun i hi => Nat.le_trans (hL i hi) (by omega)) (by omega) (h.keep hb hb.size) (h2.keep hb hb.size))
  have HI := hide (fun (W : World) (hb : Below w.heap.size w W) => h3.keep hb hb.size)
  cases hv : vSch p n L M m f
  · have HN := hide (fun w' hb => ps_no (w := w) (w' := w') (show posB p n L M m f n1 g s = false by simp [posB, askB, hv]) hb)
    rw [hv] at HV
    clear hL h h2 h3 hv
    go_enter Try.func21, Try.ntmps21
    go_wp2_with fail
    refine (HV.out _ (below_box _)).mono ?_
    rintro x w1 ⟨rfl, hb1⟩
    have HB := hide (box_plain hb1).1
    clear hb1
    go_wp2_with fail
    go_ret
    exact HN.out _ HB.out
  obtain ⟨hsc, rfl, hle⟩ := vSch_sch hv
  obtain ⟨hp, hn6, hl0, _, hrows⟩ := vSch_rows hv
  obtain ⟨b, off, rfl, hbl, hc⟩ := h (by omega)
  obtain ⟨R0, C0, e1, _⟩ := hc 0 (by omega)
  simp only [Nat.add_zero] at e1
  have HR0 := hide e1
  have HM := hide (fun (W : World) (hb : Below w.heap.size w W) => h.keep hb hb.size)
  have HO := hide (fun (W : World) (hb : Below w.heap.size w W) => h2.keep hb hb.size)
  have HSC := hide hsc
  have HRW := hide hrows
  have hm0 : 0 < m := hn6.1
  rw [hv] at HV
  have hva := hv
  clear hc e1 h h2 h3 hL hle hsc hrows hv
  by_cases h4 : ¬ L 0 ≤ 4
  · have HN := hide (fun w' hb => ps_no (w := w) (w' := w') (show posB p m L M m f n1 g s = false by rw [posB, decide_eq_false h4]; simp) hb)
    have h4I : ((L 0 : Nat) : Int) > 4 := by omega
    have h4N : 4 < L 0 := by omega
    clear h4 hva
    go_enter Try.func21, Try.ntmps21
    go_wp2_with fail
    refine (HV.out _ (below_box _)).mono ?_
    rintro x w1 ⟨rfl, hb1⟩
    obtain ⟨hbw, hbox⟩ := box_plain hb1
    have x0 := hbox.at_ (i := 0) (v := .int .i64 p) rfl
    have x1 := hbox.at_ (i := 1) (v := .slice (some ⟨b, off, none⟩) m c) rfl
    have x3 := (hbw.cell (p := ⟨b, off, none⟩) hbl).trans HR0.out
    have hbxl := hbox.lt
    have hbl1 : b < w1.heap.size := by omega
    have HB := hide hbw
    have HBX := hide hbox
    clear hb1 hbw hbox
    go_wp2_with fail
    go_ret
    exact HN.out _ HB.out
  have h4' : L 0 ≤ 4 := by omega
  have h4I : ((L 0 : Nat) : Int) ≤ 4 := by omega
  have h4N : ¬ 4 < L 0 := by omega
  have HW := hide (fun (W : World) (hb : Below w.heap.size w W) => validWord_any p B n1 c1 ((m : Nat) : Int) g W hp (by omega) (HI.out W hb))
  have HPW := hide (fun (W : World) => powerS_any 5 W (by omega))
  have HIN := hide (fun (W : World) => inRange_any s 0 31 W)
  cases hw : decide ((n1 : Int) = m) && allR n1 g p
  · have HN := hide (fun w' hb => ps_no (w := w) (w' := w') (show posB p m L M m f n1 g s = false by simp only [posB, askB, hw]; simp) hb)
    rw [hw] at HW
    clear h4 hva hw
    go_enter Try.func21, Try.ntmps21
    go_wp2_with fail
    refine (HV.out _ (below_box _)).mono ?_
    rintro x w1 ⟨rfl, hb1⟩
    obtain ⟨hbw, hbox⟩ := box_plain hb1
    have x0 := hbox.at_ (i := 0) (v := .int .i64 p) rfl
    have x1 := hbox.at_ (i := 1) (v := .slice (some ⟨b, off, none⟩) m c) rfl
    have x3 := (hbw.cell (p := ⟨b, off, none⟩) hbl).trans HR0.out
    have hbxl := hbox.lt
    have hbl1 : b < w1.heap.size := by omega
    have HB := hide hbw
    have HBX := hide hbox
    clear hb1 hbw hbox
    go_wp2_with fail
    refine (HW.out _ HB.out).mono ?_
    rintro x _ ⟨rfl, rfl⟩
    go_wp2_with fail
    go_ret
    exact HN.out _ HB.out
  rw [hw] at HW
  cases hi : inR s 0 31
  · have HN := hide (fun w' hb => ps_no (w := w) (w' := w') (show posB p m L M m f n1 g s = false by simp [posB, askB, hi]) hb)
    rw [hi] at HIN
    clear h4 hva hw hi
    go_enter Try.func21, Try.ntmps21
    go_wp2_with fail
    refine (HV.out _ (below_box _)).mono ?_
    rintro x w1 ⟨rfl, hb1⟩
    obtain ⟨hbw, hbox⟩ := box_plain hb1
    have x0 := hbox.at_ (i := 0) (v := .int .i64 p) rfl
    have x1 := hbox.at_ (i := 1) (v := .slice (some ⟨b, off, none⟩) m c) rfl
    have x3 := (hbw.cell (p := ⟨b, off, none⟩) hbl).trans HR0.out
    have hbxl := hbox.lt
    have hbl1 : b < w1.heap.size := by omega
    have HB := hide hbw
    have HBX := hide hbox
    clear hb1 hbw hbox
    go_wp2_with fail
    refine (HW.out _ HB.out).mono ?_
    rintro x _ ⟨rfl, rfl⟩
    go_wp2_with fail
    refine (HPW.out _).mono ?_
    rintro x _ ⟨rfl, rfl⟩
    go_wp2_with fail
    refine (HIN.out _).mono ?_
    rintro x _ ⟨rfl, rfl⟩
    go_wp2_with fail
    go_ret
    exact HN.out _ HB.out
  have hir := inR_true.1 hi
  rw [hi] at HIN
  have HPB := hide (show posB p m L M m f n1 g s = true by rw [posB, askB, hva, hi, hw, decide_eq_true h4']; rfl)
  obtain ⟨t, rfl⟩ := Int.eq_ofNat_of_zero_le hir.1
  have ht32 : t < 32 := by omega
  obtain ⟨P, rfl⟩ := Int.eq_ofNat_of_zero_le (show 0 ≤ p by omega)
  rw [Bool.and_eq_true, decide_eq_true_eq] at hw
  obtain ⟨hw1, hw2⟩ := hw
  obtain rfl : n1 = m := by omega
  have HGB := hide (fun i hi => allR_bd hw2 i hi)
  have HMS := hide (fun (W : World) => messagesS_any P (L 0) W (by omega) h4')
  have hmk := run_make_row' (P := Try.prog) 23 3 (.int .i64 0) 8 Try.underlying23 info_int rfl .i64 .i64 P (by omega) (by omega)
  have HTB := hide (show P ^ L 0 ≤ 2401 from Nat.le_trans (Nat.pow_le_pow_left (show P ≤ 7 by omega) _) (Nat.le_trans (Nat.pow_le_pow_right (by omega) h4') (by decide)))
  clear h4 hva hi hw1 hw2
  go_enter Try.func21, Try.ntmps21
  go_wp2_with fail
  refine (HV.out _ (below_box _)).mono ?_
  rintro x w1 ⟨rfl, hb1⟩
  obtain ⟨hbw, hbox⟩ := box_plain hb1
  have x0 := hbox.at_ (i := 0) (v := .int .i64 (P : Int)) rfl
  have x1 := hbox.at_ (i := 1) (v := .slice (some ⟨b, off, none⟩) n1 c) rfl
  have x3 := (hbw.cell (p := ⟨b, off, none⟩) hbl).trans HR0.out
  have hbxl := hbox.lt
  have hbl1 : b < w1.heap.size := by omega
  have HB := hide hbw
  have HBX := hide hbox
  clear hb1 hbw hbox
  go_wp2_with fail
  refine (HW.out _ HB.out).mono ?_
  rintro x _ ⟨rfl, rfl⟩
  go_wp2_with fail
  refine (HPW.out _).mono ?_
  rintro x _ ⟨rfl, rfl⟩
  go_wp2_with fail
  refine (HIN.out _).mono ?_
  rintro x _ ⟨rfl, rfl⟩
  go_wp2_with fail
  refine nameCode (fun w2 => w2.heap.size = w1.heap.size + 1 ∧ Below w.heap.size w w2 ∧ Blk w2 w.heap.size 29 #[.int .i64 P, .slice (some ⟨b, off, none⟩) n1 c, .slice O n1 e] ∧ Row w2 w.heap.size (some ⟨w1.heap.size, 0, none⟩) P P (List.replicate P 0)) ?_ ?_
  · exact ⟨by simp, HB.out.alloc HB.out.size _, HBX.out.alloc _, Row.zeros P HB.out.size (by omega)⟩
  have hs1 : w.heap.size + 1 ≤ w1.heap.size := hbxl
  clear x0 x1 x3 hbl1 HB HBX hbxl HW HPW HIN HV
  rintro w2 ⟨hz2, hb2, hbox, hrow⟩
  have hs2 : w1.heap.size + 1 ≤ w2.heap.size := by omega
  have x0 := hbox.at_ (i := 0) (v := .int .i64 (P : Int)) rfl
  have x1 := hbox.at_ (i := 1) (v := .slice (some ⟨b, off, none⟩) n1 c) rfl
  have x3 := (hb2.cell (p := ⟨b, off, none⟩) hbl).trans HR0.out
  have HB2 := hide hb2
  have HBX2 := hide hbox
  have HROW := hide hrow
  clear hz2 hb2 hbox hrow
  obtain ⟨T, hTT⟩ : ∃ T, P ^ L 0 = T := ⟨_, rfl⟩
  simp only [hTT] at HMS HTB
  have HTT := hide hTT
  have hTb := HTB.out
  clear hTT
  go_still_tail 7, (by kernel_rfl)
  change wpList _ _ _ _ _ w2.drew
  go_wp2_with fail
  refine (HMS.out _).mono ?_
  rintro x wv ⟨A', c', R, rfl, hT, hbv⟩
  have HV1 := hide (show Below w2.heap.size w2 wv from ((Below.refl w2.heap.size w2).drew).trans hbv)
  have HT := hide (show MsT wv w2.heap.size A' c' T P (L 0) R from hT)
  have hsv := hbv.size
  have hsv2 : w2.heap.size ≤ wv.heap.size := hsv
  clear hT hbv hsv x0 x1 x3
  go_wp2_with fail
  go_loopw [9] (fun i wr => ∃ τ : Nat, τ ≤ T ∧ i = .int .i64 τ ∧ Row wr w.heap.size (some ⟨w1.heap.size, 0, none⟩) P P (ctL P n1 (L 0) M f t g τ) ∧ Below w.heap.size w wr ∧ Only w1.heap.size wv wr) (fun i _ => T - (intOf i).toNat)
  case atStart => exact ⟨0, by omega, rfl, by rw [ctL_zero]; exact HROW.out.keep HV1.out, HB2.out.trans (HV1.out.mono (by omega)), Only.refl _ _⟩
  case round =>
    obtain ⟨τ, hτ, rfl, hrw, hbw, honly⟩ := hrel
    obtain ⟨wo, rfl⟩ : ∃ x, x = wr := ⟨_, rfl⟩
    have HRWO := hide hrw
    have HBW := hide hbw
    have HON := hide honly
    have hso := honly.size
    clear hrw hbw honly
    by_cases hlt : τ < T
    · have hτI : (τ : Int) < (T : Int) := by omega
      have hτI0 : (0 : Int) ≤ (τ : Int) := by omega
      obtain ⟨bO, gq, cq, rfl, hbO, hgq, x1, x2⟩ := HT.out.at2 hlt
      obtain ⟨onc, _⟩ := HON.out.cells
      have y1 := (onc bO τ hbO.2 (by omega)).trans x1
      have hi2 : Ints wo wo.heap.size (some ⟨gq, 0, none⟩) (L 0) (lf (dgs P (L 0) τ)) := fun _ => ⟨gq, 0, rfl, by omega, fun i hi => (onc gq (0 + i) hgq.2 (by omega)).trans (x2 i hi)⟩
      have kx : Blk wo w.heap.size 29 #[.int .i64 P, .slice (some ⟨b, off, none⟩) n1 c, .slice O n1 e] := (HON.out.block w.heap.size (by omega) (by simp; omega)).trans (HBX2.out.below HV1.out (by omega))
      have z0 := kx.at_ (i := 0) (v := .int .i64 (P : Int)) rfl
      have z1 := kx.at_ (i := 1) (v := .slice (some ⟨b, off, none⟩) n1 c) rfl
      have z2 := kx.at_ (i := 2) (v := .slice O n1 e) rfl
      have lz := kx.lt
      have lO : bO < wo.heap.size := by omega
      have lG : gq < wo.heap.size := by omega
      have HXS := hide hi2
      have hxl := dgs_len P (L 0) τ
      have hxb := fun y => dgs_bd (p := P) (by omega) (L 0) τ y
      have HFF := hide (fineR_fit (p := P) (n := n1) (k := L 0) (s := t) (M := M) (f := f) (g := g) (xs := dgs P (L 0) τ))
      have HYES := hide (fun (d : Nat) => ct_yes (P := P) (n := n1) (k := L 0) (s := t) (M := M) (f := f) (g := g) (t := τ) (d := d))
      have HNO := hide (ct_no (P := P) (n := n1) (k := L 0) (s := t) (M := M) (f := f) (g := g) (t := τ))
      clear x1 x2 onc hi2 kx
      generalize dgs P (L 0) τ = xs at *
      have HXB := hide (fun i (hi : i < L 0) => (show 0 ≤ lf xs i ∧ lf xs i ≤ (P : Int) - 1 by
        have hl : i < xs.length := by omega
        have := hxb _ (List.getElem_mem hl)
        simp only [lf, List.getD, List.getElem?_eq_getElem hl, Option.getD_some]
        omega))
      have HXL := hide hxl
      clear hxb hxl
      go_wp2_with fail
      go_loopw [10, 11] (fun v i wr => ∃ j q : Nat, j ≤ n1 ∧ i = .int .i64 j ∧ v = .bool (fineR P (L 0) M f t g (lf xs) j) ∧ wr = wo.drewN q) (fun _ i _ => n1 - (intOf i).toNat)
      case atStart => exact ⟨0, 0, by omega, rfl, rfl, rfl⟩
      case round =>
        obtain ⟨j, q, hj, rfl, rfl, rfl⟩ := hrel
        by_cases hjn : j < n1
        · have hjI : (j : Int) < (n1 : Int) := by omega
          have hjI0 : (0 : Int) ≤ (j : Int) := by omega
          have ho := HSC.out.own j hjn
          obtain ⟨o, ho1⟩ := Int.eq_ofNat_of_zero_le ho.1
          obtain ⟨bo, oo, rfl, hbo, hco⟩ := HO.out wo HBW.out (by omega)
          have z3 := hco j hjn
          rw [ho1] at z3
          obtain ⟨b', off', eB, hbl3, hc3⟩ := HM.out wo HBW.out (by omega)
          obtain ⟨rfl, rfl⟩ : b = b' ∧ off = off' := by simpa using eB
          obtain ⟨R1, C1, e1, e2⟩ := hc3 j hjn
          obtain ⟨m1, m2⟩ := HRW.out j hjn
          rw [m1] at e1 e2
          obtain ⟨bS, oS, rfl, hbS, hcS⟩ := HI.out wo HBW.out (by omega)
          have z5 := hcS j hjn
          have HD := hide (fun (N : Nat) => dot_any P R1 (some ⟨gq, 0, none⟩) (L 0) C1 (L 0) cq (M j) (lf xs) (wo.drewN N) (by omega) (by omega) (Nat.le_refl _) (fun z hz => by
            have a1 := m2 z hz
            have a2 := HXB.out z hz
            omega) e2 HXS.out)
          have HS := hide (show fineR P (L 0) M f t g (lf xs) (j + 1) = (fineR P (L 0) M f t g (lf xs) j && (!bt t o || decide (dsum (M j) (lf xs) (L 0) % P = g j))) by rw [fineR, ho1, Int.toNat_natCast])
          have ho4 : o ≤ 4 := by omega
          clear hco hc3 hcS e2 m1 m2 eB ho1
          generalize dsum (M j) (lf xs) (L 0) % P = u at *
          generalize g j = z at *
          cases hfk : fineR P (L 0) M f t g (lf xs) j
          · rw [hfk] at HS
            have HFK := hide hfk
            clear hfk
            go_wp2_with fail
            refine quietP (by kernel_rfl) (by kernel_rfl) ?_
            repeat (refine wq_step (fun K hK => ?_); go_simp; refine hK _ ?_; clear hK K)
            refine wq_nil ?_
            intro _ hw'
            obtain ⟨nq, hw''⟩ := hw'
            subst hw''
            go_wp2_with fail
            exact ⟨⟨j + 1, _, hjn, by go_num, by rw [HS.out]; rfl, rfl⟩, by simp only [intOf]; omega⟩
          · rw [hfk] at HS
            have HFK := hide hfk
            clear hfk
            cases hbt : bt t o
            · have HBT := hide (fun W => bitS_f t o W (by omega) (by omega) hbt)
              rw [hbt] at HS
              clear hbt
              go_wp2_with fail
              refine quietP (by kernel_rfl) (by kernel_rfl) ?_
              repeat (refine wq_step (fun K hK => ?_); go_simp; first | (refine hK _ ?_; clear hK K) | (apply Exists.intro; refine ⟨fun _ => ?_, hK _ ?_⟩; (go_at_call 50; with_reducible exact quiet_eq (HBT.out _)); clear hK K))
              refine wq_nil ?_
              intro _ hw'
              obtain ⟨nq, hw''⟩ := hw'
              subst hw''
              go_wp2_with fail
              exact ⟨⟨j + 1, _, hjn, by go_num, by rw [HS.out]; rfl, rfl⟩, by simp only [intOf]; omega⟩
            · have HBT := hide (fun W => bitS_t t o W (by omega) (by omega) hbt)
              rw [hbt] at HS
              clear hbt
              go_wp2_with fail
              refine quietP (by kernel_rfl) (by kernel_rfl) ?_
              repeat (refine wq_step (fun K hK => ?_); go_simp; first | (refine hK _ ?_; clear hK K) | (apply Exists.intro; refine ⟨fun _ => ?_, hK _ ?_⟩; (first | (go_at_call 50; with_reducible exact quiet_eq (HBT.out _)) | (go_at_call 59; with_reducible exact quiet_more (HD.out _))); clear hK K))
              refine wq_nil ?_
              intro _ hw'
              obtain ⟨nq, hw''⟩ := hw'
              subst hw''
              go_wp2_with fail
              exact ⟨⟨j + 1, _, hjn, by go_num, by rw [HS.out]; rfl, rfl⟩, by simp only [intOf]; omega⟩
        · obtain hjl : j = n1 := by omega
          have hge : ¬ (j : Int) < (n1 : Int) := by omega
          have HFE := hide (show fineR P (L 0) M f t g (lf xs) j = fitB P n1 (L 0) M f t g xs by rw [hjl]; exact HFF.out)
          clear hjl
          cases hfk : fineR P (L 0) M f t g (lf xs) j
          · rw [hfk] at HFE
            have HFN := hide (HNO.out HFE.out.symm)
            clear hfk
            go_wp2_with fail
            exact ⟨⟨τ + 1, hlt, by go_num, by rw [HFN.out]; exact HRWO.out.drewN q, below_drewN HBW.out q, HON.out.drewN q⟩, by simp only [intOf]; omega⟩
          · rw [hfk] at HFE
            have hL0 : 0 < L 0 := hl0.1
            have hd := HXB.out 0 hL0
            obtain ⟨d, hdd⟩ := Int.eq_ofNat_of_zero_le hd.1
            rw [hdd] at hd
            have HYE := hide (HYES.out d HFE.out.symm hdd)
            obtain ⟨_, _, eA, _, hcx⟩ := HXS.out hL0
            injection eA with eA
            injection eA with eA eB
            subst eA
            subst eB
            have y2 := hcx 0 hL0
            rw [hdd, Nat.zero_add] at y2
            obtain ⟨_, eA, _, _, y3, y4, hset⟩ := HRWO.out.at_ (i := d) (by omega)
            injection eA with eA
            injection eA with eA
            subst eA
            have hct : (ctL P n1 (L 0) M f t g τ).getD d 0 = ctF P n1 (L 0) M f t g τ d := listOf_getD _ (by omega)
            rw [hct] at y3
            have hb1 := ct_bd (P := P) (n := n1) (k := L 0) (M := M) (f := f) (g := g) (s := t) (x := d) τ
            have HS := hide (hset (ctF P n1 (L 0) M f t g τ d + 1))
            rw [← HYE.out] at HS
            have hdI : (d : Int) < (P : Int) := by omega
            have hdI0 : (0 : Int) ≤ (d : Int) := by omega
            have hwr : IntKind.i64.wrap (ctF P n1 (L 0) M f t g τ d + 1) = ctF P n1 (L 0) M f t g τ d + 1 := IntWalk.i64_in _ (by omega)
            generalize ctF P n1 (L 0) M f t g τ d = u at *
            have lz2 : w1.heap.size < wo.heap.size := by omega
            clear hfk hset hct hdd hcx
            go_wp2_with fail
            have HB3 := hide ((below_drewN HBW.out (q + 1)).setCell (p := ⟨w1.heap.size, d, none⟩) (show w.heap.size ≤ w1.heap.size by omega) (.int .i64 (u + 1)))
            have HO3 := hide ((HON.out.drewN (q + 1)).setCell (p := ⟨w1.heap.size, d, none⟩) (.inl rfl) (.int .i64 (u + 1)))
            refine nameCode (fun wq => (wq.cell? ⟨bO, τ, none⟩ = some (.slice (some ⟨gq, 0, none⟩) (L 0) cq) ∧ wq.cell? ⟨gq, 0, none⟩ = some (.int .i64 (d : Int)) ∧ wq.cell? ⟨w1.heap.size, d, none⟩ = some (.int .i64 u) ∧ wq.frozen? ⟨w1.heap.size, d, none⟩ = false) ∧ w1.heap.size < wq.heap.size ∧ bO < wq.heap.size ∧ gq < wq.heap.size ∧ Row (wq.drew.setCell ⟨w1.heap.size, d, none⟩ (.int .i64 (u + 1))) w.heap.size (some ⟨w1.heap.size, 0, none⟩) P P (ctL P n1 (L 0) M f t g (τ + 1)) ∧ Below w.heap.size w (wq.drew.setCell ⟨w1.heap.size, d, none⟩ (.int .i64 (u + 1))) ∧ Only w1.heap.size wv (wq.drew.setCell ⟨w1.heap.size, d, none⟩ (.int .i64 (u + 1)))) ⟨⟨y1, y2, y3, y4⟩, lz2, lO, lG, HS.out, HB3.out, HO3.out⟩ ?_
            clear y1 y2 y3 y4 lz2 lO lG HS HB3 HO3
            rintro wq ⟨⟨y1, y2, y3, y4⟩, lz2, lO, lG, hs, hb3, ho3⟩
            have HS := hide hs
            have HB3 := hide hb3
            have HO3 := hide ho3
            clear hs hb3 ho3
            go_still_tail 18, (by kernel_rfl)
            change wpList _ _ _ _ _ wq.drew
            go_wp2_with fail
            exact ⟨⟨τ + 1, hlt, by go_num, HS.out, HB3.out, HO3.out⟩, by simp only [intOf]; omega⟩
    · obtain rfl : τ = T := by omega
      have hge : ¬ (τ : Int) < (τ : Int) := by omega
      go_wp2_with fail
      go_ret
      exact ps_yes HPB.out (by rw [HTT.out]; exact HRWO.out) HBW.out
end Go.Proofs.Ytcalfblghblhcaa
