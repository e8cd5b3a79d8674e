/-
  All lists over a prime, the reference's. Conditions: the prime is at most 7, the lists have at most 4 numbers.
-/
import Derived.Test.YtcalfblghblhcaaPossPlain
import Derived.Test.YtcalfblghblhcaaRed
namespace Go.Proofs.Ytcalfblghblhcaa
open Go.RowKit

section
variable {ops : Array Oper} {rest : List Oper} {o : Oper} {a : Act} {Q : Exit → Act → World → Prop} {w : World} {base c : Nat} {A : Option Addr}
/-- a slice that can be read (it may be empty), appended to an empty one -/
theorem copy_row (hgd : o.guard = none) (s x : Operand) (ho : o.op = .call { callee := .builtin .append, args := #[s, x], argTypes := #[23, 23] })
    (hs : a.eval s = .slice A 0 c) (hown : Row w base A 0 c []) {b off m c2 : Nat} (f : Nat → Int) (hc : ∀ i, i < m → w.cell? ⟨b, off + i, none⟩ = some (.int .i64 (f i)))
    (hx : a.eval x = .slice (some ⟨b, off, none⟩) m c2) (hn : m ≤ 1000000) (hbase : base ≤ w.heap.size)
    (h : ∀ A' c' w', Row w' base A' m c' (listOf m f) → Below base w w' → w.grownBy w' (Value.slice A 0 c).ownBlock → wpList Try.prog ops Q rest (a.put o.dst (.slice A' m c')) w') :
    wpList Try.prog ops Q (o :: rest) a w := by
  obtain ⟨i0, hi, hz, hz1, hz2⟩ := parts_of info_int
  refine wpList_append_own_at (w := w) hgd s x 23 ho base 3 i0 (.int .i64 0) 1 8 Try.underlying23 hi hz hz1 hz2 rfl (by omega) (.slice A 0 c) 0 [] hs hown.2 ⟨b, off, none⟩ m c2 ((listOf m f).map (Value.int .i64)) hx (by simp [listOf_len]) (fun j u hu => ?_) (fun u hu => ?_) (by unfold maxLen; omega) (by omega) hbase ?_
  · have hj : j < m := by
      rcases Nat.lt_or_ge j m with h1 | h1
      · exact h1
      · rw [List.getElem?_eq_none (by simp [listOf_len]; exact h1)] at hu; cases hu
    rw [List.getElem?_map, listOf_get f hj] at hu
    have e : (⟨b, off, none⟩ : Addr).add j = ⟨b, off + j, none⟩ := by unfold Addr.add; split <;> simp_all
    rw [e, hc j hj]
    exact hu
  · obtain ⟨z, _, rfl⟩ := List.mem_map.1 hu
    rfl
  · intro v' w' hown' hg _ _
    rw [Nat.zero_add, List.nil_append] at hown'
    have hval : ∃ A' c', v' = .slice A' m c' := by
      rcases hown'.2 with ⟨h1, h0⟩ | ⟨g, cap, cur, h1, _⟩
      · subst h0; exact ⟨_, _, h1⟩
      · exact ⟨_, _, h1⟩
    obtain ⟨A', c', rfl⟩ := hval
    exact h A' c' w' ⟨listOf_len _ _, hown'⟩ (hown.grown hg hbase) hg
end

/-- a table of the first N lists of k numbers -/
def MsT (w : World) (base : Nat) (A : Option Addr) (c N p k : Nat) (R : List Sl) : Prop := Tab w base A N c R ∧ ∀ j, j < N → ∃ q, R[j]? = some q ∧ q.xs = dgs p k j ∧ ∃ b, q.A = some ⟨b, 0, none⟩
section
variable {w w' : World} {base c N p k : Nat} {A : Option Addr} {R : List Sl}
theorem MsT.keep (h : MsT w base A c N p k R) (hb : Below w.heap.size w w') : MsT w' base A c N p k R := ⟨h.1.keep hb, h.2⟩
theorem MsT.mono {base' : Nat} (h : MsT w base A c N p k R) (hb : base' ≤ base) : MsT w base' A c N p k R := ⟨h.1.mono hb, h.2⟩
theorem MsT.push {A' A1 : Option Addr} {c' c1 b : Nat} {ys : List Int} (h : MsT w base A c N p k R) (ht : Tab w' base A' (N + 1) c' (R ++ [⟨A1, c1, ys⟩])) (hy : ys = dgs p k N) (hA : A1 = some ⟨b, 0, none⟩) : MsT w' base A' c' (N + 1) p k (R ++ [⟨A1, c1, ys⟩]) := by
  refine ⟨ht, fun j hj => ?_⟩
  have hl := h.1.1
  by_cases e : j = N
  · subst e
    refine ⟨⟨A1, c1, ys⟩, ?_, hy, b, hA⟩
    rw [List.getElem?_append_right (by omega), hl]; simp
  · obtain ⟨q, h1, h2⟩ := h.2 j (by omega)
    exact ⟨q, by rw [List.getElem?_append_left (by omega)]; exact h1, h2⟩
/-- list j of the table -/
theorem MsT.at_ (h : MsT w base A c N p k R) {j : Nat} (hj : j < N) : ∃ b g cq, A = some ⟨b, 0, none⟩ ∧ b < w.heap.size ∧ g < w.heap.size ∧ w.cell? ⟨b, j, none⟩ = some (.slice (some ⟨g, 0, none⟩) k cq) ∧ ∀ i, i < k → w.cell? ⟨g, 0 + i, none⟩ = some (.int .i64 ((dgs p k j).getD i 0)) := by
  obtain ⟨b, r, hA, hb, hlt, hr, hc, _, hrow⟩ := h.1.at_ hj
  obtain ⟨q, h1, h2, g, h3⟩ := h.2 j hj
  rw [hr] at h1
  injection h1 with h1
  subst h1
  rw [h3] at hc hrow
  rw [h2, dgs_len] at hc hrow
  obtain ⟨_, hgl⟩ := hrow.blk g rfl
  refine ⟨b, g, r.c, hA, hlt, hgl, hc, fun i hi => ?_⟩
  obtain ⟨b2, e, _, _, hx, _⟩ := hrow.at_ hi
  injection e with e
  injection e with e
  subst e
  rw [Nat.zero_add]
  exact hx
end
theorem MsT.at2 {w : World} {base c N p k : Nat} {A : Option Addr} {R : List Sl} (h : MsT w base A c N p k R) {j : Nat} (hj : j < N) : ∃ b g cq, A = some ⟨b, 0, none⟩ ∧ (base ≤ b ∧ b < w.heap.size) ∧ (base ≤ g ∧ g < w.heap.size) ∧ w.cell? ⟨b, j, none⟩ = some (.slice (some ⟨g, 0, none⟩) k cq) ∧ ∀ i, i < k → w.cell? ⟨g, 0 + i, none⟩ = some (.int .i64 ((dgs p k j).getD i 0)) := by
  obtain ⟨b, r, hA, hb, hlt, hr, hc, _, hrow⟩ := h.1.at_ hj
  obtain ⟨q, h1, h2, g, h3⟩ := h.2 j hj
  rw [hr] at h1
  injection h1 with h1
  subst h1
  rw [h3] at hc hrow
  rw [h2, dgs_len] at hc hrow
  refine ⟨b, g, r.c, hA, ⟨hb, hlt⟩, hrow.blk g rfl, hc, fun i hi => ?_⟩
  obtain ⟨b2, e, _, _, hx, _⟩ := hrow.at_ hi
  injection e with e
  injection e with e
  subst e
  rw [Nat.zero_add]
  exact hx
/-- list i * p + x is list i with x behind it -/
theorem dgs_snoc {p k i x : Nat} (hx : x < p) : dgs p (k + 1) (i * p + x) = dgs p k i ++ [((x : Nat) : Int)] := by
  have hp : 0 < p := by omega
  have e1 : (i * p + x) / p = i := by rw [Nat.mul_comm, Nat.mul_add_div hp, Nat.div_eq_of_lt hx, Nat.add_zero]
  have e2 : (i * p + x) % p = x := by rw [Nat.mul_comm, Nat.mul_add_mod, Nat.mod_eq_of_lt hx]
  rw [dgs, e1, e2]
theorem listOf_self (xs : List Int) : listOf xs.length (fun i => xs.getD i 0) = xs := by
  refine List.ext_getElem? fun i => ?_
  by_cases h : i < xs.length
  · rw [listOf_get _ h]; simp [List.getD, h]
  · rw [List.getElem?_eq_none (by rw [listOf_len]; omega), List.getElem?_eq_none (by omega)]

theorem tab_one {w : World} {base n c : Nat} {A : Option Addr} {xs : List Int} (h : Row w base A n c xs) (hb : base ≤ w.heap.size) : Tab (w.alloc (.cells #[.slice A n c] 23)) base (some ⟨w.heap.size, 0, none⟩) 1 1 [⟨A, c, xs⟩] := by
  have hl := h.1
  subst hl
  refine ⟨rfl, ⟨rfl, .inr ⟨w.heap.size, 1, _, rfl, hb, heap_alloc_new w _, Nat.le_refl _, by unfold maxLen; omega, rfl, rfl⟩⟩, fun r hr => ?_⟩
  rw [List.mem_singleton] at hr
  subst hr
  exact h.alloc _

set_option maxHeartbeats 2000000 in
theorem messagesS_any (p K : Nat) (w : World) (hp : 2 ≤ p ∧ p ≤ 7) (hK : K ≤ 4) :
    Calls Try.prog 58 #[.int .i64 p, .int .i64 K] w fun e w' => ∃ A' c' R, e = .returned (.slice A' (p ^ K) c') ∧ MsT w' w.heap.size A' c' (p ^ K) p K R ∧ Below w.heap.size w w' := by
  have HPW := hide (fun r (hr : r ≤ K) => Nat.le_trans (Nat.pow_le_pow_left hp.2 r) (Nat.pow_le_pow_right (show 0 < 7 by omega) (show r ≤ 4 by omega)))
  go_enter Try.func58, Try.ntmps58
  go_wp2_with fail
  go_loopw [1, 5] (fun kv ov wr => ∃ (r d N : Nat) (A' : Option Addr) (c' : Nat) (R : List Sl), r + d = K ∧ N = p ^ r ∧ kv = .int .i64 d ∧ ov = .slice A' N c' ∧ MsT wr w.heap.size A' c' N p r R ∧ Below w.heap.size w wr) (fun kv _ _ => (intOf kv).toNat)
  case atStart =>
    have hr := Row.lit (w := w) (cs := #[]) (xs := []) (n := 0) (base := w.heap.size) rfl rfl (Nat.le_refl _)
    have ht := tab_one hr (by simp)
    rw [World.size_alloc] at ht
    exact ⟨0, K, 1, _, _, _, by omega, rfl, rfl, rfl, ⟨ht, fun j hj => (by
      obtain rfl : j = 0 := by omega
      exact ⟨_, rfl, rfl, _, rfl⟩)⟩, ((Below.refl _ _).alloc (Nat.le_refl _) _).alloc (by simp) _⟩
  case round =>
    obtain ⟨r, d, N, A', c', R, hrd, hN, rfl, rfl, hT, hB⟩ := hrel
    have HN := hide hN
    have HRD := hide hrd
    have HT := hide hT
    have HB := hide hB
    have hzo := hB.size
    obtain ⟨wo, rfl⟩ : ∃ x, x = wr := ⟨_, rfl⟩
    clear hN hT hB
    by_cases hd : d = 0
    · subst hd
      have hrK : r = K := by omega
      clear hrd
      go_wp2_with fail
      go_ret
      subst hrK
      have hN := HN.out
      subst hN
      exact ⟨_, _, _, rfl, HT.out, HB.out⟩
    have hdI : (0 : Int) < (d : Int) := by omega
    have hmx : p ^ (r + 1) ≤ 7 ^ 4 := HPW.out (r + 1) (by omega)
    have HMX := hide (show N * p ≤ 2401 by rw [HN.out, ← Nat.pow_succ]; exact Nat.le_trans hmx (by decide))
    have hNb : N ≤ 2401 := by
      have h1 : N * 1 ≤ N * p := Nat.mul_le_mul_left N (by omega)
      have := HMX.out
      omega
    have hd4 : d ≤ 4 := by omega
    have hd0 : 0 < d := by omega
    clear hrd hd hmx
    go_wp2_with fail
    go_loopw [6, 7] (fun nv iv wr => ∃ (i n2 : Nat) (A2 : Option Addr) (c2 : Nat) (R2 : List Sl), i ≤ N ∧ n2 = i * p ∧ iv = .int .i64 i ∧ nv = .slice A2 n2 c2 ∧ MsT wr wo.heap.size A2 c2 n2 p (r + 1) R2 ∧ Below wo.heap.size wo wr) (fun _ iv _ => N - (intOf iv).toNat)
    case atStart => exact ⟨0, 0, _, _, [], by omega, by omega, rfl, rfl, ⟨Tab.empty0 0 rfl (Nat.le_refl _), fun j hj => absurd hj (by omega)⟩, (Below.refl _ _).alloc (Nat.le_refl _) _⟩
    case round =>
      obtain ⟨i, n2, A2, c2, R2, hi, hn2, rfl, rfl, hT2, hB2⟩ := hrel
      have HN2 := hide hn2
      have HT2 := hide hT2
      have HB2 := hide hB2
      have hz2 := hB2.size
      obtain ⟨wm, rfl⟩ : ∃ x, x = wr := ⟨_, rfl⟩
      clear hn2 hT2 hB2
      by_cases hlt : i < N
      · have hiI : (i : Int) < (N : Int) := by omega
        have hiI0 : (0 : Int) ≤ (i : Int) := by omega
        have HM3 := hide (show i * p + p ≤ 2401 by
          have h1 : (i + 1) * p ≤ N * p := Nat.mul_le_mul_right p hlt
          rw [Nat.add_mul, Nat.one_mul] at h1
          have := HMX.out
          omega)
        go_wp2_with fail
        go_loopw [6, 8] (fun nv xv wr => ∃ (x n3 : Nat) (A3 : Option Addr) (c3 : Nat) (R3 : List Sl), x ≤ p ∧ n3 = i * p + x ∧ xv = .int .i64 x ∧ nv = .slice A3 n3 c3 ∧ MsT wr wo.heap.size A3 c3 n3 p (r + 1) R3 ∧ Below wo.heap.size wo wr) (fun _ xv _ => p - (intOf xv).toNat)
        case atStart => exact ⟨0, _, _, _, _, by omega, HN2.out, rfl, rfl, HT2.out, HB2.out⟩
        case round =>
          obtain ⟨x, n3, A3, c3, R3, hx, hn3, rfl, rfl, hT3, hB3⟩ := hrel
          have HN3 := hide hn3
          have HT3 := hide hT3
          have HB3 := hide hB3
          have hz3 := hB3.size
          have hm3 := HM3.out
          have hb3 : n3 ≤ 2401 := by omega
          clear hn3 hT3 hB3 hm3
          by_cases hxp : x < p
          · have hxI : (x : Int) < (p : Int) := by omega
            have hxI0 : (0 : Int) ≤ (x : Int) := by omega
            obtain ⟨bO, g, cq, rfl, hbO, hg, x1, x2⟩ := (HT.out.keep HB3.out).at_ hlt
            have HX2 := hide (fun t (ht : t < r) => (show (wr.alloc (.cells #[] 3)).cell? ⟨g, 0 + t, none⟩ = some (.int .i64 ((dgs p r i).getD t 0)) from ((Below.refl wr.heap.size wr).alloc (Nat.le_refl _) _).cell (p := ⟨g, 0 + t, none⟩) hg ▸ x2 t ht))
            clear x2
            have HLS := hide (show listOf r (fun t => (dgs p r i).getD t 0) = dgs p r i by
              have h := listOf_self (dgs p r i)
              rw [dgs_len] at h
              exact h)
            have HSN := hide (dgs_snoc (k := r) (i := i) hxp)
            have hr4 : r ≤ 4 := by have := HRD.out; omega
            go_wp2_with (first | (at_builtin; (refine copy_row rfl _ _ rfl rfl (Row.lit (cs := #[]) (xs := []) (n := 0) (base := wr.heap.size) rfl rfl (Nat.le_refl _)) (fun t => (dgs p r i).getD t 0) HX2.out rfl (by omega) (by simp) ?_; intro A5 c5 w5 hr5 hb5 hg5; rw [HLS.out] at hr5; have hz5 : wr.heap.size + 1 ≤ w5.heap.size := (by have := hg5.size; simpa using this); have HF := hide (show Row w5 wr.heap.size A5 r c5 (dgs p r i) ∧ Below wr.heap.size wr w5 from ⟨hr5, ((Below.refl _ _).alloc (Nat.le_refl _) _).trans hb5⟩); clear hr5 hb5 hg5)) | (at_builtin; (refine push_int rfl _ _ rfl _ rfl HF.out.1 ((x : Nat) : Int) _ rfl (by omega) (by omega) ?_; intro A6 c6 w6 hr6 hb6 hg6 hat6; have hz6 := hb6.size; have HF6 := hide (show Row w6 wr.heap.size A6 (r + 1) c6 (dgs p r i ++ [((x : Nat) : Int)]) ∧ Below wr.heap.size wr w6 from ⟨hr6, HF.out.2.trans hb6⟩); clear hr6 hb6 hg6 hat6)) | (at_builtin; (refine push_row rfl _ _ rfl R3 rfl (HT3.out.keep HF6.out.2).1 A6 (r + 1) c6 (dgs p r i ++ [((x : Nat) : Int)]) (HF6.out.1.mono hz3) _ rfl (by omega) (by omega) ?_; intro A7 c7 w7 ht7 hb7 hg7 hat7; have hz7 := hb7.size; have HX := hide (show MsT w7 wo.heap.size A7 c7 (n3 + 1) p (r + 1) _ ∧ Below wo.heap.size wo w7 from ⟨(by obtain ⟨g6, e6, _⟩ := Row.some_ HF6.out.1 (by omega); exact HT3.out.push ht7 (by rw [HN3.out]; exact HSN.out.symm) e6), (HB3.out.trans (HF6.out.2.mono hz3)).trans hb7⟩); clear ht7 hb7 hg7 hat7)))
            go_roundw
            case rel => first | exact ⟨x + 1, n3 + 1, _, _, _, by omega, by have := HN3.out; omega, by go_num, rfl, HX.out.1, HX.out.2⟩ | ((repeat apply Exists.intro); refine ⟨?_, rfl⟩; exact ⟨x + 1, n3 + 1, _, _, _, by omega, by have := HN3.out; omega, by go_num, rfl, HX.out.1, HX.out.2⟩)
            case measure => simp [intOf]; omega
          · obtain rfl : x = p := by omega
            have hge : ¬ (x : Int) < (x : Int) := by omega
            go_wp2_with fail
            refine ⟨⟨i + 1, n3, _, _, _, by omega, by rw [Nat.add_mul, Nat.one_mul]; exact HN3.out, by go_num, rfl, HT3.out, HB3.out⟩, ?_⟩
            simp [intOf]; omega
      · obtain rfl : i = N := by omega
        have hge : ¬ (i : Int) < (i : Int) := by omega
        go_wp2_with fail
        refine ⟨⟨r + 1, d - 1, n2, _, _, _, by have := HRD.out; omega, by rw [HN2.out, Nat.pow_succ, ← HN.out], by rw [show ((d - 1 : Nat) : Int) = (d : Int) - 1 by omega], rfl, HT2.out.mono hzo, HB.out.trans (HB2.out.mono hzo)⟩, ?_⟩
        simp [intOf]; omega
end Go.Proofs.Ytcalfblghblhcaa
