/-
  FnValidNet returns true for every code: the walk. Conditions: none.
-/
import Derived.Test.YtecmihmopiepfaaNetDraw2
import Derived.Test.YtecmihmopiepfaaCut2
namespace Go.Proofs.Ytecmihmopiepfaa
open Go.RowKit

theorem vNet_less {n : Nat} {L : Nat → Nat} {M : Nat → Nat → Int} (h : vNet n L M = true) (hn : n ≠ 2) : vNet (n - 1) (fun _ => n - 1) M = true := by
  obtain ⟨h1, h2⟩ := vNet_true.1 h
  exact vNet_true.2 ⟨by omega, fun a ha => ⟨rfl, fun b hb => (h2 a (by omega)).2 b (by omega)⟩⟩

section
variable {ops : Array Oper} {rest : List Oper} {o : Oper} {a : Act} {Q : Exit → Act → World → Prop} {w : World} {base n c : Nat} {A : Option Addr}
theorem push_val (hgd : o.guard = none) (s x : Operand) (ho : o.op = .call { callee := .builtin .append, args := #[s, x], argTypes := #[23, 23] })
    (vs : List Value) (hs : a.eval s = .slice A n c) (hown : w.ownsRow base 26 1 (.slice A n c) n vs) (A1 : Option Addr) (n1 c1 : Nat) (t : TypeId)
    (hx : a.eval x = .slice (some ⟨w.heap.size, 0, none⟩) 1 1) (hn : n ≤ 1000000) (hbase : base ≤ w.heap.size)
    (h : ∀ A' c' w', w'.ownsRow base 26 1 (.slice A' (n + 1) c') (n + 1) (vs ++ [.slice A1 n1 c1]) → Below base w w' → wpList Try.prog ops Q rest (a.put o.dst (.slice A' (n + 1) c')) w') : wpList Try.prog ops Q (o :: rest) a (w.alloc (.cells #[.slice A1 n1 c1] t)) :=
  push_any 23 26 (.slice none 0 0) 24 Try.underlying23 info_ints rfl (by omega) hgd s x ho _ hs hown (.slice A1 n1 c1) rfl t hx hn hbase fun A' c' w' h1 h2 _ =>
    h A' c' w' h1 ((Below.refl _ _).grown h2 hbase fun k hk => (hown.lt k hk).1)
end

/-- the rows cut by their last number can be read -/
theorem mat_of_vals {w : World} {base k n c : Nat} {A A' : Option Addr} {L : Nat → Nat} {M : Nat → Nat → Int} {R : Nat → Option Addr} {C : Nat → Nat} (h : w.ownsRow base 26 1 (.slice A' k c) k ((List.range k).map fun i => .slice (R i) n (C i)))
    (hr : ∀ i, i < k → Ints w w.heap.size (R i) n (M i)) : Mat w w.heap.size A' k (fun _ => n) M := fun h0 => by
  rcases h.2 with ⟨_, h1⟩ | ⟨g, cap, cur, h1, h2, h3, h4, _⟩
  · omega
  · injection h1 with h1 _ h5
    subst h1 h5
    refine ⟨g, 0, rfl, (h.lt g rfl).2, fun i hi => ⟨R i, C i, ?_, hr i hi⟩⟩
    rw [Nat.zero_add, h.cellAt i (by omega)]
    simp [hi]

set_option maxHeartbeats 1000000 in
theorem fnValidNet_walk (a : Option Addr) (len cap : Nat) (zs : List Int) (w : World) (h : IsRow .u8 w a len cap zs) :
    Calls Try.prog 3 #[.slice a len cap] w fun e w' => e = .returned (.bool true) ∧ Below w.heap.size w w' := by
  have hlen : len ≤ 9223372036854775807 := by obtain ⟨h1, h2, _⟩ := bytes_in h; unfold maxLen at h2; omega
  have Hh := hide h
  clear h
  by_cases hl : 1048576 < len
  · go_enter Try.func3, Try.ntmps3
    go_wp2_with fail
    go_ret
    exact ⟨rfl, by go_grown⟩
  go_enter Try.func3, Try.ntmps3
  go_wp2_with fail
  refine (DrawValidNet_any a len cap zs w _ Hh.out (by go_grown)).mono ?_
  rintro e w1 ⟨A, n, c, L, M, rfl, hd⟩
  obtain ⟨hm, hn, hL, B1, hcap⟩ := hd
  have HCAP := hide hcap
  clear hcap
  have HM := hide (fun (W : World) (hb : Below w1.heap.size w1 W) => hm.keep hb hb.size)
  have HL := hide (fun i (hi : i < n) => Nat.le_trans (hL i hi) (show 8 ≤ 1048576 by omega))
  have I := hide (fun W hb => ValidNetI_b A n c L M W (by omega) HL.out (HM.out W hb))
  have S := hide (fun W hb => validNetS_b A n c L M W (by omega) HL.out (HM.out W hb))
  have VS := hide (fun W hb => (by
    have H := hide (S.out W hb)
    go_enter Try.func17, Try.ntmps17
    go_wp2_with fail
    refine (H.out).mono ?_
    rintro e w1 ⟨rfl, hb⟩
    go_wp2_with fail
    go_ret
    exact ⟨rfl, hb⟩ : Calls Try.prog 17 #[.slice A n c] W fun e w' => e = .returned (.bool (vNet n L M)) ∧ Below W.heap.size W w'))
  clear hm hL S
  cases hv : vNet n L M
  · rw [hv] at I VS
    go_wp2_with fail
    refine (I.out _ (Below.refl _ _)).mono ?_
    rintro e w2 ⟨rfl, hb2⟩
    go_wp2_with fail
    refine (VS.out _ hb2).mono ?_
    rintro e w3 ⟨rfl, hb3⟩
    have hc3 : Below w1.heap.size w1 w3 := up hb3 hb2 hb2.size
    go_wp2_with fail
    refine (VS.out _ hc3).mono ?_
    rintro e w4 ⟨rfl, hb4⟩
    go_wp2_with fail
    go_ret
    exact ⟨rfl, up (up hb4 hc3 hc3.size) B1 B1.size⟩
  rw [hv] at I VS
  obtain ⟨hn6, hLn, hMb, _⟩ := vNet_cut hv
  have HLn := hide hLn
  have HV := hide hv
  clear hLn hMb hv
  go_wp2_with fail
  refine (I.out _ (Below.refl _ _)).mono ?_
  rintro e w2 ⟨rfl, hb2⟩
  go_wp2_with fail
  refine (VS.out _ hb2).mono ?_
  rintro e w3 ⟨rfl, hb3⟩
  have hc3 : Below w1.heap.size w1 w3 := up hb3 hb2 hb2.size
  obtain ⟨b, off, rfl, hbl, hc⟩ := HM.out _ (Below.refl _ _) (by omega)
  have hc' : ∀ i, ∃ (q : Option Addr × Nat), i < n → w1.cell? ⟨b, off + i, none⟩ = some (.slice q.1 n q.2) ∧ Ints w1 w1.heap.size q.1 n (M i) ∧ n ≤ q.2 ∧ ∃ rb ro, q.1 = some ⟨rb, ro, none⟩ := fun i => by
    by_cases hi : i < n
    · obtain ⟨R, C, h1, h2⟩ := hc i hi
      rw [HLn.out i hi] at h1 h2
      obtain ⟨rb, ro, e, _⟩ := h2 (by omega)
      exact ⟨(R, C), fun _ => ⟨h1, h2, HCAP.out b off i R n C rfl hi h1, rb, ro, e⟩⟩
    · exact ⟨(none, 0), fun h => absurd h hi⟩
  have hR : ∃ (R : Nat → Option Addr) (C : Nat → Nat), ∀ i, i < n → w1.cell? ⟨b, off + i, none⟩ = some (.slice (R i) n (C i)) ∧ Ints w1 w1.heap.size (R i) n (M i) ∧ n ≤ C i ∧ ∃ rb ro, R i = some ⟨rb, ro, none⟩ :=
    ⟨fun i => (Classical.choose (hc' i)).1, fun i => (Classical.choose (hc' i)).2, fun i hi => Classical.choose_spec (hc' i) hi⟩
  clear hc'
  obtain ⟨R, C, hRC⟩ := hR
  have HR := hide hRC
  clear hc hRC
  have k1 := hc3.size
  go_wp2_with fail
  go_loopw [6, 7] (fun v i wr => ∃ (k : Nat) (A' : Option Addr) (c' : Nat), k + 1 ≤ n ∧ i = .int .i64 k ∧ v = .slice A' k c' ∧ wr.ownsRow w1.heap.size 26 1 (.slice A' k c') k ((List.range k).map fun i => .slice (R i) (n - 1) (C i)) ∧ Below w1.heap.size w1 wr) (fun _ i _ => n - (intOf i).toNat)
  case atStart => exact ⟨0, _, _, by omega, rfl, rfl, World.ownsRow_lit w3 #[] 0 k1 (by unfold maxLen; omega) rfl, hc3.alloc k1 _⟩
  case round =>
    obtain ⟨k, A', c', hk, rfl, rfl, hown, hb⟩ := hrel
    have Hown := hide hown
    clear hown
    have k2 := hb.size
    by_cases hlt : k + 1 < n
    · obtain ⟨h1, _, hq, rb, ro, h2⟩ := HR.out k (by omega)
      have hcell := (hb.cell (p := ⟨b, off + k, none⟩) hbl).trans h1
      rw [h2] at hcell
      have H2 := hide h2
      clear h1 h2
      go_wp2_with (at_builtin; refine push_val rfl _ _ rfl _ rfl Hown.out (some ⟨rb, ro, none⟩) (n - 1) (C k) _ rfl (by omega) k2 ?_; intro A2 c2 w4 hown2 hb4)
      have HF := hide (show _ ∧ _ from ⟨hown2, hb4⟩)
      clear hown2 hb4
      go_roundw
      case rel => exact ⟨k + 1, A2, c2, by omega, by go_num, rfl, by
        have h5 := HF.out.1
        rw [← H2.out] at h5
        rw [List.range_succ, List.map_append]
        exact h5, hb.trans HF.out.2⟩
      case measure => simp [intOf]; omega
    · have he : k = n - 1 := by omega
      subst he
      have hmat : Mat wr wr.heap.size A' (n - 1) (fun _ => n - 1) M := mat_of_vals (A := none) (L := L) Hown.out (fun i hi => by
        obtain ⟨_, h2, _⟩ := HR.out i (by omega)
        have h3 := h2.keep hb hb.size
        exact fun h0 => by
          obtain ⟨b3, o3, e3, l3, c3⟩ := h3 (by omega)
          exact ⟨b3, o3, e3, l3, fun i hi => c3 i (by omega)⟩)
      have HX := hide hmat
      clear hmat
      by_cases h2 : n = 2
      · subst h2
        go_wp2_with fail
        go_ret
        exact ⟨rfl, up hb B1 B1.size⟩
      · have e2 : ((n : Int) == 2) = false := by simp; omega
        have HV2 := hide (vNet_less HV.out h2)
        clear h2
        go_wp2_with fail
        refine (ValidNetI_b A' (n - 1) c' (fun _ => n - 1) M wr (by omega) (fun i hi => by omega) HX.out).mono ?_
        rintro e w5 ⟨rfl, hb5⟩
        rw [HV2.out]
        go_wp2_with fail
        go_ret
        exact ⟨rfl, up (up hb5 hb hb.size) B1 B1.size⟩
end Go.Proofs.Ytecmihmopiepfaa
