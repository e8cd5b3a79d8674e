/-
  slices.Repeat of one number, none to seven times. No conditions beyond that.
-/
import Derived.Test.YtkalecdjcdgodaaOwn4
import Derived.Laws.CopyOwn
import Derived.Deep.RegionLaw
namespace Go.Proofs.Ytkalecdjcdgodaa
open Go.RowKit

theorem mul64_0 (w : World) :
    Calls Try.prog 92 #[.int .u64 1, .int .u64 0] w fun e w' => e = .returned (.tuple #[.int .u64 0, .int .u64 0]) ∧ w = w' := by
  go_enter Try.func92, Try.ntmps92
  go_wp2_with fail
  go_ret2
  exact ⟨rfl, rfl⟩
theorem mul_0 (w : World) :
    Calls Try.prog 86 #[.int .u64 1, .int .u64 0] w fun e w' => e = .returned (.tuple #[.int .u64 0, .int .u64 0]) ∧ w = w' := by
  go_enter Try.func86, Try.ntmps86
  go_wp2_with fail
  refine (mul64_0 w).mono ?_
  rintro e _ ⟨rfl, rfl⟩
  go_wp2_with fail
  go_ret2
  exact ⟨rfl, rfl⟩

theorem mul64_1 (w : World) :
    Calls Try.prog 92 #[.int .u64 1, .int .u64 1] w fun e w' => e = .returned (.tuple #[.int .u64 0, .int .u64 1]) ∧ w = w' := by
  go_enter Try.func92, Try.ntmps92
  go_wp2_with fail
  go_ret2
  exact ⟨rfl, rfl⟩
theorem mul_1 (w : World) :
    Calls Try.prog 86 #[.int .u64 1, .int .u64 1] w fun e w' => e = .returned (.tuple #[.int .u64 0, .int .u64 1]) ∧ w = w' := by
  go_enter Try.func86, Try.ntmps86
  go_wp2_with fail
  refine (mul64_1 w).mono ?_
  rintro e _ ⟨rfl, rfl⟩
  go_wp2_with fail
  go_ret2
  exact ⟨rfl, rfl⟩

theorem mul64_2 (w : World) :
    Calls Try.prog 92 #[.int .u64 1, .int .u64 2] w fun e w' => e = .returned (.tuple #[.int .u64 0, .int .u64 2]) ∧ w = w' := by
  go_enter Try.func92, Try.ntmps92
  go_wp2_with fail
  go_ret2
  exact ⟨rfl, rfl⟩
theorem mul_2 (w : World) :
    Calls Try.prog 86 #[.int .u64 1, .int .u64 2] w fun e w' => e = .returned (.tuple #[.int .u64 0, .int .u64 2]) ∧ w = w' := by
  go_enter Try.func86, Try.ntmps86
  go_wp2_with fail
  refine (mul64_2 w).mono ?_
  rintro e _ ⟨rfl, rfl⟩
  go_wp2_with fail
  go_ret2
  exact ⟨rfl, rfl⟩

theorem mul64_3 (w : World) :
    Calls Try.prog 92 #[.int .u64 1, .int .u64 3] w fun e w' => e = .returned (.tuple #[.int .u64 0, .int .u64 3]) ∧ w = w' := by
  go_enter Try.func92, Try.ntmps92
  go_wp2_with fail
  go_ret2
  exact ⟨rfl, rfl⟩
theorem mul_3 (w : World) :
    Calls Try.prog 86 #[.int .u64 1, .int .u64 3] w fun e w' => e = .returned (.tuple #[.int .u64 0, .int .u64 3]) ∧ w = w' := by
  go_enter Try.func86, Try.ntmps86
  go_wp2_with fail
  refine (mul64_3 w).mono ?_
  rintro e _ ⟨rfl, rfl⟩
  go_wp2_with fail
  go_ret2
  exact ⟨rfl, rfl⟩

theorem mul64_4 (w : World) :
    Calls Try.prog 92 #[.int .u64 1, .int .u64 4] w fun e w' => e = .returned (.tuple #[.int .u64 0, .int .u64 4]) ∧ w = w' := by
  go_enter Try.func92, Try.ntmps92
  go_wp2_with fail
  go_ret2
  exact ⟨rfl, rfl⟩
theorem mul_4 (w : World) :
    Calls Try.prog 86 #[.int .u64 1, .int .u64 4] w fun e w' => e = .returned (.tuple #[.int .u64 0, .int .u64 4]) ∧ w = w' := by
  go_enter Try.func86, Try.ntmps86
  go_wp2_with fail
  refine (mul64_4 w).mono ?_
  rintro e _ ⟨rfl, rfl⟩
  go_wp2_with fail
  go_ret2
  exact ⟨rfl, rfl⟩

theorem mul64_5 (w : World) :
    Calls Try.prog 92 #[.int .u64 1, .int .u64 5] w fun e w' => e = .returned (.tuple #[.int .u64 0, .int .u64 5]) ∧ w = w' := by
  go_enter Try.func92, Try.ntmps92
  go_wp2_with fail
  go_ret2
  exact ⟨rfl, rfl⟩
theorem mul_5 (w : World) :
    Calls Try.prog 86 #[.int .u64 1, .int .u64 5] w fun e w' => e = .returned (.tuple #[.int .u64 0, .int .u64 5]) ∧ w = w' := by
  go_enter Try.func86, Try.ntmps86
  go_wp2_with fail
  refine (mul64_5 w).mono ?_
  rintro e _ ⟨rfl, rfl⟩
  go_wp2_with fail
  go_ret2
  exact ⟨rfl, rfl⟩

theorem mul64_6 (w : World) :
    Calls Try.prog 92 #[.int .u64 1, .int .u64 6] w fun e w' => e = .returned (.tuple #[.int .u64 0, .int .u64 6]) ∧ w = w' := by
  go_enter Try.func92, Try.ntmps92
  go_wp2_with fail
  go_ret2
  exact ⟨rfl, rfl⟩
theorem mul_6 (w : World) :
    Calls Try.prog 86 #[.int .u64 1, .int .u64 6] w fun e w' => e = .returned (.tuple #[.int .u64 0, .int .u64 6]) ∧ w = w' := by
  go_enter Try.func86, Try.ntmps86
  go_wp2_with fail
  refine (mul64_6 w).mono ?_
  rintro e _ ⟨rfl, rfl⟩
  go_wp2_with fail
  go_ret2
  exact ⟨rfl, rfl⟩

theorem mul64_7 (w : World) :
    Calls Try.prog 92 #[.int .u64 1, .int .u64 7] w fun e w' => e = .returned (.tuple #[.int .u64 0, .int .u64 7]) ∧ w = w' := by
  go_enter Try.func92, Try.ntmps92
  go_wp2_with fail
  go_ret2
  exact ⟨rfl, rfl⟩
theorem mul_7 (w : World) :
    Calls Try.prog 86 #[.int .u64 1, .int .u64 7] w fun e w' => e = .returned (.tuple #[.int .u64 0, .int .u64 7]) ∧ w = w' := by
  go_enter Try.func86, Try.ntmps86
  go_wp2_with fail
  refine (mul64_7 w).mono ?_
  rintro e _ ⟨rfl, rfl⟩
  go_wp2_with fail
  go_ret2
  exact ⟨rfl, rfl⟩


/-- k times v, then zeros: n cells -/
def rpt (v : Int) (n k : Nat) : List Value := List.replicate k (.int .i64 v) ++ List.replicate (n - k) (.int .i64 0)
theorem rpt_len {v : Int} {n k : Nat} (h : k ≤ n) : (rpt v n k).length = n := by simp [rpt]; omega
theorem rpt_splice {v : Int} {n k m : Nat} (h : k + m ≤ n) : splice (rpt v n k) k (List.replicate m (.int .i64 v)) = rpt v n (k + m) := by
  have e1 : (List.replicate k (Value.int .i64 v) ++ List.replicate (n - k) (Value.int .i64 0)).take k = List.replicate k (Value.int .i64 v) := by rw [List.take_append_of_le_length (by simp)]; simp
  have e2 : (List.replicate k (Value.int .i64 v) ++ List.replicate (n - k) (Value.int .i64 0)).drop (k + m) = List.replicate (n - (k + m)) (Value.int .i64 0) := by
    rw [List.drop_append, List.drop_eq_nil_of_le (by simp), List.nil_append, List.drop_replicate, List.length_replicate]
    congr 1; omega
  rw [splice, rpt, List.length_replicate, e1, e2, rpt, ← List.append_assoc, List.replicate_append_replicate]
theorem rpt_at {v : Int} {n k j : Nat} (h : j < k) : (rpt v n k).toArray[j]? = some (.int .i64 v) := by
  rw [List.getElem?_toArray, rpt, List.getElem?_append_left (by simpa using h), List.getElem?_replicate, if_pos h]
set_option maxRecDepth 100000 in
theorem slRepeat_0 (v : Int) (b off c : Nat) (w : World) (hb : b < w.heap.size) (hc : w.cell? ⟨b, off, none⟩ = some (.int .i64 v)) (hc1 : 1 ≤ c) :
    Calls Try.prog 74 #[.slice (some ⟨b, off, none⟩) 1 c, .int .i64 0] w fun e w' => e = .returned (.slice (some ⟨w.heap.size, 0, none⟩) 0 0) ∧ Hid (w'.heap[w.heap.size]? = some (.cells (rpt v 0 0).toArray 3 (0, 0))) ∧ Below w.heap.size w w' := by
  have hmk : ∀ w, (Instr.makeSlice 22 (.int .i64 0) (.int .i64 0)).run Try.prog w = _ := run_make_row' (P := Try.prog) 22 3 (.int .i64 0) 8 Try.underlying22 info_int rfl .i64 .i64 0 (by omega) (by omega)
  have hg0 : (w.alloc (.cells (madeCells #[.int .i64 0] 0) 3)).heap[w.heap.size]? = some (.cells (rpt v 0 0).toArray 3 (0, 0)) := by
    rw [show madeCells #[Value.int .i64 0] 0 = (rpt v 0 0).toArray by simp [madeCells, rpt, Array.range, List.replicate] <;> rfl]
    exact heap_alloc_new w _
  go_enter Try.func74, Try.ntmps74
  go_wp2_with fail
  refine (mul_0 w).mono ?_
  rintro e _ ⟨rfl, rfl⟩
  have hcs : ∀ (j : Nat) (u : Value), (List.replicate 0 (Value.int .i64 v))[j]? = some u → (w.alloc (.cells (madeCells #[.int .i64 0] 0) 3)).cell? ((⟨b, off, none⟩ : Addr).add j) = some u := fun j u hj => by
    simp at hj
  have hone : ∀ u ∈ List.replicate 0 (Value.int .i64 v), u.oneCell' = true := fun u hu => by rw [List.eq_of_mem_replicate hu]; rfl
  have hnn : (List.replicate 0 (Value.int .i64 v)).length = Nat.min 1 0 := by simp
  have hfit : 0 + (List.replicate 0 (Value.int .i64 v)).length ≤ (rpt v 0 0).length := by simp [rpt]
  go_wp2_with (refine wpList_copy_splice (o := ⟨some 33, _, _, _, _, _⟩) rfl (.tmp 31) (.tmp 32) 22 22 rfl 3 Try.underlying22 (by kernel_rfl) (some ⟨w.heap.size, 0, none⟩) (some ⟨b, off, none⟩) 0 0 1 c rfl rfl w.heap.size 0 (rpt v 0 0) 3 hg0 (List.replicate 0 (.int .i64 v)) hnn (fun _ => ⟨rfl, _, rfl, hcs⟩) hfit hone w.heap.size w ((Below.refl _ _).alloc (Nat.le_refl _) _) (Nat.le_refl _) ?_; intro w1 hg1 hb1; rw [rpt_splice (by decide)] at hg1)
  go_loopw [8] (fun i wr => ∃ k : Nat, 0 ≤ k ∧ k ≤ 0 ∧ i = .int .i64 k ∧ Hid (wr.heap[w.heap.size]? = some (.cells (rpt v 0 k).toArray 3 (0, 0))) ∧ Below w.heap.size w wr) (fun i _ => 0 - (intOf i).toNat)
  case atStart => exact ⟨0, by omega, by omega, rfl, hg1, hb1⟩
  case round =>
    obtain ⟨k, hk1, hk, rfl, hg, hbr⟩ := hrel
    by_cases hlt : k < 0
    · exfalso; omega
    · obtain rfl : k = 0 := by omega
      go_wp2_with fail
      go_ret
      exact ⟨rfl, hg, hbr⟩

set_option maxRecDepth 100000 in
theorem slRepeat_1 (v : Int) (b off c : Nat) (w : World) (hb : b < w.heap.size) (hc : w.cell? ⟨b, off, none⟩ = some (.int .i64 v)) (hc1 : 1 ≤ c) :
    Calls Try.prog 74 #[.slice (some ⟨b, off, none⟩) 1 c, .int .i64 1] w fun e w' => e = .returned (.slice (some ⟨w.heap.size, 0, none⟩) 1 1) ∧ Hid (w'.heap[w.heap.size]? = some (.cells (rpt v 1 1).toArray 3 (0, 0))) ∧ Below w.heap.size w w' := by
  have hmk : ∀ w, (Instr.makeSlice 22 (.int .i64 1) (.int .i64 1)).run Try.prog w = _ := run_make_row' (P := Try.prog) 22 3 (.int .i64 0) 8 Try.underlying22 info_int rfl .i64 .i64 1 (by omega) (by omega)
  have hg0 : (w.alloc (.cells (madeCells #[.int .i64 0] 1) 3)).heap[w.heap.size]? = some (.cells (rpt v 1 0).toArray 3 (0, 0)) := by
    rw [show madeCells #[Value.int .i64 0] 1 = (rpt v 1 0).toArray by simp [madeCells, rpt, Array.range, List.replicate] <;> rfl]
    exact heap_alloc_new w _
  go_enter Try.func74, Try.ntmps74
  go_wp2_with fail
  refine (mul_1 w).mono ?_
  rintro e _ ⟨rfl, rfl⟩
  have hcs : ∀ (j : Nat) (u : Value), (List.replicate 1 (Value.int .i64 v))[j]? = some u → (w.alloc (.cells (madeCells #[.int .i64 0] 1) 3)).cell? ((⟨b, off, none⟩ : Addr).add j) = some u := fun j u hj => by
    obtain ⟨h1, h2⟩ := List.getElem?_eq_some_iff.1 hj
    simp at h1
    subst h1
    subst h2
    have e : (⟨b, off, none⟩ : Addr).add 0 = ⟨b, off, none⟩ := by simp [Addr.add]
    exact ((bcell ((Below.refl w.heap.size w).alloc (Nat.le_refl _) _)).1 b off hb).trans hc
  have hone : ∀ u ∈ List.replicate 1 (Value.int .i64 v), u.oneCell' = true := fun u hu => by rw [List.eq_of_mem_replicate hu]; rfl
  have hnn : (List.replicate 1 (Value.int .i64 v)).length = Nat.min 1 1 := by simp
  have hfit : 0 + (List.replicate 1 (Value.int .i64 v)).length ≤ (rpt v 1 0).length := by simp [rpt]
  go_wp2_with (refine wpList_copy_splice (o := ⟨some 33, _, _, _, _, _⟩) rfl (.tmp 31) (.tmp 32) 22 22 rfl 3 Try.underlying22 (by kernel_rfl) (some ⟨w.heap.size, 0, none⟩) (some ⟨b, off, none⟩) 1 1 1 c rfl rfl w.heap.size 0 (rpt v 1 0) 3 hg0 (List.replicate 1 (.int .i64 v)) hnn (fun _ => ⟨rfl, _, rfl, hcs⟩) hfit hone w.heap.size w ((Below.refl _ _).alloc (Nat.le_refl _) _) (Nat.le_refl _) ?_; intro w1 hg1 hb1; rw [rpt_splice (by decide)] at hg1)
  go_loopw [8] (fun i wr => ∃ k : Nat, 1 ≤ k ∧ k ≤ 1 ∧ i = .int .i64 k ∧ Hid (wr.heap[w.heap.size]? = some (.cells (rpt v 1 k).toArray 3 (0, 0))) ∧ Below w.heap.size w wr) (fun i _ => 1 - (intOf i).toNat)
  case atStart => exact ⟨1, by omega, by omega, rfl, hg1, hb1⟩
  case round =>
    obtain ⟨k, hk1, hk, rfl, hg, hbr⟩ := hrel
    by_cases hlt : k < 1
    · exfalso; omega
    · obtain rfl : k = 1 := by omega
      go_wp2_with fail
      go_ret
      exact ⟨rfl, hg, hbr⟩

set_option maxRecDepth 100000 in
theorem slRepeat_2 (v : Int) (b off c : Nat) (w : World) (hb : b < w.heap.size) (hc : w.cell? ⟨b, off, none⟩ = some (.int .i64 v)) (hc1 : 1 ≤ c) :
    Calls Try.prog 74 #[.slice (some ⟨b, off, none⟩) 1 c, .int .i64 2] w fun e w' => e = .returned (.slice (some ⟨w.heap.size, 0, none⟩) 2 2) ∧ Hid (w'.heap[w.heap.size]? = some (.cells (rpt v 2 2).toArray 3 (0, 0))) ∧ Below w.heap.size w w' := by
  have hmk : ∀ w, (Instr.makeSlice 22 (.int .i64 2) (.int .i64 2)).run Try.prog w = _ := run_make_row' (P := Try.prog) 22 3 (.int .i64 0) 8 Try.underlying22 info_int rfl .i64 .i64 2 (by omega) (by omega)
  have hg0 : (w.alloc (.cells (madeCells #[.int .i64 0] 2) 3)).heap[w.heap.size]? = some (.cells (rpt v 2 0).toArray 3 (0, 0)) := by
    rw [show madeCells #[Value.int .i64 0] 2 = (rpt v 2 0).toArray by simp [madeCells, rpt, Array.range, List.replicate] <;> rfl]
    exact heap_alloc_new w _
  go_enter Try.func74, Try.ntmps74
  go_wp2_with fail
  refine (mul_2 w).mono ?_
  rintro e _ ⟨rfl, rfl⟩
  have hcs : ∀ (j : Nat) (u : Value), (List.replicate 1 (Value.int .i64 v))[j]? = some u → (w.alloc (.cells (madeCells #[.int .i64 0] 2) 3)).cell? ((⟨b, off, none⟩ : Addr).add j) = some u := fun j u hj => by
    obtain ⟨h1, h2⟩ := List.getElem?_eq_some_iff.1 hj
    simp at h1
    subst h1
    subst h2
    have e : (⟨b, off, none⟩ : Addr).add 0 = ⟨b, off, none⟩ := by simp [Addr.add]
    exact ((bcell ((Below.refl w.heap.size w).alloc (Nat.le_refl _) _)).1 b off hb).trans hc
  have hone : ∀ u ∈ List.replicate 1 (Value.int .i64 v), u.oneCell' = true := fun u hu => by rw [List.eq_of_mem_replicate hu]; rfl
  have hnn : (List.replicate 1 (Value.int .i64 v)).length = Nat.min 1 2 := by simp
  have hfit : 0 + (List.replicate 1 (Value.int .i64 v)).length ≤ (rpt v 2 0).length := by simp [rpt]
  go_wp2_with (refine wpList_copy_splice (o := ⟨some 33, _, _, _, _, _⟩) rfl (.tmp 31) (.tmp 32) 22 22 rfl 3 Try.underlying22 (by kernel_rfl) (some ⟨w.heap.size, 0, none⟩) (some ⟨b, off, none⟩) 2 2 1 c rfl rfl w.heap.size 0 (rpt v 2 0) 3 hg0 (List.replicate 1 (.int .i64 v)) hnn (fun _ => ⟨rfl, _, rfl, hcs⟩) hfit hone w.heap.size w ((Below.refl _ _).alloc (Nat.le_refl _) _) (Nat.le_refl _) ?_; intro w1 hg1 hb1; rw [rpt_splice (by decide)] at hg1)
  go_loopw [8] (fun i wr => ∃ k : Nat, 1 ≤ k ∧ k ≤ 2 ∧ i = .int .i64 k ∧ Hid (wr.heap[w.heap.size]? = some (.cells (rpt v 2 k).toArray 3 (0, 0))) ∧ Below w.heap.size w wr) (fun i _ => 2 - (intOf i).toNat)
  case atStart => exact ⟨1, by omega, by omega, rfl, hg1, hb1⟩
  case round =>
    obtain ⟨k, hk1, hk, rfl, hg, hbr⟩ := hrel
    by_cases hlt : k < 2
    · obtain ⟨m, hm1, hm2⟩ : ∃ m : Nat, k + m ≤ 2 ∧ m = min k (2 - k) := ⟨_, by omega, rfl⟩
      have hki : (k : Int) ≤ 2 := by omega
      have hne : ¬ (2 = k) := by omega
      have hcs2 : ∀ (W : World), W.heap[w.heap.size]? = some (.cells (rpt v 2 k).toArray 3 (0, 0)) → ∀ (j : Nat) (u : Value), (List.replicate m (Value.int .i64 v))[j]? = some u → W.cell? ((⟨w.heap.size, 0, none⟩ : Addr).add j) = some u := by
        intro W hW j u hj
        obtain ⟨h1, h2⟩ := List.getElem?_eq_some_iff.1 hj
        rw [List.length_replicate] at h1
        rw [List.getElem_replicate] at h2
        subst h2
        have e : (⟨w.heap.size, 0, none⟩ : Addr).add j = ⟨w.heap.size, j, none⟩ := by rw [add_mk, Nat.zero_add]
        rw [e]
        rw [cell_of_row _ _ _ _ _ _ hW]
        exact rpt_at (by omega)
      have HCS := hide hcs2
      have HLM := hide (show (List.replicate m (Value.int .i64 v)).length = Nat.min k (2 - k) by rw [List.length_replicate]; exact hm2)
      have HFT := hide (show k + (List.replicate m (Value.int .i64 v)).length ≤ (rpt v 2 k).length by rw [rpt_len (by omega), List.length_replicate]; exact hm1)
      have HON := hide (show ∀ u ∈ List.replicate m (Value.int .i64 v), u.oneCell' = true from fun u hu => by rw [List.eq_of_mem_replicate hu]; rfl)
      have HM2 := hide hm2
      clear hm2 hcs2 hmk hg0 hcs hone hnn hfit hg1
      have hwr : IntKind.i64.wrap ((k : Int) + (m : Int)) = (k : Int) + (m : Int) := IntWalk.i64_in _ (by omega)
      go_wp2_with fail
      go_region_law (refine step_copy_splice rfl (.tmp 41) (.tmp 44) 22 22 rfl 3 Try.underlying22 (by kernel_rfl) (some ⟨w.heap.size, k, none⟩) (some ⟨w.heap.size, 0, none⟩) (2 - k) (2 - k) k 2 (by simp [Act.eval, Act.put]) (by simp [Act.eval, Act.put]) w.heap.size k (rpt v 2 k) 3 hg (List.replicate m (.int .i64 v)) HLM.out (fun _ => ⟨rfl, _, rfl, HCS.out wr.drew hg⟩) HFT.out HON.out w.heap.size w (below_drewN hbr 1) (Nat.le_refl _) ?_; intro w4 hg4 hb4)
      rw [rpt_splice hm1] at hg4
      go_wp2_with fail
      go_roundw
      case rel => (repeat apply Exists.intro); exact ⟨⟨k + m, by omega, by omega, by go_num, hg4, hb4⟩, rfl⟩
      case measure => have := HM2.out; simp [intOf, Act.put]; omega
    · obtain rfl : k = 2 := by omega
      go_wp2_with fail
      go_ret
      exact ⟨rfl, hg, hbr⟩

set_option maxRecDepth 100000 in
theorem slRepeat_3 (v : Int) (b off c : Nat) (w : World) (hb : b < w.heap.size) (hc : w.cell? ⟨b, off, none⟩ = some (.int .i64 v)) (hc1 : 1 ≤ c) :
    Calls Try.prog 74 #[.slice (some ⟨b, off, none⟩) 1 c, .int .i64 3] w fun e w' => e = .returned (.slice (some ⟨w.heap.size, 0, none⟩) 3 3) ∧ Hid (w'.heap[w.heap.size]? = some (.cells (rpt v 3 3).toArray 3 (0, 0))) ∧ Below w.heap.size w w' := by
  have hmk : ∀ w, (Instr.makeSlice 22 (.int .i64 3) (.int .i64 3)).run Try.prog w = _ := run_make_row' (P := Try.prog) 22 3 (.int .i64 0) 8 Try.underlying22 info_int rfl .i64 .i64 3 (by omega) (by omega)
  have hg0 : (w.alloc (.cells (madeCells #[.int .i64 0] 3) 3)).heap[w.heap.size]? = some (.cells (rpt v 3 0).toArray 3 (0, 0)) := by
    rw [show madeCells #[Value.int .i64 0] 3 = (rpt v 3 0).toArray by simp [madeCells, rpt, Array.range, List.replicate] <;> rfl]
    exact heap_alloc_new w _
  go_enter Try.func74, Try.ntmps74
  go_wp2_with fail
  refine (mul_3 w).mono ?_
  rintro e _ ⟨rfl, rfl⟩
  have hcs : ∀ (j : Nat) (u : Value), (List.replicate 1 (Value.int .i64 v))[j]? = some u → (w.alloc (.cells (madeCells #[.int .i64 0] 3) 3)).cell? ((⟨b, off, none⟩ : Addr).add j) = some u := fun j u hj => by
    obtain ⟨h1, h2⟩ := List.getElem?_eq_some_iff.1 hj
    simp at h1
    subst h1
    subst h2
    have e : (⟨b, off, none⟩ : Addr).add 0 = ⟨b, off, none⟩ := by simp [Addr.add]
    exact ((bcell ((Below.refl w.heap.size w).alloc (Nat.le_refl _) _)).1 b off hb).trans hc
  have hone : ∀ u ∈ List.replicate 1 (Value.int .i64 v), u.oneCell' = true := fun u hu => by rw [List.eq_of_mem_replicate hu]; rfl
  have hnn : (List.replicate 1 (Value.int .i64 v)).length = Nat.min 1 3 := by simp
  have hfit : 0 + (List.replicate 1 (Value.int .i64 v)).length ≤ (rpt v 3 0).length := by simp [rpt]
  go_wp2_with (refine wpList_copy_splice (o := ⟨some 33, _, _, _, _, _⟩) rfl (.tmp 31) (.tmp 32) 22 22 rfl 3 Try.underlying22 (by kernel_rfl) (some ⟨w.heap.size, 0, none⟩) (some ⟨b, off, none⟩) 3 3 1 c rfl rfl w.heap.size 0 (rpt v 3 0) 3 hg0 (List.replicate 1 (.int .i64 v)) hnn (fun _ => ⟨rfl, _, rfl, hcs⟩) hfit hone w.heap.size w ((Below.refl _ _).alloc (Nat.le_refl _) _) (Nat.le_refl _) ?_; intro w1 hg1 hb1; rw [rpt_splice (by decide)] at hg1)
  go_loopw [8] (fun i wr => ∃ k : Nat, 1 ≤ k ∧ k ≤ 3 ∧ i = .int .i64 k ∧ Hid (wr.heap[w.heap.size]? = some (.cells (rpt v 3 k).toArray 3 (0, 0))) ∧ Below w.heap.size w wr) (fun i _ => 3 - (intOf i).toNat)
  case atStart => exact ⟨1, by omega, by omega, rfl, hg1, hb1⟩
  case round =>
    obtain ⟨k, hk1, hk, rfl, hg, hbr⟩ := hrel
    by_cases hlt : k < 3
    · obtain ⟨m, hm1, hm2⟩ : ∃ m : Nat, k + m ≤ 3 ∧ m = min k (3 - k) := ⟨_, by omega, rfl⟩
      have hki : (k : Int) ≤ 3 := by omega
      have hne : ¬ (3 = k) := by omega
      have hcs2 : ∀ (W : World), W.heap[w.heap.size]? = some (.cells (rpt v 3 k).toArray 3 (0, 0)) → ∀ (j : Nat) (u : Value), (List.replicate m (Value.int .i64 v))[j]? = some u → W.cell? ((⟨w.heap.size, 0, none⟩ : Addr).add j) = some u := by
        intro W hW j u hj
        obtain ⟨h1, h2⟩ := List.getElem?_eq_some_iff.1 hj
        rw [List.length_replicate] at h1
        rw [List.getElem_replicate] at h2
        subst h2
        have e : (⟨w.heap.size, 0, none⟩ : Addr).add j = ⟨w.heap.size, j, none⟩ := by rw [add_mk, Nat.zero_add]
        rw [e]
        rw [cell_of_row _ _ _ _ _ _ hW]
        exact rpt_at (by omega)
      have HCS := hide hcs2
      have HLM := hide (show (List.replicate m (Value.int .i64 v)).length = Nat.min k (3 - k) by rw [List.length_replicate]; exact hm2)
      have HFT := hide (show k + (List.replicate m (Value.int .i64 v)).length ≤ (rpt v 3 k).length by rw [rpt_len (by omega), List.length_replicate]; exact hm1)
      have HON := hide (show ∀ u ∈ List.replicate m (Value.int .i64 v), u.oneCell' = true from fun u hu => by rw [List.eq_of_mem_replicate hu]; rfl)
      have HM2 := hide hm2
      clear hm2 hcs2 hmk hg0 hcs hone hnn hfit hg1
      have hwr : IntKind.i64.wrap ((k : Int) + (m : Int)) = (k : Int) + (m : Int) := IntWalk.i64_in _ (by omega)
      go_wp2_with fail
      go_region_law (refine step_copy_splice rfl (.tmp 41) (.tmp 44) 22 22 rfl 3 Try.underlying22 (by kernel_rfl) (some ⟨w.heap.size, k, none⟩) (some ⟨w.heap.size, 0, none⟩) (3 - k) (3 - k) k 3 (by simp [Act.eval, Act.put]) (by simp [Act.eval, Act.put]) w.heap.size k (rpt v 3 k) 3 hg (List.replicate m (.int .i64 v)) HLM.out (fun _ => ⟨rfl, _, rfl, HCS.out wr.drew hg⟩) HFT.out HON.out w.heap.size w (below_drewN hbr 1) (Nat.le_refl _) ?_; intro w4 hg4 hb4)
      rw [rpt_splice hm1] at hg4
      go_wp2_with fail
      go_roundw
      case rel => (repeat apply Exists.intro); exact ⟨⟨k + m, by omega, by omega, by go_num, hg4, hb4⟩, rfl⟩
      case measure => have := HM2.out; simp [intOf, Act.put]; omega
    · obtain rfl : k = 3 := by omega
      go_wp2_with fail
      go_ret
      exact ⟨rfl, hg, hbr⟩

set_option maxRecDepth 100000 in
theorem slRepeat_4 (v : Int) (b off c : Nat) (w : World) (hb : b < w.heap.size) (hc : w.cell? ⟨b, off, none⟩ = some (.int .i64 v)) (hc1 : 1 ≤ c) :
    Calls Try.prog 74 #[.slice (some ⟨b, off, none⟩) 1 c, .int .i64 4] w fun e w' => e = .returned (.slice (some ⟨w.heap.size, 0, none⟩) 4 4) ∧ Hid (w'.heap[w.heap.size]? = some (.cells (rpt v 4 4).toArray 3 (0, 0))) ∧ Below w.heap.size w w' := by
  have hmk : ∀ w, (Instr.makeSlice 22 (.int .i64 4) (.int .i64 4)).run Try.prog w = _ := run_make_row' (P := Try.prog) 22 3 (.int .i64 0) 8 Try.underlying22 info_int rfl .i64 .i64 4 (by omega) (by omega)
  have hg0 : (w.alloc (.cells (madeCells #[.int .i64 0] 4) 3)).heap[w.heap.size]? = some (.cells (rpt v 4 0).toArray 3 (0, 0)) := by
    rw [show madeCells #[Value.int .i64 0] 4 = (rpt v 4 0).toArray by simp [madeCells, rpt, Array.range, List.replicate] <;> rfl]
    exact heap_alloc_new w _
  go_enter Try.func74, Try.ntmps74
  go_wp2_with fail
  refine (mul_4 w).mono ?_
  rintro e _ ⟨rfl, rfl⟩
  have hcs : ∀ (j : Nat) (u : Value), (List.replicate 1 (Value.int .i64 v))[j]? = some u → (w.alloc (.cells (madeCells #[.int .i64 0] 4) 3)).cell? ((⟨b, off, none⟩ : Addr).add j) = some u := fun j u hj => by
    obtain ⟨h1, h2⟩ := List.getElem?_eq_some_iff.1 hj
    simp at h1
    subst h1
    subst h2
    have e : (⟨b, off, none⟩ : Addr).add 0 = ⟨b, off, none⟩ := by simp [Addr.add]
    exact ((bcell ((Below.refl w.heap.size w).alloc (Nat.le_refl _) _)).1 b off hb).trans hc
  have hone : ∀ u ∈ List.replicate 1 (Value.int .i64 v), u.oneCell' = true := fun u hu => by rw [List.eq_of_mem_replicate hu]; rfl
  have hnn : (List.replicate 1 (Value.int .i64 v)).length = Nat.min 1 4 := by simp
  have hfit : 0 + (List.replicate 1 (Value.int .i64 v)).length ≤ (rpt v 4 0).length := by simp [rpt]
  go_wp2_with (refine wpList_copy_splice (o := ⟨some 33, _, _, _, _, _⟩) rfl (.tmp 31) (.tmp 32) 22 22 rfl 3 Try.underlying22 (by kernel_rfl) (some ⟨w.heap.size, 0, none⟩) (some ⟨b, off, none⟩) 4 4 1 c rfl rfl w.heap.size 0 (rpt v 4 0) 3 hg0 (List.replicate 1 (.int .i64 v)) hnn (fun _ => ⟨rfl, _, rfl, hcs⟩) hfit hone w.heap.size w ((Below.refl _ _).alloc (Nat.le_refl _) _) (Nat.le_refl _) ?_; intro w1 hg1 hb1; rw [rpt_splice (by decide)] at hg1)
  go_loopw [8] (fun i wr => ∃ k : Nat, 1 ≤ k ∧ k ≤ 4 ∧ i = .int .i64 k ∧ Hid (wr.heap[w.heap.size]? = some (.cells (rpt v 4 k).toArray 3 (0, 0))) ∧ Below w.heap.size w wr) (fun i _ => 4 - (intOf i).toNat)
  case atStart => exact ⟨1, by omega, by omega, rfl, hg1, hb1⟩
  case round =>
    obtain ⟨k, hk1, hk, rfl, hg, hbr⟩ := hrel
    by_cases hlt : k < 4
    · obtain ⟨m, hm1, hm2⟩ : ∃ m : Nat, k + m ≤ 4 ∧ m = min k (4 - k) := ⟨_, by omega, rfl⟩
      have hki : (k : Int) ≤ 4 := by omega
      have hne : ¬ (4 = k) := by omega
      have hcs2 : ∀ (W : World), W.heap[w.heap.size]? = some (.cells (rpt v 4 k).toArray 3 (0, 0)) → ∀ (j : Nat) (u : Value), (List.replicate m (Value.int .i64 v))[j]? = some u → W.cell? ((⟨w.heap.size, 0, none⟩ : Addr).add j) = some u := by
        intro W hW j u hj
        obtain ⟨h1, h2⟩ := List.getElem?_eq_some_iff.1 hj
        rw [List.length_replicate] at h1
        rw [List.getElem_replicate] at h2
        subst h2
        have e : (⟨w.heap.size, 0, none⟩ : Addr).add j = ⟨w.heap.size, j, none⟩ := by rw [add_mk, Nat.zero_add]
        rw [e]
        rw [cell_of_row _ _ _ _ _ _ hW]
        exact rpt_at (by omega)
      have HCS := hide hcs2
      have HLM := hide (show (List.replicate m (Value.int .i64 v)).length = Nat.min k (4 - k) by rw [List.length_replicate]; exact hm2)
      have HFT := hide (show k + (List.replicate m (Value.int .i64 v)).length ≤ (rpt v 4 k).length by rw [rpt_len (by omega), List.length_replicate]; exact hm1)
      have HON := hide (show ∀ u ∈ List.replicate m (Value.int .i64 v), u.oneCell' = true from fun u hu => by rw [List.eq_of_mem_replicate hu]; rfl)
      have HM2 := hide hm2
      clear hm2 hcs2 hmk hg0 hcs hone hnn hfit hg1
      have hwr : IntKind.i64.wrap ((k : Int) + (m : Int)) = (k : Int) + (m : Int) := IntWalk.i64_in _ (by omega)
      go_wp2_with fail
      go_region_law (refine step_copy_splice rfl (.tmp 41) (.tmp 44) 22 22 rfl 3 Try.underlying22 (by kernel_rfl) (some ⟨w.heap.size, k, none⟩) (some ⟨w.heap.size, 0, none⟩) (4 - k) (4 - k) k 4 (by simp [Act.eval, Act.put]) (by simp [Act.eval, Act.put]) w.heap.size k (rpt v 4 k) 3 hg (List.replicate m (.int .i64 v)) HLM.out (fun _ => ⟨rfl, _, rfl, HCS.out wr.drew hg⟩) HFT.out HON.out w.heap.size w (below_drewN hbr 1) (Nat.le_refl _) ?_; intro w4 hg4 hb4)
      rw [rpt_splice hm1] at hg4
      go_wp2_with fail
      go_roundw
      case rel => (repeat apply Exists.intro); exact ⟨⟨k + m, by omega, by omega, by go_num, hg4, hb4⟩, rfl⟩
      case measure => have := HM2.out; simp [intOf, Act.put]; omega
    · obtain rfl : k = 4 := by omega
      go_wp2_with fail
      go_ret
      exact ⟨rfl, hg, hbr⟩

set_option maxRecDepth 100000 in
theorem slRepeat_5 (v : Int) (b off c : Nat) (w : World) (hb : b < w.heap.size) (hc : w.cell? ⟨b, off, none⟩ = some (.int .i64 v)) (hc1 : 1 ≤ c) :
    Calls Try.prog 74 #[.slice (some ⟨b, off, none⟩) 1 c, .int .i64 5] w fun e w' => e = .returned (.slice (some ⟨w.heap.size, 0, none⟩) 5 5) ∧ Hid (w'.heap[w.heap.size]? = some (.cells (rpt v 5 5).toArray 3 (0, 0))) ∧ Below w.heap.size w w' := by
  have hmk : ∀ w, (Instr.makeSlice 22 (.int .i64 5) (.int .i64 5)).run Try.prog w = _ := run_make_row' (P := Try.prog) 22 3 (.int .i64 0) 8 Try.underlying22 info_int rfl .i64 .i64 5 (by omega) (by omega)
  have hg0 : (w.alloc (.cells (madeCells #[.int .i64 0] 5) 3)).heap[w.heap.size]? = some (.cells (rpt v 5 0).toArray 3 (0, 0)) := by
    rw [show madeCells #[Value.int .i64 0] 5 = (rpt v 5 0).toArray by simp [madeCells, rpt, Array.range, List.replicate] <;> rfl]
    exact heap_alloc_new w _
  go_enter Try.func74, Try.ntmps74
  go_wp2_with fail
  refine (mul_5 w).mono ?_
  rintro e _ ⟨rfl, rfl⟩
  have hcs : ∀ (j : Nat) (u : Value), (List.replicate 1 (Value.int .i64 v))[j]? = some u → (w.alloc (.cells (madeCells #[.int .i64 0] 5) 3)).cell? ((⟨b, off, none⟩ : Addr).add j) = some u := fun j u hj => by
    obtain ⟨h1, h2⟩ := List.getElem?_eq_some_iff.1 hj
    simp at h1
    subst h1
    subst h2
    have e : (⟨b, off, none⟩ : Addr).add 0 = ⟨b, off, none⟩ := by simp [Addr.add]
    exact ((bcell ((Below.refl w.heap.size w).alloc (Nat.le_refl _) _)).1 b off hb).trans hc
  have hone : ∀ u ∈ List.replicate 1 (Value.int .i64 v), u.oneCell' = true := fun u hu => by rw [List.eq_of_mem_replicate hu]; rfl
  have hnn : (List.replicate 1 (Value.int .i64 v)).length = Nat.min 1 5 := by simp
  have hfit : 0 + (List.replicate 1 (Value.int .i64 v)).length ≤ (rpt v 5 0).length := by simp [rpt]
  go_wp2_with (refine wpList_copy_splice (o := ⟨some 33, _, _, _, _, _⟩) rfl (.tmp 31) (.tmp 32) 22 22 rfl 3 Try.underlying22 (by kernel_rfl) (some ⟨w.heap.size, 0, none⟩) (some ⟨b, off, none⟩) 5 5 1 c rfl rfl w.heap.size 0 (rpt v 5 0) 3 hg0 (List.replicate 1 (.int .i64 v)) hnn (fun _ => ⟨rfl, _, rfl, hcs⟩) hfit hone w.heap.size w ((Below.refl _ _).alloc (Nat.le_refl _) _) (Nat.le_refl _) ?_; intro w1 hg1 hb1; rw [rpt_splice (by decide)] at hg1)
  go_loopw [8] (fun i wr => ∃ k : Nat, 1 ≤ k ∧ k ≤ 5 ∧ i = .int .i64 k ∧ Hid (wr.heap[w.heap.size]? = some (.cells (rpt v 5 k).toArray 3 (0, 0))) ∧ Below w.heap.size w wr) (fun i _ => 5 - (intOf i).toNat)
  case atStart => exact ⟨1, by omega, by omega, rfl, hg1, hb1⟩
  case round =>
    obtain ⟨k, hk1, hk, rfl, hg, hbr⟩ := hrel
    by_cases hlt : k < 5
    · obtain ⟨m, hm1, hm2⟩ : ∃ m : Nat, k + m ≤ 5 ∧ m = min k (5 - k) := ⟨_, by omega, rfl⟩
      have hki : (k : Int) ≤ 5 := by omega
      have hne : ¬ (5 = k) := by omega
      have hcs2 : ∀ (W : World), W.heap[w.heap.size]? = some (.cells (rpt v 5 k).toArray 3 (0, 0)) → ∀ (j : Nat) (u : Value), (List.replicate m (Value.int .i64 v))[j]? = some u → W.cell? ((⟨w.heap.size, 0, none⟩ : Addr).add j) = some u := by
        intro W hW j u hj
        obtain ⟨h1, h2⟩ := List.getElem?_eq_some_iff.1 hj
        rw [List.length_replicate] at h1
        rw [List.getElem_replicate] at h2
        subst h2
        have e : (⟨w.heap.size, 0, none⟩ : Addr).add j = ⟨w.heap.size, j, none⟩ := by rw [add_mk, Nat.zero_add]
        rw [e]
        rw [cell_of_row _ _ _ _ _ _ hW]
        exact rpt_at (by omega)
      have HCS := hide hcs2
      have HLM := hide (show (List.replicate m (Value.int .i64 v)).length = Nat.min k (5 - k) by rw [List.length_replicate]; exact hm2)
      have HFT := hide (show k + (List.replicate m (Value.int .i64 v)).length ≤ (rpt v 5 k).length by rw [rpt_len (by omega), List.length_replicate]; exact hm1)
      have HON := hide (show ∀ u ∈ List.replicate m (Value.int .i64 v), u.oneCell' = true from fun u hu => by rw [List.eq_of_mem_replicate hu]; rfl)
      have HM2 := hide hm2
      clear hm2 hcs2 hmk hg0 hcs hone hnn hfit hg1
      have hwr : IntKind.i64.wrap ((k : Int) + (m : Int)) = (k : Int) + (m : Int) := IntWalk.i64_in _ (by omega)
      go_wp2_with fail
      go_region_law (refine step_copy_splice rfl (.tmp 41) (.tmp 44) 22 22 rfl 3 Try.underlying22 (by kernel_rfl) (some ⟨w.heap.size, k, none⟩) (some ⟨w.heap.size, 0, none⟩) (5 - k) (5 - k) k 5 (by simp [Act.eval, Act.put]) (by simp [Act.eval, Act.put]) w.heap.size k (rpt v 5 k) 3 hg (List.replicate m (.int .i64 v)) HLM.out (fun _ => ⟨rfl, _, rfl, HCS.out wr.drew hg⟩) HFT.out HON.out w.heap.size w (below_drewN hbr 1) (Nat.le_refl _) ?_; intro w4 hg4 hb4)
      rw [rpt_splice hm1] at hg4
      go_wp2_with fail
      go_roundw
      case rel => (repeat apply Exists.intro); exact ⟨⟨k + m, by omega, by omega, by go_num, hg4, hb4⟩, rfl⟩
      case measure => have := HM2.out; simp [intOf, Act.put]; omega
    · obtain rfl : k = 5 := by omega
      go_wp2_with fail
      go_ret
      exact ⟨rfl, hg, hbr⟩

set_option maxRecDepth 100000 in
theorem slRepeat_6 (v : Int) (b off c : Nat) (w : World) (hb : b < w.heap.size) (hc : w.cell? ⟨b, off, none⟩ = some (.int .i64 v)) (hc1 : 1 ≤ c) :
    Calls Try.prog 74 #[.slice (some ⟨b, off, none⟩) 1 c, .int .i64 6] w fun e w' => e = .returned (.slice (some ⟨w.heap.size, 0, none⟩) 6 6) ∧ Hid (w'.heap[w.heap.size]? = some (.cells (rpt v 6 6).toArray 3 (0, 0))) ∧ Below w.heap.size w w' := by
  have hmk : ∀ w, (Instr.makeSlice 22 (.int .i64 6) (.int .i64 6)).run Try.prog w = _ := run_make_row' (P := Try.prog) 22 3 (.int .i64 0) 8 Try.underlying22 info_int rfl .i64 .i64 6 (by omega) (by omega)
  have hg0 : (w.alloc (.cells (madeCells #[.int .i64 0] 6) 3)).heap[w.heap.size]? = some (.cells (rpt v 6 0).toArray 3 (0, 0)) := by
    rw [show madeCells #[Value.int .i64 0] 6 = (rpt v 6 0).toArray by simp [madeCells, rpt, Array.range, List.replicate] <;> rfl]
    exact heap_alloc_new w _
  go_enter Try.func74, Try.ntmps74
  go_wp2_with fail
  refine (mul_6 w).mono ?_
  rintro e _ ⟨rfl, rfl⟩
  have hcs : ∀ (j : Nat) (u : Value), (List.replicate 1 (Value.int .i64 v))[j]? = some u → (w.alloc (.cells (madeCells #[.int .i64 0] 6) 3)).cell? ((⟨b, off, none⟩ : Addr).add j) = some u := fun j u hj => by
    obtain ⟨h1, h2⟩ := List.getElem?_eq_some_iff.1 hj
    simp at h1
    subst h1
    subst h2
    have e : (⟨b, off, none⟩ : Addr).add 0 = ⟨b, off, none⟩ := by simp [Addr.add]
    exact ((bcell ((Below.refl w.heap.size w).alloc (Nat.le_refl _) _)).1 b off hb).trans hc
  have hone : ∀ u ∈ List.replicate 1 (Value.int .i64 v), u.oneCell' = true := fun u hu => by rw [List.eq_of_mem_replicate hu]; rfl
  have hnn : (List.replicate 1 (Value.int .i64 v)).length = Nat.min 1 6 := by simp
  have hfit : 0 + (List.replicate 1 (Value.int .i64 v)).length ≤ (rpt v 6 0).length := by simp [rpt]
  go_wp2_with (refine wpList_copy_splice (o := ⟨some 33, _, _, _, _, _⟩) rfl (.tmp 31) (.tmp 32) 22 22 rfl 3 Try.underlying22 (by kernel_rfl) (some ⟨w.heap.size, 0, none⟩) (some ⟨b, off, none⟩) 6 6 1 c rfl rfl w.heap.size 0 (rpt v 6 0) 3 hg0 (List.replicate 1 (.int .i64 v)) hnn (fun _ => ⟨rfl, _, rfl, hcs⟩) hfit hone w.heap.size w ((Below.refl _ _).alloc (Nat.le_refl _) _) (Nat.le_refl _) ?_; intro w1 hg1 hb1; rw [rpt_splice (by decide)] at hg1)
  go_loopw [8] (fun i wr => ∃ k : Nat, 1 ≤ k ∧ k ≤ 6 ∧ i = .int .i64 k ∧ Hid (wr.heap[w.heap.size]? = some (.cells (rpt v 6 k).toArray 3 (0, 0))) ∧ Below w.heap.size w wr) (fun i _ => 6 - (intOf i).toNat)
  case atStart => exact ⟨1, by omega, by omega, rfl, hg1, hb1⟩
  case round =>
    obtain ⟨k, hk1, hk, rfl, hg, hbr⟩ := hrel
    by_cases hlt : k < 6
    · obtain ⟨m, hm1, hm2⟩ : ∃ m : Nat, k + m ≤ 6 ∧ m = min k (6 - k) := ⟨_, by omega, rfl⟩
      have hki : (k : Int) ≤ 6 := by omega
      have hne : ¬ (6 = k) := by omega
      have hcs2 : ∀ (W : World), W.heap[w.heap.size]? = some (.cells (rpt v 6 k).toArray 3 (0, 0)) → ∀ (j : Nat) (u : Value), (List.replicate m (Value.int .i64 v))[j]? = some u → W.cell? ((⟨w.heap.size, 0, none⟩ : Addr).add j) = some u := by
        intro W hW j u hj
        obtain ⟨h1, h2⟩ := List.getElem?_eq_some_iff.1 hj
        rw [List.length_replicate] at h1
        rw [List.getElem_replicate] at h2
        subst h2
        have e : (⟨w.heap.size, 0, none⟩ : Addr).add j = ⟨w.heap.size, j, none⟩ := by rw [add_mk, Nat.zero_add]
        rw [e]
        rw [cell_of_row _ _ _ _ _ _ hW]
        exact rpt_at (by omega)
      have HCS := hide hcs2
      have HLM := hide (show (List.replicate m (Value.int .i64 v)).length = Nat.min k (6 - k) by rw [List.length_replicate]; exact hm2)
      have HFT := hide (show k + (List.replicate m (Value.int .i64 v)).length ≤ (rpt v 6 k).length by rw [rpt_len (by omega), List.length_replicate]; exact hm1)
      have HON := hide (show ∀ u ∈ List.replicate m (Value.int .i64 v), u.oneCell' = true from fun u hu => by rw [List.eq_of_mem_replicate hu]; rfl)
      have HM2 := hide hm2
      clear hm2 hcs2 hmk hg0 hcs hone hnn hfit hg1
      have hwr : IntKind.i64.wrap ((k : Int) + (m : Int)) = (k : Int) + (m : Int) := IntWalk.i64_in _ (by omega)
      go_wp2_with fail
      go_region_law (refine step_copy_splice rfl (.tmp 41) (.tmp 44) 22 22 rfl 3 Try.underlying22 (by kernel_rfl) (some ⟨w.heap.size, k, none⟩) (some ⟨w.heap.size, 0, none⟩) (6 - k) (6 - k) k 6 (by simp [Act.eval, Act.put]) (by simp [Act.eval, Act.put]) w.heap.size k (rpt v 6 k) 3 hg (List.replicate m (.int .i64 v)) HLM.out (fun _ => ⟨rfl, _, rfl, HCS.out wr.drew hg⟩) HFT.out HON.out w.heap.size w (below_drewN hbr 1) (Nat.le_refl _) ?_; intro w4 hg4 hb4)
      rw [rpt_splice hm1] at hg4
      go_wp2_with fail
      go_roundw
      case rel => (repeat apply Exists.intro); exact ⟨⟨k + m, by omega, by omega, by go_num, hg4, hb4⟩, rfl⟩
      case measure => have := HM2.out; simp [intOf, Act.put]; omega
    · obtain rfl : k = 6 := by omega
      go_wp2_with fail
      go_ret
      exact ⟨rfl, hg, hbr⟩

set_option maxRecDepth 100000 in
theorem slRepeat_7 (v : Int) (b off c : Nat) (w : World) (hb : b < w.heap.size) (hc : w.cell? ⟨b, off, none⟩ = some (.int .i64 v)) (hc1 : 1 ≤ c) :
    Calls Try.prog 74 #[.slice (some ⟨b, off, none⟩) 1 c, .int .i64 7] w fun e w' => e = .returned (.slice (some ⟨w.heap.size, 0, none⟩) 7 7) ∧ Hid (w'.heap[w.heap.size]? = some (.cells (rpt v 7 7).toArray 3 (0, 0))) ∧ Below w.heap.size w w' := by
  have hmk : ∀ w, (Instr.makeSlice 22 (.int .i64 7) (.int .i64 7)).run Try.prog w = _ := run_make_row' (P := Try.prog) 22 3 (.int .i64 0) 8 Try.underlying22 info_int rfl .i64 .i64 7 (by omega) (by omega)
  have hg0 : (w.alloc (.cells (madeCells #[.int .i64 0] 7) 3)).heap[w.heap.size]? = some (.cells (rpt v 7 0).toArray 3 (0, 0)) := by
    rw [show madeCells #[Value.int .i64 0] 7 = (rpt v 7 0).toArray by simp [madeCells, rpt, Array.range, List.replicate] <;> rfl]
    exact heap_alloc_new w _
  go_enter Try.func74, Try.ntmps74
  go_wp2_with fail
  refine (mul_7 w).mono ?_
  rintro e _ ⟨rfl, rfl⟩
  have hcs : ∀ (j : Nat) (u : Value), (List.replicate 1 (Value.int .i64 v))[j]? = some u → (w.alloc (.cells (madeCells #[.int .i64 0] 7) 3)).cell? ((⟨b, off, none⟩ : Addr).add j) = some u := fun j u hj => by
    obtain ⟨h1, h2⟩ := List.getElem?_eq_some_iff.1 hj
    simp at h1
    subst h1
    subst h2
    have e : (⟨b, off, none⟩ : Addr).add 0 = ⟨b, off, none⟩ := by simp [Addr.add]
    exact ((bcell ((Below.refl w.heap.size w).alloc (Nat.le_refl _) _)).1 b off hb).trans hc
  have hone : ∀ u ∈ List.replicate 1 (Value.int .i64 v), u.oneCell' = true := fun u hu => by rw [List.eq_of_mem_replicate hu]; rfl
  have hnn : (List.replicate 1 (Value.int .i64 v)).length = Nat.min 1 7 := by simp
  have hfit : 0 + (List.replicate 1 (Value.int .i64 v)).length ≤ (rpt v 7 0).length := by simp [rpt]
  go_wp2_with (refine wpList_copy_splice (o := ⟨some 33, _, _, _, _, _⟩) rfl (.tmp 31) (.tmp 32) 22 22 rfl 3 Try.underlying22 (by kernel_rfl) (some ⟨w.heap.size, 0, none⟩) (some ⟨b, off, none⟩) 7 7 1 c rfl rfl w.heap.size 0 (rpt v 7 0) 3 hg0 (List.replicate 1 (.int .i64 v)) hnn (fun _ => ⟨rfl, _, rfl, hcs⟩) hfit hone w.heap.size w ((Below.refl _ _).alloc (Nat.le_refl _) _) (Nat.le_refl _) ?_; intro w1 hg1 hb1; rw [rpt_splice (by decide)] at hg1)
  go_loopw [8] (fun i wr => ∃ k : Nat, 1 ≤ k ∧ k ≤ 7 ∧ i = .int .i64 k ∧ Hid (wr.heap[w.heap.size]? = some (.cells (rpt v 7 k).toArray 3 (0, 0))) ∧ Below w.heap.size w wr) (fun i _ => 7 - (intOf i).toNat)
  case atStart => exact ⟨1, by omega, by omega, rfl, hg1, hb1⟩
  case round =>
    obtain ⟨k, hk1, hk, rfl, hg, hbr⟩ := hrel
    by_cases hlt : k < 7
    · obtain ⟨m, hm1, hm2⟩ : ∃ m : Nat, k + m ≤ 7 ∧ m = min k (7 - k) := ⟨_, by omega, rfl⟩
      have hki : (k : Int) ≤ 7 := by omega
      have hne : ¬ (7 = k) := by omega
      have hcs2 : ∀ (W : World), W.heap[w.heap.size]? = some (.cells (rpt v 7 k).toArray 3 (0, 0)) → ∀ (j : Nat) (u : Value), (List.replicate m (Value.int .i64 v))[j]? = some u → W.cell? ((⟨w.heap.size, 0, none⟩ : Addr).add j) = some u := by
        intro W hW j u hj
        obtain ⟨h1, h2⟩ := List.getElem?_eq_some_iff.1 hj
        rw [List.length_replicate] at h1
        rw [List.getElem_replicate] at h2
        subst h2
        have e : (⟨w.heap.size, 0, none⟩ : Addr).add j = ⟨w.heap.size, j, none⟩ := by rw [add_mk, Nat.zero_add]
        rw [e]
        rw [cell_of_row _ _ _ _ _ _ hW]
        exact rpt_at (by omega)
      have HCS := hide hcs2
      have HLM := hide (show (List.replicate m (Value.int .i64 v)).length = Nat.min k (7 - k) by rw [List.length_replicate]; exact hm2)
      have HFT := hide (show k + (List.replicate m (Value.int .i64 v)).length ≤ (rpt v 7 k).length by rw [rpt_len (by omega), List.length_replicate]; exact hm1)
      have HON := hide (show ∀ u ∈ List.replicate m (Value.int .i64 v), u.oneCell' = true from fun u hu => by rw [List.eq_of_mem_replicate hu]; rfl)
      have HM2 := hide hm2
      clear hm2 hcs2 hmk hg0 hcs hone hnn hfit hg1
      have hwr : IntKind.i64.wrap ((k : Int) + (m : Int)) = (k : Int) + (m : Int) := IntWalk.i64_in _ (by omega)
      go_wp2_with fail
      go_region_law (refine step_copy_splice rfl (.tmp 41) (.tmp 44) 22 22 rfl 3 Try.underlying22 (by kernel_rfl) (some ⟨w.heap.size, k, none⟩) (some ⟨w.heap.size, 0, none⟩) (7 - k) (7 - k) k 7 (by simp [Act.eval, Act.put]) (by simp [Act.eval, Act.put]) w.heap.size k (rpt v 7 k) 3 hg (List.replicate m (.int .i64 v)) HLM.out (fun _ => ⟨rfl, _, rfl, HCS.out wr.drew hg⟩) HFT.out HON.out w.heap.size w (below_drewN hbr 1) (Nat.le_refl _) ?_; intro w4 hg4 hb4)
      rw [rpt_splice hm1] at hg4
      go_wp2_with fail
      go_roundw
      case rel => (repeat apply Exists.intro); exact ⟨⟨k + m, by omega, by omega, by go_num, hg4, hb4⟩, rfl⟩
      case measure => have := HM2.out; simp [intOf, Act.put]; omega
    · obtain rfl : k = 7 := by omega
      go_wp2_with fail
      go_ret
      exact ⟨rfl, hg, hbr⟩

theorem slRepeat_any (v : Int) (b off c n : Nat) (w : World) (hn : n ≤ 7) (hb : b < w.heap.size) (hc : w.cell? ⟨b, off, none⟩ = some (.int .i64 v)) (hc1 : 1 ≤ c) :
    Calls Try.prog 74 #[.slice (some ⟨b, off, none⟩) 1 c, .int .i64 n] w fun e w' => e = .returned (.slice (some ⟨w.heap.size, 0, none⟩) n n) ∧ Hid (w'.heap[w.heap.size]? = some (.cells (rpt v n n).toArray 3 (0, 0))) ∧ Below w.heap.size w w' := by
  match n, hn with
  | 0, _ => exact slRepeat_0 v b off c w hb hc hc1
  | 1, _ => exact slRepeat_1 v b off c w hb hc hc1
  | 2, _ => exact slRepeat_2 v b off c w hb hc hc1
  | 3, _ => exact slRepeat_3 v b off c w hb hc hc1
  | 4, _ => exact slRepeat_4 v b off c w hb hc hc1
  | 5, _ => exact slRepeat_5 v b off c w hb hc hc1
  | 6, _ => exact slRepeat_6 v b off c w hb hc hc1
  | 7, _ => exact slRepeat_7 v b off c w hb hc hc1
theorem rpt_full (v : Int) (n : Nat) : rpt v n n = (listOf n fun _ => v).map (Value.int .i64) := by
  rw [rpt, Nat.sub_self, List.replicate_zero, List.append_nil, listOf, List.map_map]
  refine List.ext_getElem (by simp) fun i h1 h2 => by simp
end Go.Proofs.Ytkalecdjcdgodaa
