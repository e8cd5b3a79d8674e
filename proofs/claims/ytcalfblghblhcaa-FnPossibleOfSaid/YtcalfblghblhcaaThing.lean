/-
  Results and copies that the exact laws keep in view, each with the range of blocks in which it lies; marks and holds over them. Conditions: those that each contract names.
-/
import Derived.Test.YtcalfblghblhcaaMemIn
import Derived.Test.YtcalfblghblhcaaMem3
import Derived.Test.YtcalfblghblhcaaOwn
namespace Go.Proofs.Ytcalfblghblhcaa
open Go.RowKit

/-- w' is w but for the blocks from lo on and below hi, and new ones -/
structure Outside (lo hi : Nat) (w w' : World) : Prop where
  os : w'.os = w.os
  tape : w'.tape = w.tape
  output : w'.output = w.output
  size : w.heap.size ≤ w'.heap.size
  block : ∀ k, k < w.heap.size → (k < lo ∨ hi ≤ k) → w'.heap[k]? = w.heap[k]?
theorem Outside.of_below {lo hi : Nat} {w w' : World} (h : Below w.heap.size w w') : Outside lo hi w w' := ⟨h.os, h.tape, h.output, h.size, fun k hk _ => h.block k hk⟩
theorem Outside.below {lo hi B : Nat} {w w' : World} (h : Outside lo hi w w') (hB : B ≤ lo) (hw : B ≤ w.heap.size) : Below B w w' := ⟨h.os, h.tape, h.output, h.size, fun k hk => h.block k (by omega) (.inl (by omega))⟩
theorem Outside.mono {lo hi lo' hi' : Nat} {w w' : World} (h : Outside lo hi w w') (h1 : lo' ≤ lo) (h2 : hi ≤ hi') : Outside lo' hi' w w' := ⟨h.os, h.tape, h.output, h.size, fun k hk hh => h.block k hk (by omega)⟩
theorem Outside.of_grown {lo hi : Nat} {w w' : World} {row : Option Nat} (h : w.grownBy w' row) (hr : ∀ k, row = some k → lo ≤ k ∧ k < hi) : Outside lo hi w w' :=
  ⟨h.os, h.tape, h.output, h.size, fun k hk hh => h.block k hk (fun e => by have := hr k e.symm; omega)⟩

theorem Outside.refl (lo hi : Nat) (w : World) : Outside lo hi w w := ⟨rfl, rfl, rfl, Nat.le_refl _, fun _ _ _ => rfl⟩
theorem Outside.set_ {lo hi : Nat} {a w : World} (h : Outside lo hi a w) {p : Addr} (hp : lo ≤ p.block ∧ p.block < hi) (u : Value) : Outside lo hi a (w.setCell p u) :=
  ⟨h.os, h.tape, h.output, by simpa [World.setCell] using h.size, fun k hk hh => (Below.heap_setCell w p u k (by omega)).trans (h.block k hk hh)⟩
theorem Outside.alloc {lo hi : Nat} {a w : World} (h : Outside lo hi a w) (o : Obj) : Outside lo hi a (w.alloc o) :=
  ⟨h.os, h.tape, h.output, Nat.le_trans h.size (by simp), fun k hk hh => (Below.heap_alloc w o k (Nat.lt_of_lt_of_le hk h.size)).trans (h.block k hk hh)⟩
theorem Outside.trans {lo hi : Nat} {a b c : World} (h : Outside lo hi a b) (k : Outside lo hi b c) : Outside lo hi a c :=
  ⟨k.os.trans h.os, k.tape.trans h.tape, k.output.trans h.output, Nat.le_trans h.size k.size, fun i hi hh => (k.block i (Nat.lt_of_lt_of_le hi h.size) hh).trans (h.block i hi hh)⟩

/-- a slice of n ints, the i-th f i, in a block of its own from lo on and below hi; or nil -/
def IT (w : World) (lo hi : Nat) (A : Option Addr) (n : Nat) (f : Nat → Int) : Prop :=
  (A = none ∧ n = 0) ∨ ∃ b N g, A = some ⟨b, 0, none⟩ ∧ (lo ≤ b ∧ b < hi) ∧ w.rowIs b 3 N g ∧ n ≤ N ∧ ∀ i, i < n → g i = .int .i64 (f i)

theorem IT.keep {w w' : World} {lo hi l h : Nat} {A : Option Addr} {n : Nat} {f : Nat → Int} (t : IT w lo hi A n f) (ho : Outside l h w w') (hs : hi ≤ l ∨ h ≤ lo) : IT w' lo hi A n f := by
  rcases t with t | ⟨b, N, g, e, hb, hr, hn, hg⟩
  · exact .inl t
  · exact .inr ⟨b, N, g, e, hb, hr.of_block (ho.block b hr.lt (by omega)), hn, hg⟩
theorem IT.keepB {w w' : World} {lo hi : Nat} {A : Option Addr} {n : Nat} {f : Nat → Int} (t : IT w lo hi A n f) (hb : Below w.heap.size w w') : IT w' lo hi A n f := by
  rcases t with t | ⟨b, N, g, e, hbb, hr, hn, hg⟩
  · exact .inl t
  · exact .inr ⟨b, N, g, e, hbb, hr.of_block (hb.block b hr.lt), hn, hg⟩
theorem IT.mono {w : World} {lo hi lo' hi' : Nat} {A : Option Addr} {n : Nat} {f : Nat → Int} (t : IT w lo hi A n f) (h1 : lo' ≤ lo) (h2 : hi ≤ hi') : IT w lo' hi' A n f := by
  rcases t with t | ⟨b, N, g, e, hb, hr, hn, hg⟩
  · exact .inl t
  · exact .inr ⟨b, N, g, e, by omega, hr, hn, hg⟩
theorem IT.congr {w : World} {lo hi : Nat} {A : Option Addr} {n : Nat} {f g : Nat → Int} (t : IT w lo hi A n f) (h : ∀ i, i < n → f i = g i) : IT w lo hi A n g := by
  rcases t with t | ⟨b, N, r, e, hb, hr, hn, hg⟩
  · exact .inl t
  · exact .inr ⟨b, N, r, e, hb, hr, hn, fun i hi => by rw [hg i hi, h i hi]⟩
theorem IT.ints {w : World} {lo hi : Nat} {A : Option Addr} {n : Nat} {f : Nat → Int} (t : IT w lo hi A n f) : Ints w w.heap.size A n f := fun h0 => by
  rcases t with ⟨_, rfl⟩ | ⟨b, N, g, rfl, hb, hr, hn, hg⟩
  · omega
  · exact ⟨b, 0, rfl, hr.lt, fun i hi => by rw [Nat.zero_add, hr.cell (by omega), hg i hi]⟩
theorem IT.of_own {w : World} {base : Nat} {A : Option Addr} {n : Nat} {f : Nat → Int} (h : OwnI w base A n f) : IT w base w.heap.size A n f := by
  rcases h with h | ⟨b, N, g, e, hbb, hr, hn, hg⟩
  · exact .inl h
  · exact .inr ⟨b, N, g, e, ⟨hbb, hr.lt⟩, hr, hn, hg⟩
theorem IT.of_rowIs {w : World} {b n : Nat} {f : Nat → Int} (h : w.rowIs b 3 n (fun i => .int .i64 (f i))) : IT w b (b + 1) (some ⟨b, 0, none⟩) n f :=
  .inr ⟨b, n, _, rfl, by omega, h, Nat.le_refl _, fun _ _ => rfl⟩
theorem IT.own {w : World} {lo hi : Nat} {A : Option Addr} {n : Nat} {f : Nat → Int} (t : IT w lo hi A n f) : OwnI w lo A n f := by
  rcases t with t | ⟨b, N, g, e, hb, hr, hn, hg⟩
  · exact .inl t
  · exact .inr ⟨b, N, g, e, hb.1, hr, hn, hg⟩

/-- the blocks of w' are those of w but for that of A -/
def OnlyA (A : Option Addr) (w w' : World) : Prop := w.grownBy w' (A.map (·.block))
theorem OnlyA.refl (A : Option Addr) (w : World) : OnlyA A w w := ⟨rfl, rfl, rfl, Nat.le_refl _, fun _ _ _ => rfl⟩
theorem OnlyA.set_ {b i : Nat} {w w' : World} (h : OnlyA (some ⟨b, 0, none⟩) w w') (v : Value) : OnlyA (some ⟨b, 0, none⟩) w (w'.setCell ⟨b, i, none⟩ v) :=
  ⟨h.os, h.tape, h.output, by simpa [World.setCell] using h.size, fun k hk hne => (Below.heap_setCell w' _ v k (by rintro rfl; exact hne rfl)).trans (h.block k hk hne)⟩

theorem markI_any (A : Option Addr) (n c lo hi : Nat) (f : Nat → Int) (k : Int) (w : World) (hn : n ≤ 1099511627776) (hk : 0 ≤ k ∧ k ≤ 2199023255552) (h : IT w lo hi A n f) :
    Calls Try.prog 25 #[.slice A n c, .int .i64 k] w fun e w' => e = .returned (.int .i64 (k + n)) ∧ IT w' lo hi A n (fun i => k + i) ∧ OnlyA A w w' ∧ w'.heap.size = w.heap.size := by
  by_cases h0 : n = 0
  · subst h0
    have hA : IT w lo hi A 0 (fun i => k + i) := h.congr (fun i hi => absurd hi (by omega))
    have HA := hide hA
    clear h hA
    go_enter Try.func25, Try.ntmps25
    go_wp2
    refine wp_loop_rounds 1 ?_
    rw [rounds_succ]
    go_wp2
    go_ret
    exact ⟨by simp, HA.out, OnlyA.refl _ _, rfl⟩
  rcases h with ⟨_, h⟩ | ⟨b, N, g, rfl, hbb, hr, hnN, hg⟩
  · omega
  have Hr := hide hr
  clear hg hr
  go_enter Try.func25, Try.ntmps25
  go_wp2
  go_loopw [1, 5] (fun v i wr => ∃ j : Nat, j ≤ n ∧ i = .int .i64 j ∧ v = .int .i64 (k + j) ∧ wr.rowIs b 3 N (fun i => if i < j then .int .i64 (k + i) else g i) ∧ OnlyA (some ⟨b, 0, none⟩) w wr ∧ wr.heap.size = w.heap.size) (fun _ i _ => n - (intOf i).toNat)
  case atStart => exact ⟨0, by omega, rfl, by simp, Hr.out.congr (fun i _ => by simp), OnlyA.refl _ _, rfl⟩
  case round =>
    obtain ⟨j, hj, rfl, rfl, hrow, hb, hz⟩ := hrel
    have Hz := hide hz
    clear hz
    by_cases hlt : j < n
    · have hcd := hrow.cell (show j < N by omega)
      have hfz := hrow.frozen j
      go_wp2
      go_roundw
      case rel => exact ⟨j + 1, by omega, by go_num, by go_num, (hrow.set j _).congr (fun i _ => by
        by_cases e : i = j
        · subst e; simp
        · rw [if_neg e]
          by_cases h1 : i < j
          · rw [if_pos h1, if_pos (by omega)]
          · rw [if_neg h1, if_neg (by omega)]), hb.set_ _, by simpa [World.setCell] using Hz.out⟩
      case measure => simp [intOf]; omega
    · obtain rfl : j = n := by omega
      go_wp2
      go_ret
      exact ⟨rfl, .inr ⟨b, N, _, rfl, hbb, hrow, hnN, fun i hi => by rw [if_pos hi]⟩, hb, Hz.out⟩

theorem OnlyA.outside {A : Option Addr} {w w' : World} {lo hi n : Nat} {f : Nat → Int} (h : OnlyA A w w') (t : IT w lo hi A n f) : Outside lo hi w w' := by
  rcases t with ⟨rfl, _⟩ | ⟨b, N, g, rfl, hb, _⟩
  · exact Outside.of_grown h (by simp)
  · exact Outside.of_grown h (by simp; omega)

/-- the sum of the first j lengths -/
def offs (L : Nat → Nat) : Nat → Nat | 0 => 0 | j + 1 => offs L j + L j
theorem offs_le {L : Nat → Nat} {m : Nat} : ∀ {n : Nat}, (∀ i, i < n → L i ≤ m) → ∀ j, j ≤ n → offs L j ≤ j * m
  | n, h, 0, _ => by simp [offs]
  | n, h, j + 1, hj => by
    have h1 := offs_le h j (by omega)
    have h2 := h j (by omega)
    have h3 : (j + 1) * m = j * m + m := by rw [Nat.add_mul, Nat.one_mul]
    show offs L j + L j ≤ _
    omega

/-- a slice of n rows, the i-th at R i of L i ints, all in blocks of their own from lo on and below hi; or nil -/
def MTR (w : World) (lo hi : Nat) (A : Option Addr) (n : Nat) (L : Nat → Nat) (M : Nat → Nat → Int) (R : Nat → Option Addr) : Prop :=
  (A = none ∧ n = 0) ∨ ∃ (b N : Nat) (g : Nat → Value) (C : Nat → Nat), A = some ⟨b, 0, none⟩ ∧ (lo ≤ b ∧ b < hi) ∧ w.rowIs b 23 N g ∧ n ≤ N ∧ (∀ i, i < n → g i = .slice (R i) (L i) (C i) ∧ IT w lo hi (R i) (L i) (M i)) ∧
    ∀ i j, i < n → j < n → i ≠ j → R i = none ∨ R i ≠ R j
def MT (w : World) (lo hi : Nat) (A : Option Addr) (n : Nat) (L : Nat → Nat) (M : Nat → Nat → Int) : Prop := ∃ R, MTR w lo hi A n L M R

theorem MTR.keep {w w' : World} {lo hi l h : Nat} {A : Option Addr} {n : Nat} {L : Nat → Nat} {M : Nat → Nat → Int} {R : Nat → Option Addr} (t : MTR w lo hi A n L M R) (ho : Outside l h w w') (hs : hi ≤ l ∨ h ≤ lo) : MTR w' lo hi A n L M R := by
  rcases t with t | ⟨b, N, g, C, e, hb, hr, hn, hg, hd⟩
  · exact .inl t
  · exact .inr ⟨b, N, g, C, e, hb, hr.of_block (ho.block b hr.lt (by omega)), hn, fun i hi => ⟨(hg i hi).1, (hg i hi).2.keep ho hs⟩, hd⟩
theorem MTR.keepB {w w' : World} {lo hi : Nat} {A : Option Addr} {n : Nat} {L : Nat → Nat} {M : Nat → Nat → Int} {R : Nat → Option Addr} (t : MTR w lo hi A n L M R) (ho : Below w.heap.size w w') : MTR w' lo hi A n L M R := by
  rcases t with t | ⟨b, N, g, C, e, hb, hr, hn, hg, hd⟩
  · exact .inl t
  · exact .inr ⟨b, N, g, C, e, hb, hr.of_block (ho.block b hr.lt), hn, fun i hi => ⟨(hg i hi).1, (hg i hi).2.keepB ho⟩, hd⟩
theorem MTR.mono {w : World} {lo hi lo' hi' : Nat} {A : Option Addr} {n : Nat} {L : Nat → Nat} {M : Nat → Nat → Int} {R : Nat → Option Addr} (t : MTR w lo hi A n L M R) (h1 : lo' ≤ lo) (h2 : hi ≤ hi') : MTR w lo' hi' A n L M R := by
  rcases t with t | ⟨b, N, g, C, e, hb, hr, hn, hg, hd⟩
  · exact .inl t
  · exact .inr ⟨b, N, g, C, e, by omega, hr, hn, fun i hi => ⟨(hg i hi).1, (hg i hi).2.mono h1 h2⟩, hd⟩
theorem MTR.mat {w : World} {lo hi : Nat} {A : Option Addr} {n : Nat} {L : Nat → Nat} {M : Nat → Nat → Int} {R : Nat → Option Addr} (t : MTR w lo hi A n L M R) : Mat w w.heap.size A n L M := fun h0 => by
  rcases t with ⟨_, rfl⟩ | ⟨b, N, g, C, rfl, hb, hr, hn, hg, hd⟩
  · omega
  · exact ⟨b, 0, rfl, hr.lt, fun i hi => ⟨R i, C i, by rw [Nat.zero_add, hr.cell (by omega), (hg i hi).1], (hg i hi).2.ints⟩⟩
theorem MTR.congr {w : World} {lo hi : Nat} {A : Option Addr} {n : Nat} {L L' : Nat → Nat} {M M' : Nat → Nat → Int} {R : Nat → Option Addr} (t : MTR w lo hi A n L M R) (h : ∀ i, i < n → L i = L' i ∧ ∀ j, j < L i → M i j = M' i j) : MTR w lo hi A n L' M' R := by
  rcases t with t | ⟨b, N, g, C, e, hb, hr, hn, hg, hd⟩
  · exact .inl t
  · refine .inr ⟨b, N, g, C, e, hb, hr, hn, fun i hi => ?_, hd⟩
    obtain ⟨h1, h2⟩ := h i hi
    obtain ⟨g1, g2⟩ := hg i hi
    rw [← h1]
    exact ⟨g1, g2.congr h2⟩
theorem MT.congr {w : World} {lo hi : Nat} {A : Option Addr} {n : Nat} {L L' : Nat → Nat} {M M' : Nat → Nat → Int} (t : MT w lo hi A n L M) (h : ∀ i, i < n → L i = L' i ∧ ∀ j, j < L i → M i j = M' i j) : MT w lo hi A n L' M' := t.imp fun _ t => t.congr h
theorem MT.keep {w w' : World} {lo hi l h : Nat} {A : Option Addr} {n : Nat} {L : Nat → Nat} {M : Nat → Nat → Int} (t : MT w lo hi A n L M) (ho : Outside l h w w') (hs : hi ≤ l ∨ h ≤ lo) : MT w' lo hi A n L M := t.imp fun _ t => t.keep ho hs
theorem MT.keepB {w w' : World} {lo hi : Nat} {A : Option Addr} {n : Nat} {L : Nat → Nat} {M : Nat → Nat → Int} (t : MT w lo hi A n L M) (ho : Below w.heap.size w w') : MT w' lo hi A n L M := t.imp fun _ t => t.keepB ho
theorem MT.mono {w : World} {lo hi lo' hi' : Nat} {A : Option Addr} {n : Nat} {L : Nat → Nat} {M : Nat → Nat → Int} (t : MT w lo hi A n L M) (h1 : lo' ≤ lo) (h2 : hi ≤ hi') : MT w lo' hi' A n L M := t.imp fun _ t => t.mono h1 h2
theorem MT.mat {w : World} {lo hi : Nat} {A : Option Addr} {n : Nat} {L : Nat → Nat} {M : Nat → Nat → Int} (t : MT w lo hi A n L M) : Mat w w.heap.size A n L M := by obtain ⟨R, t⟩ := t; exact t.mat
theorem MT.nil (w : World) (lo hi : Nat) (L : Nat → Nat) (M : Nat → Nat → Int) : MT w lo hi none 0 L M := ⟨fun _ => none, .inl ⟨rfl, rfl⟩⟩
theorem IT.nil (w : World) (lo hi : Nat) (f : Nat → Int) : IT w lo hi none 0 f := .inl ⟨rfl, rfl⟩
theorem MT.of_ownMat {w : World} {b n : Nat} {L : Nat → Nat} {M : Nat → Nat → Int} (h : OwnMat w b n L M) : MT w b (b + 1 + n) (some ⟨b, 0, none⟩) n L M :=
  ⟨fun j => some ⟨b + 1 + j, 0, none⟩, .inr ⟨b, n, _, L, rfl, by omega, h.top, Nat.le_refl _, fun i hi => ⟨rfl, (IT.of_rowIs (h.rows i hi)).mono (by omega) (by omega)⟩, fun i j _ _ hne => .inr (fun e => hne (by injection e with e; injection e with e; omega))⟩⟩

/-- w' is w but for the rows R i, i below n -/
structure OnlyR (R : Nat → Option Addr) (n : Nat) (w w' : World) : Prop where
  os : w'.os = w.os
  tape : w'.tape = w.tape
  output : w'.output = w.output
  size : w'.heap.size = w.heap.size
  block : ∀ k, k < w.heap.size → (∀ i, i < n → (R i).map (·.block) ≠ some k) → w'.heap[k]? = w.heap[k]?
theorem OnlyR.outside {w w' : World} {lo hi : Nat} {A : Option Addr} {n : Nat} {L : Nat → Nat} {M : Nat → Nat → Int} {R : Nat → Option Addr} (h : OnlyR R n w w') (t : MTR w lo hi A n L M R) : Outside lo hi w w' :=
  ⟨h.os, h.tape, h.output, by rw [h.size]; exact Nat.le_refl _, fun k hk hh => h.block k hk fun i hi => by
    rcases t with ⟨_, rfl⟩ | ⟨b, N, g, C, rfl, hb, hr, hn, hg, hd⟩
    · omega
    · rcases (hg i hi).2 with ⟨e, _⟩ | ⟨b', _, _, e, hb', _⟩
      · rw [e]; simp
      · rw [e]; simp; omega⟩

theorem rowIs_type {w : World} {b N N' : Nat} {t t' : TypeId} {f g : Nat → Value} (h : w.rowIs b t N f) (h' : w.rowIs b t' N' g) : t = t' := by
  obtain ⟨c, h1, _⟩ := h
  obtain ⟨c', h2, _⟩ := h'
  rw [h1] at h2
  injection h2 with h2
  injection h2

theorem markIntSS_any (A : Option Addr) (n c lo hi : Nat) (L : Nat → Nat) (M : Nat → Nat → Int) (R : Nat → Option Addr) (k : Int) (w : World) (hn : n ≤ 1048576) (hL : ∀ i, i < n → L i ≤ 1048576) (hk : 0 ≤ k ∧ k ≤ 1099511627776) (h : MTR w lo hi A n L M R) :
    Calls Try.prog 40 #[.slice A n c, .int .i64 k] w fun e w' => e = .returned (.int .i64 (k + offs L n)) ∧ MTR w' lo hi A n L (fun i j => k + offs L i + j) R ∧ OnlyR R n w w' := by
  have HO := hide (fun j hj => offs_le hL j hj)
  have HL := hide hL
  clear hL
  by_cases h0 : n = 0
  · subst h0
    have hA : MTR w lo hi A 0 L (fun i j => k + offs L i + j) R := by
      rcases h with h | ⟨b, N, g, C, e, hb, hr, hn, hg, hd⟩
      · exact .inl h
      · exact .inr ⟨b, N, g, C, e, hb, hr, hn, fun i hi => absurd hi (by omega), fun i j hi => absurd hi (by omega)⟩
    have HA := hide hA
    clear h hA
    go_enter Try.func40, Try.ntmps40
    go_wp2_with fail
    refine wp_loop_rounds 1 ?_
    rw [rounds_succ]
    go_wp2_with fail
    go_ret
    exact ⟨by simp [offs], HA.out, ⟨rfl, rfl, rfl, rfl, fun _ _ _ => rfl⟩⟩
  rcases h with h | ⟨b, N, g, C, rfl, hb, hr, hnN, hg, hd⟩
  · omega
  have Hr := hide hr
  have Hg := hide hg
  have Hd := hide hd
  clear hr hg hd
  go_enter Try.func40, Try.ntmps40
  go_wp2_with fail
  go_loopw [1, 5] (fun v i wr => ∃ j : Nat, j ≤ n ∧ i = .int .i64 j ∧ v = .int .i64 (k + offs L j) ∧ (∀ i, i < n → IT wr lo hi (R i) (L i) (fun x => if i < j then k + offs L i + x else M i x)) ∧ wr.rowIs b 23 N g ∧ OnlyR R n w wr) (fun _ i _ => n - (intOf i).toNat)
  case atStart => exact ⟨0, by omega, rfl, by simp [offs], fun i hi => by simpa using (Hg.out i hi).2, Hr.out, ⟨rfl, rfl, rfl, rfl, fun _ _ _ => rfl⟩⟩
  case round =>
    obtain ⟨j, hj, rfl, rfl, hall, hrow, ho⟩ := hrel
    have Hall := hide hall
    have Ho := hide ho
    have hO := HO.out j hj
    have hO2 : j * 1048576 ≤ 1099511627776 := by omega
    clear ho hall
    by_cases hlt : j < n
    · have hc0 := (hrow.cell (show j < N by omega)).trans (congrArg some (Hg.out j hlt).1)
      have hLj := HL.out j hlt
      have Hrow := hide hrow
      clear hrow
      go_wp2_with fail
      refine (markI_any (R j) (L j) (C j) lo hi _ (k + offs L j) wr (by omega) (by omega) (Hall.out j hlt)).mono ?_
      rintro e w1 ⟨rfl, hm, hoa, hz1⟩
      have hall' : ∀ i, i < n → IT w1 lo hi (R i) (L i) (fun x => if i < j + 1 then k + offs L i + x else M i x) := fun i hin => by
        by_cases e : i = j
        · subst e
          exact hm.congr (fun x _ => by rw [if_pos (by omega)])
        · have hk1 : IT w1 lo hi (R i) (L i) (fun x => if i < j then k + offs L i + x else M i x) := by
            rcases Hall.out i hin with t | ⟨bi, Ni, gi, ei, hbi, hri, hni, hgi⟩
            · exact .inl t
            · refine .inr ⟨bi, Ni, gi, ei, hbi, hri.of_block (hoa.block bi hri.lt ?_), hni, hgi⟩
              rcases Hall.out j hlt with ⟨tj, _⟩ | ⟨bj, Nj, gj, ej, hbj, hrj, hnj, hgj⟩
              · rw [tj]; simp
              · rcases Hd.out i j hin hlt e with h1 | h1
                · rw [h1] at ei; cases ei
                · rw [ei, ej] at h1
                  rw [ej]
                  simpa using h1
          refine hk1.congr (fun x _ => ?_)
          by_cases h1 : i < j
          · rw [if_pos h1, if_pos (by omega)]
          · rw [if_neg h1, if_neg (by omega)]
      have hrow' : w1.rowIs b 23 N g := Hrow.out.of_block (hoa.block b Hrow.out.lt (by
        rcases Hall.out j hlt with ⟨tj, _⟩ | ⟨bj, Nj, gj, ej, hbj, hrj, hnj, hgj⟩
        · rw [tj]; simp
        · rw [ej]
          intro e
          have : b = bj := by simpa using e
          subst this
          exact absurd (rowIs_type hrj Hrow.out) (by decide)))
      have hs1 : OnlyR R n w w1 := ⟨hoa.os.trans Ho.out.os, hoa.tape.trans Ho.out.tape, hoa.output.trans Ho.out.output, hz1.trans Ho.out.size, fun k hk hh => (hoa.block k (by rw [Ho.out.size]; exact hk) (fun e => hh j hlt e.symm)).trans (Ho.out.block k hk hh)⟩
      have HF := hide (show _ ∧ _ ∧ _ from ⟨hall', hrow', hs1⟩)
      clear hall' hrow' hs1 hoa hm hz1 hc0
      go_wp2_with fail
      go_roundw
      case rel => exact ⟨j + 1, by omega, by go_num, by simp only [offs]; go_num, HF.out.1, HF.out.2.1, HF.out.2.2⟩
      case measure => simp [intOf]; omega
    · obtain rfl : j = n := by omega
      have Hrow := hide hrow
      clear hrow
      go_wp2_with fail
      go_ret
      exact ⟨rfl, .inr ⟨b, N, g, C, rfl, hb, Hrow.out, hnN, fun i hi => ⟨(Hg.out i hi).1, (Hall.out i hi).congr (fun x _ => by rw [if_pos hi])⟩, Hd.out⟩, Ho.out⟩


theorem up' {w W w1 : World} (h : Below w.heap.size w W) (hb : Below W.heap.size W w1) : Below w.heap.size w w1 := up hb h h.size
theorem Blk.keepO {w w' : World} {g lo hi : Nat} {t : TypeId} {cs : Array Value} (h : Blk w g t cs) (ho : Outside lo hi w w') (hs : g < lo ∨ hi ≤ g) : Blk w' g t cs := (ho.block g h.lt hs).trans h
theorem eqIntS_b (A B : Option Addr) (n c d : Nat) (f : Nat → Int) (w : World) (hn : n ≤ 9223372036854775807) (h1 : Ints w w.heap.size A n f) (h2 : Ints w w.heap.size B n f) :
    Calls Try.prog 17 #[.slice A n c, .slice B n d] w fun e w' => e = .returned (.bool true) ∧ Below w.heap.size w w' :=
  (eqIntS_any A B n n c d f f w hn hn h1 h2).mono fun _ _ ⟨he, q, hw⟩ => ⟨by rw [he, eqB_self], by rw [hw]; exact below_drewN (Below.refl _ _) _⟩
theorem eqIntSS_b (A B : Option Addr) (n c d : Nat) (L : Nat → Nat) (M : Nat → Nat → Int) (w : World) (hn : n ≤ 9223372036854775807) (hL : ∀ i, i < n → L i ≤ 9223372036854775807) (h1 : Mat w w.heap.size A n L M) (h2 : Mat w w.heap.size B n L M) :
    Calls Try.prog 39 #[.slice A n c, .slice B n d] w fun e w' => e = .returned (.bool true) ∧ Below w.heap.size w w' :=
  (eqIntSS_any A B n n c d L L M M w hn hn hL hL h1 h2).mono fun _ _ ⟨he, q, hw⟩ => ⟨by rw [he, eqMB_self], by rw [hw]; exact below_drewN (Below.refl _ _) _⟩
end Go.Proofs.Ytcalfblghblhcaa
