/-
  The reader of the draws: pick returns a number in the range that it names, and moves the reader on by one. Conditions: the reader is one that newReader has made.
-/
import Derived.Test.YtcalfblghblhcaaRows
import Derived.Test.YtcalfblghblhcaaBase
import Derived.BigQuiet
import Derived.Deep.QuietTactic
namespace Go.Proofs.Ytcalfblghblhcaa
open Go.RowKit

/-- block g is a reader over n bytes whose count is p -/
def Rdr (w : World) (g : Nat) (A : Option Addr) (n c : Nat) (bs : List Int) (p : Nat) : Prop :=
  w.heap[g]? = some (.cells #[.slice A n c, .int .i64 p] 93 (0, 0)) ∧ n ≤ 2000 ∧ bs.length = n ∧ (∀ x ∈ bs, 0 ≤ x ∧ x ≤ 255) ∧
    (0 < n → ∃ b off, A = some ⟨b, off, none⟩ ∧ b < g ∧ ∀ i, i < n → w.cell? ⟨b, off + i, none⟩ = some (.int .u8 (bs.getD i 0)))

theorem getD_bd {bs : List Int} (h : ∀ x ∈ bs, 0 ≤ x ∧ x ≤ 255) (i : Nat) : 0 ≤ bs.getD i 0 ∧ bs.getD i 0 ≤ 255 := by
  by_cases hi : i < bs.length
  · simp only [List.getD, List.getElem?_eq_getElem hi, Option.getD_some]; exact h _ (List.getElem_mem hi)
  · simp only [List.getD, List.getElem?_eq_none (show bs.length ≤ i by omega), Option.getD_none]; omega

theorem ofInt_i64 (a : Nat) (ha : a < 9223372036854775808) : (BitVec.ofInt 64 (a : Int)).toNat = a := by
  rw [BitVec.ofInt_natCast, BitVec.toNat_ofNat]; exact Nat.mod_eq_of_lt (by omega)
theorem i64_xor_nat (a b : Nat) (ha : a < 9223372036854775808) (hb : b < 9223372036854775808) : bits .xor .i64 (a : Int) (b : Int) = ((a ^^^ b : Nat) : Int) := by
  have hx : a ^^^ b < 2 ^ 63 := Nat.xor_lt_two_pow (by omega) (by omega)
  show IntKind.i64.wrap ((BitVec.ofInt 64 (a : Int) ^^^ BitVec.ofInt 64 (b : Int)).toNat : Int) = _
  rw [BitVec.toNat_xor, ofInt_i64 a ha, ofInt_i64 b hb, IntKind.wrap_i64]
  omega
theorem xor_nonneg (a b : Int) (ha : 0 ≤ a ∧ a ≤ 1000000000000) (hb : 0 ≤ b ∧ b ≤ 1000000000000) : 0 ≤ bits .xor .i64 a b := by
  obtain ⟨a, rfl⟩ := Int.eq_ofNat_of_zero_le ha.1
  obtain ⟨b, rfl⟩ := Int.eq_ofNat_of_zero_le hb.1
  rw [i64_xor_nat a b (by omega) (by omega)]
  exact Int.natCast_nonneg _

theorem pick_any (g : Nat) (A : Option Addr) (n c : Nat) (bs : List Int) (p : Nat) (m : Int) (w : World) (h : Rdr w g A n c bs p) (hp : p ≤ 1000000) :
    Calls Try.prog 81 #[.pointer (some ⟨g, 0, none⟩), .int .i64 m] w fun e w' => ∃ v : Int, e = .returned (.int .i64 v) ∧ (0 ≤ v ∧ (1 ≤ m → v < m) ∧ (m < 1 → v = 0)) ∧ ∃ q, (w.setCell ⟨g, 1, none⟩ (.int .i64 (p + 1))).drewN q = w' := by
  obtain ⟨hb, hn, hl, hbs, hA⟩ := h
  have c0 : w.cell? ⟨g, 0, none⟩ = some (.slice A n c) := by simpa using cell_of_row w g 0 _ _ _ hb
  have c1 : w.cell? ⟨g, 1, none⟩ = some (.int .i64 p) := by simpa using cell_of_row w g 1 _ _ _ hb
  have hf : w.frozen? ⟨g, 1, none⟩ = false := by simp [World.frozen?, hb]
  by_cases hm : m < 1
  · clear hA hbs hl hb
    go_enter Try.func81, Try.ntmps81
    go_wp2
    go_ret
    exact ⟨0, rfl, ⟨by omega, by omega, by omega⟩, 0, rfl⟩
  by_cases hn0 : n = 0
  · subst hn0
    clear hA hbs hl hb
    go_enter Try.func81, Try.ntmps81
    go_wp2
    go_ret
    exact ⟨0, rfl, ⟨by omega, by omega, by omega⟩, 0, rfl⟩
  obtain ⟨b, off, rfl, hbg, hcell⟩ := hA (by omega)
  have hbg' : b ≠ g := by omega
  have hn1 : ((n : Int) == 0) = false := by simp; omega
  by_cases hpn : p < n
  · have hx := getD_bd hbs p
    have hc := hcell p hpn
    clear hcell hbs hl hb
    generalize bs.getD p 0 = x at hx hc
    go_enter Try.func81, Try.ntmps81
    go_wp2
    go_ret
    exact ⟨_, rfl, ⟨Int.emod_nonneg _ (by omega), by first | exact Int.emod_lt_of_pos _ (by omega) | (intro _; exact Int.emod_lt_of_pos _ (by omega)), by omega⟩, 0, rfl⟩
  · have hx := getD_bd hbs (p % n)
    have hy := getD_bd hbs ((p * 7 + 3) % n)
    have hcx := hcell (p % n) (Nat.mod_lt _ (by omega))
    have hcy := hcell ((p * 7 + 3) % n) (Nat.mod_lt _ (by omega))
    clear hcell hbs hl hb
    generalize bs.getD (p % n) 0 = x at hx hcx
    generalize bs.getD ((p * 7 + 3) % n) 0 = y at hy hcy
    have l1 : p % n < n := Nat.mod_lt _ (by omega)
    have l2 : (p * 7 + 3) % n < n := Nat.mod_lt _ (by omega)
    have l3 : p / n ≤ p := Nat.div_le_self _ _
    have T1 := hide (show Int.tmod (p : Int) (n : Int) = ((p % n : Nat) : Int) by rw [Int.tmod_eq_emod_of_nonneg (by omega)]; rfl)
    have T2 := hide (show Int.tmod ((p : Int) * 7 + 3) (n : Int) = (((p * 7 + 3) % n : Nat) : Int) by rw [Int.tmod_eq_emod_of_nonneg (by omega)]; rfl)
    have T3 := hide (show Int.tdiv (p : Int) (n : Int) = ((p / n : Nat) : Int) by rw [Int.tdiv_eq_ediv_of_nonneg (by omega)]; rfl)
    generalize p % n = j1 at *
    generalize (p * 7 + 3) % n = j2 at *
    generalize p / n = q1 at *
    go_enter Try.func81, Try.ntmps81
    go_wp2
    have t1 := T1.out
    have t2 := T2.out
    have t3 := T3.out
    have u1 : IntKind.i64.wrap x = x := IntWalk.i64_in _ (by omega)
    have u2 : IntKind.i64.wrap y = y := IntWalk.i64_in _ (by omega)
    have u3 : IntKind.i64.wrap (x * 131) = x * 131 := IntWalk.i64_in _ (by omega)
    have u4 : IntKind.i64.wrap (y * 1117) = y * 1117 := IntWalk.i64_in _ (by omega)
    have u5 : IntKind.i64.wrap (x * 131 + y * 1117) = x * 131 + y * 1117 := IntWalk.i64_in _ (by omega)
    have u6 : IntKind.i64.wrap ((p : Int) * 7) = (p : Int) * 7 := IntWalk.i64_in _ (by omega)
    have u7 : IntKind.i64.wrap ((p : Int) * 7 + 3) = (p : Int) * 7 + 3 := IntWalk.i64_in _ (by omega)
    have u8 : IntKind.i64.wrap ((p : Int) * 29) = (p : Int) * 29 := IntWalk.i64_in _ (by omega)
    have u9 : IntKind.i64.wrap (x * 131 + y * 1117 + (p : Int) * 29) = x * 131 + y * 1117 + (p : Int) * 29 := IntWalk.i64_in _ (by omega)
    have v1 : IntKind.i64.wrap (q1 : Int) = q1 := IntWalk.i64_in _ (by omega)
    have v2 : IntKind.i64.wrap ((q1 : Int) * 53) = (q1 : Int) * 53 := IntWalk.i64_in _ (by omega)
    have v3 : IntKind.i64.wrap (x * 131 + y * 1117 + (p : Int) * 29 + (q1 : Int) * 53) = x * 131 + y * 1117 + (p : Int) * 29 + (q1 : Int) * 53 := IntWalk.i64_in _ (by omega)
    have m1 : (j1 : Int) < n := by omega
    have m2 : (j2 : Int) < n := by omega
    go_quiet (fail)
    clear t1 t2 t3 u1 u2 u3 u4 u5 u6 u7 u8 u9 v1 v2 v3
    go_wp2
    go_ret
    have hx0 := xor_nonneg (x * 131 + y * 1117 + ↑p * 29 + ↑q1 * 53) ((x * 131 + y * 1117 + ↑p * 29 + ↑q1 * 53) / 64) (by omega) (by omega)
    exact ⟨_, rfl, ⟨Int.tmod_nonneg _ hx0, fun _ => Int.tmod_lt_of_pos _ (by omega), by omega⟩, _, rfl⟩

/-- w' is w but for block g and new blocks -/
def Only (g : Nat) (w w' : World) : Prop := w.grownBy w' (some g)

theorem Only.refl (g : Nat) (w : World) : Only g w w := ⟨rfl, rfl, rfl, Nat.le_refl _, fun _ _ _ => rfl⟩
theorem Only.trans {g : Nat} {a b c : World} (h : Only g a b) (k : Only g b c) : Only g a c :=
  ⟨k.os.trans h.os, k.tape.trans h.tape, k.output.trans h.output, Nat.le_trans h.size k.size, fun i hi hn => (k.block i (Nat.lt_of_lt_of_le hi h.size) hn).trans (h.block i hi hn)⟩
theorem Only.drewN {g : Nat} {a w : World} (h : Only g a w) (n : Nat) : Only g a (w.drewN n) := ⟨h.os, h.tape, h.output, h.size, h.block⟩
theorem Only.drew {g : Nat} {a w : World} (h : Only g a w) : Only g a w.drew := ⟨h.os, h.tape, h.output, h.size, h.block⟩
theorem Only.alloc {g : Nat} {a w : World} (h : Only g a w) (o : Obj) : Only g a (w.alloc o) :=
  ⟨h.os, h.tape, h.output, Nat.le_trans h.size (by simp), fun i hi hne => (Below.heap_alloc w o i (Nat.lt_of_lt_of_le hi h.size)).trans (h.block i hi hne)⟩
theorem Only.setCell {g : Nat} {a w : World} (h : Only g a w) {p : Addr} (hp : p.block = g ∨ a.heap.size ≤ p.block) (u : Value) : Only g a (w.setCell p u) :=
  ⟨h.os, h.tape, h.output, by simpa [World.setCell] using h.size, fun i hi hne => (Below.heap_setCell w p u i (by
    rintro rfl
    rcases hp with hp | hp
    · exact hne (by rw [hp])
    · omega)).trans (h.block i hi hne)⟩
theorem Only.of_below {g : Nat} {a w : World} (h : Below a.heap.size a w) : Only g a w := ⟨h.os, h.tape, h.output, h.size, fun i hi _ => h.block i hi⟩
theorem Only.below {g B : Nat} {a w : World} (h : Only g a w) (h1 : B ≤ g) (h2 : B ≤ a.heap.size) : Below B a w :=
  ⟨h.os, h.tape, h.output, h.size, fun k hk => h.block k (by omega) (by simp; omega)⟩
theorem Only.cells {g : Nat} {W w1 : World} (h : Only g W w1) : (∀ b o, b < W.heap.size → b ≠ g → w1.cell? ⟨b, o, none⟩ = W.cell? ⟨b, o, none⟩) ∧ (∀ b o, b < W.heap.size → b ≠ g → w1.frozen? ⟨b, o, none⟩ = W.frozen? ⟨b, o, none⟩) :=
  ⟨fun b o hb hn => World.cell?_of_block (w := W) (h.block b hb (by simpa using hn)), fun b o hb hn => World.frozen?_of_block (w := W) (h.block b hb (by simpa using hn))⟩

/-- the reader at block g, somewhere: what every step of a draw keeps -/
def Rd (w : World) (g : Nat) (k : Nat) : Prop := ∃ A n c bs p, Rdr w g A n c bs p ∧ p ≤ k ∧ g < w.heap.size

theorem Rd.of_only {g k : Nat} {w w' : World} (h : Rd w g k) (hb : Below w.heap.size w w') : Rd w' g k := by
  obtain ⟨A, n, c, bs, p, ⟨h1, h2, h3, h4, h5⟩, hp, hg⟩ := h
  refine ⟨A, n, c, bs, p, ⟨(hb.block g hg).trans h1, h2, h3, h4, fun hn => ?_⟩, hp, Nat.lt_of_lt_of_le hg hb.size⟩
  obtain ⟨b, off, e, hlt, hc⟩ := h5 hn
  exact ⟨b, off, e, hlt, fun i hi => (hb.cell (p := ⟨b, off + i, none⟩) (by show b < _; omega)).trans (hc i hi)⟩

theorem Rd.mono {g k k' : Nat} {w : World} (h : Rd w g k) (hk : k ≤ k') : Rd w g k' := by
  obtain ⟨A, n, c, bs, p, h1, hp, hg⟩ := h
  exact ⟨A, n, c, bs, p, h1, by omega, hg⟩

theorem pick_rd (g k : Nat) (m : Int) (w : World) (h : Rd w g k) (hk : k ≤ 1000000) :
    Calls Try.prog 81 #[.pointer (some ⟨g, 0, none⟩), .int .i64 m] w fun e w' => ∃ v : Int, e = .returned (.int .i64 v) ∧ (0 ≤ v ∧ (1 ≤ m → v < m) ∧ (m < 1 → v = 0)) ∧ Rd w' g (k + 1) ∧ Only g w w' := by
  obtain ⟨A, n, c, bs, p, h1, hp, hg⟩ := h
  refine (pick_any g A n c bs p m w h1 (by omega)).mono ?_
  rintro e w' ⟨v, rfl, hv, q, rfl⟩
  obtain ⟨h1, h2, h3, h4, h5⟩ := h1
  refine ⟨v, rfl, hv, ⟨A, n, c, bs, p + 1, ⟨?_, h2, h3, h4, fun hn => ?_⟩, by omega, by simpa [World.drewN, World.setCell] using hg⟩, ((Only.refl g w).setCell (.inl rfl) _).drewN q⟩
  · show (w.setCell ⟨g, 1, none⟩ (.int .i64 (p + 1))).heap[g]? = _
    simp [World.setCell, Array.getElem?_modify, h1]
  · obtain ⟨b, off, e, hlt, hc⟩ := h5 hn
    refine ⟨b, off, e, hlt, fun i hi => ?_⟩
    show (w.setCell ⟨g, 1, none⟩ (.int .i64 (p + 1))).cell? _ = _
    rw [World.cell?_setCell_other _ _ _ _ (by intro hh; injection hh; omega)]
    exact hc i hi

theorem rd_new (A : Option Addr) (n c : Nat) (bs : List Int) (w : World) (hn : n ≤ 2000) (hl : n ≤ bs.length) (hbs : ∀ x ∈ bs, 0 ≤ x ∧ x ≤ 255)
    (hA : 0 < n → ∃ b off, A = some ⟨b, off, none⟩ ∧ b < w.heap.size ∧ ∀ i, i < n → w.cell? ⟨b, off + i, none⟩ = some (.int .u8 (bs.getD i 0))) :
    Rd (w.alloc (.cells #[.slice A n c, .int .i64 0] 93)) w.heap.size 0 := by
  refine ⟨A, n, c, bs.take n, 0, ⟨heap_alloc_new w _, hn, by simp; omega, fun x hx => hbs x (List.mem_of_mem_take hx), fun h0 => ?_⟩, Nat.le_refl _, by simp⟩
  obtain ⟨b, off, e, hlt, hc⟩ := hA h0
  refine ⟨b, off, e, hlt, fun i hi => ?_⟩
  rw [World.cell?_alloc_lt w _ ⟨b, off + i, none⟩ hlt, hc i hi]
  congr 2
  simp [List.getElem?_take, hi]

theorem newReader_any (A : Option Addr) (n c : Nat) (bs : List Int) (w : World) (hn : n ≤ c) (hc : c ≤ maxLen) (hl : bs.length = c) (hbs : ∀ x ∈ bs, 0 ≤ x ∧ x ≤ 255)
    (hA : 0 < n → ∃ b off, A = some ⟨b, off, none⟩ ∧ b < w.heap.size ∧ ∀ i, i < c → w.cell? ⟨b, off + i, none⟩ = some (.int .u8 (bs.getD i 0))) :
    Calls Try.prog 63 #[.slice A n c] w fun e w' => ∃ g, e = .returned (.pointer (some ⟨g, 0, none⟩)) ∧ w.heap.size ≤ g ∧ Rd w' g 0 ∧ Below w.heap.size w w' := by
  unfold maxLen at hc
  by_cases h : n ≤ 2000
  · have hr := rd_new A n c bs w h (by omega) hbs (fun h0 => by obtain ⟨b, off, e, h1, h2⟩ := hA h0; exact ⟨b, off, e, h1, fun i hi => h2 i (by omega)⟩)
    clear hA hl hbs
    have Hr := hide hr
    clear hr
    go_enter Try.func63, Try.ntmps63
    go_wp2
    go_ret
    exact ⟨_, rfl, Nat.le_refl _, Hr.out, by go_grown⟩
  · have hr := rd_new A 2000 c bs w (by omega) (by omega) hbs (fun h0 => by obtain ⟨b, off, e, h1, h2⟩ := hA (by omega); exact ⟨b, off, e, h1, fun i hi => h2 i (by omega)⟩)
    clear hA hl hbs
    have Hr := hide hr
    clear hr
    go_enter Try.func63, Try.ntmps63
    go_wp2
    go_ret
    exact ⟨_, rfl, Nat.le_refl _, Hr.out, by go_grown⟩

theorem one_any (g k : Nat) (b off n c : Nat) (xs : List Int) (w : World) (h : Rd w g k) (hk : k ≤ 1000000) (hn : 1 ≤ n) (hm : n ≤ 1000) (hbg : b ≠ g) (hlt : b < w.heap.size)
    (hc : ∀ i, i < n → w.cell? ⟨b, off + i, none⟩ = some (.int .i64 (xs.getD i 0))) :
    Calls Try.prog 80 #[.pointer (some ⟨g, 0, none⟩), .slice (some ⟨b, off, none⟩) n c] w fun e w' => ∃ i, i < n ∧ e = .returned (.int .i64 (xs.getD i 0)) ∧ Rd w' g (k + 1) ∧ Only g w w' := by
  go_enter Try.func80, Try.ntmps80
  go_wp2_with fail

  refine (pick_rd g k _ _ h hk).mono ?_
  rintro e w' ⟨v, rfl, hv, hr, ho⟩
  obtain ⟨i, rfl⟩ := Int.eq_ofNat_of_zero_le hv.1
  have hi : i < n := by have := hv.2.1 (by omega); omega
  have hci : w'.cell? ⟨b, off + i, none⟩ = some (.int .i64 (xs.getD i 0)) := (ho.cells.1 b _ hlt hbg).trans (hc i hi)
  clear hc hv
  go_wp2
  go_ret
  exact ⟨i, hi, rfl, hr, ho⟩
end Go.Proofs.Ytcalfblghblhcaa
