/-
  The draw of schemes (spec.someScheme): whatever it draws, it returns a scheme of at least one row, of small numbers, in memory of its own. Conditions: the reader.
-/
import Derived.Test.YtcalfblghblhcaaReader
import Derived.Test.YtcalfblghblhcaaThresh
import Derived.Test.YtcalfblghblhcaaOwn4
import Derived.Test.YtcalfblghblhcaaOwn5
import Derived.Test.YtcalfblghblhcaaSch2
import Derived.Deep.LoopGhost
namespace Go.Proofs.Ytcalfblghblhcaa
open Go.RowKit

/-- ints that can be read, in a block from lo on -/
def IntsL (w : World) (lo : Nat) (A : Option Addr) (n : Nat) (f : Nat → Int) : Prop :=
  0 < n → ∃ b off, A = some ⟨b, off, none⟩ ∧ (lo ≤ b ∧ b < w.heap.size) ∧ ∀ i, i < n → w.cell? ⟨b, off + i, none⟩ = some (.int .i64 (f i)) ∧ w.frozen? ⟨b, off + i, none⟩ = false
/-- rows that can be read, in blocks from lo on -/
def MatL (w : World) (lo : Nat) (A : Option Addr) (n : Nat) (L : Nat → Nat) (M : Nat → Nat → Int) : Prop :=
  0 < n → ∃ b off, A = some ⟨b, off, none⟩ ∧ (lo ≤ b ∧ b < w.heap.size) ∧ ∀ i, i < n → ∃ R C, w.cell? ⟨b, off + i, none⟩ = some (.slice R (L i) C) ∧ IntsL w lo R (L i) (M i)
/-- what was there from lo on is there still -/
structure KeepL (lo : Nat) (w w' : World) : Prop where
  size : w.heap.size ≤ w'.heap.size
  block : ∀ k, lo ≤ k → k < w.heap.size → w'.heap[k]? = w.heap[k]?
theorem KeepL.below {lo : Nat} {w w' : World} (h : Below w.heap.size w w') : KeepL lo w w' := ⟨h.size, fun k _ hk => h.block k hk⟩
theorem KeepL.only {lo g : Nat} {w w' : World} (h : Only g w w') (hg : g < lo) : KeepL lo w w' := ⟨h.size, fun k h1 hk => h.block k hk (by simp; omega)⟩
theorem KeepL.set_ {lo : Nat} {w : World} {p : Addr} (hp : p.block < lo) (v : Value) : KeepL lo w (w.setCell p v) := ⟨by simp [World.setCell], fun k h1 _ => Below.heap_setCell w p v k (by omega)⟩
theorem frozen_blk {w w' : World} {k o : Nat} (h : w'.heap[k]? = w.heap[k]?) : w'.frozen? ⟨k, o, none⟩ = w.frozen? ⟨k, o, none⟩ := by unfold World.frozen?; dsimp only; rw [h]
theorem cell_blk {w w' : World} {k o : Nat} (h : w'.heap[k]? = w.heap[k]?) : w'.cell? ⟨k, o, none⟩ = w.cell? ⟨k, o, none⟩ := by unfold World.cell?; dsimp only; rw [h]
theorem IntsL.keep {w w' : World} {lo n : Nat} {A : Option Addr} {f : Nat → Int} (h : IntsL w lo A n f) (k : KeepL lo w w') : IntsL w' lo A n f := fun h0 => by
  obtain ⟨b, off, e, hb, hc⟩ := h h0
  exact ⟨b, off, e, ⟨hb.1, Nat.lt_of_lt_of_le hb.2 k.size⟩, fun i hi => ⟨(cell_blk (k.block b hb.1 hb.2)).trans (hc i hi).1, (frozen_blk (k.block b hb.1 hb.2)).trans (hc i hi).2⟩⟩
theorem MatL.keep {w w' : World} {lo n : Nat} {A : Option Addr} {L : Nat → Nat} {M : Nat → Nat → Int} (h : MatL w lo A n L M) (k : KeepL lo w w') : MatL w' lo A n L M := fun h0 => by
  obtain ⟨b, off, e, hb, hc⟩ := h h0
  refine ⟨b, off, e, ⟨hb.1, Nat.lt_of_lt_of_le hb.2 k.size⟩, fun i hi => ?_⟩
  obtain ⟨R, C, h1, h3⟩ := hc i hi
  exact ⟨R, C, (cell_blk (k.block b hb.1 hb.2)).trans h1, h3.keep k⟩
theorem IntsL.mono {w : World} {lo lo' n : Nat} {A : Option Addr} {f : Nat → Int} (h : IntsL w lo A n f) (hl : lo' ≤ lo) : IntsL w lo' A n f := fun h0 => by
  obtain ⟨b, off, e, hb, hc⟩ := h h0
  exact ⟨b, off, e, by omega, hc⟩
theorem MatL.mono {w : World} {lo lo' n : Nat} {A : Option Addr} {L : Nat → Nat} {M : Nat → Nat → Int} (h : MatL w lo A n L M) (hl : lo' ≤ lo) : MatL w lo' A n L M := fun h0 => by
  obtain ⟨b, off, e, hb, hc⟩ := h h0
  refine ⟨b, off, e, by omega, fun i hi => ?_⟩
  obtain ⟨R, C, h1, h3⟩ := hc i hi
  exact ⟨R, C, h1, h3.mono hl⟩
theorem IntsL.ints {w : World} {lo n : Nat} {A : Option Addr} {f : Nat → Int} (h : IntsL w lo A n f) : Ints w w.heap.size A n f := fun h0 => by
  obtain ⟨b, off, e, hb, hc⟩ := h h0
  exact ⟨b, off, e, hb.2, fun i hi => (hc i hi).1⟩
theorem MatL.mat {w : World} {lo n : Nat} {A : Option Addr} {L : Nat → Nat} {M : Nat → Nat → Int} (h : MatL w lo A n L M) : Mat w w.heap.size A n L M := fun h0 => by
  obtain ⟨b, off, e, hb, hc⟩ := h h0
  refine ⟨b, off, e, hb.2, fun i hi => ?_⟩
  obtain ⟨R, C, h1, h3⟩ := hc i hi
  exact ⟨R, C, h1, h3.ints⟩
theorem IntsL.of_it {w : World} {lo hi n : Nat} {A : Option Addr} {f : Nat → Int} (h : IT w lo hi A n f) : IntsL w lo A n f := fun h0 => by
  rcases h with ⟨_, rfl⟩ | ⟨b, N, g, rfl, hb, hr, hn, hg⟩
  · omega
  · exact ⟨b, 0, rfl, ⟨hb.1, hr.lt⟩, fun i hi => ⟨by rw [Nat.zero_add, hr.cell (by omega), hg i hi], hr.frozen _⟩⟩
theorem MatL.of_st {w : World} {lo hi n m : Nat} {A O : Option Addr} {L : Nat → Nat} {M : Nat → Nat → Int} {f : Nat → Int} (h : ST w lo hi A n L M O m f) : MatL w lo A n L M := fun h0 => by
  obtain ⟨R, h1, _⟩ := h
  rcases h1 with ⟨_, rfl⟩ | ⟨b, N, g, C, rfl, hb, hr, hn, hg, _⟩
  · omega
  · exact ⟨b, 0, rfl, ⟨hb.1, hr.lt⟩, fun i hi => ⟨R i, C i, by rw [Nat.zero_add, hr.cell (by omega), (hg i hi).1], IntsL.of_it (hg i hi).2⟩⟩
theorem IntsL.of_st {w : World} {lo hi n m : Nat} {A O : Option Addr} {L : Nat → Nat} {M : Nat → Nat → Int} {f : Nat → Int} (h : ST w lo hi A n L M O m f) : IntsL w lo O m f := by
  obtain ⟨_, _, h2, _⟩ := h
  exact IntsL.of_it h2
/-- a number is written somewhere -/
theorem IntsL.set_ {w : World} {lo n : Nat} {A : Option Addr} {f : Nat → Int} (h : IntsL w lo A n f) {p : Addr} {u v : Int} (hp : w.cell? p = some (.int .i64 u)) : ∃ f', IntsL (w.setCell p (.int .i64 v)) lo A n f' := by
  by_cases h0 : 0 < n
  · obtain ⟨b, off, e, hb, hc⟩ := h h0
    have key : ∀ i, ∃ z : Int, i < n → (w.setCell p (.int .i64 v)).cell? ⟨b, off + i, none⟩ = some (.int .i64 z) ∧ (w.setCell p (.int .i64 v)).frozen? ⟨b, off + i, none⟩ = false := fun i => by
      by_cases hi : i < n
      · have hfz : (w.setCell p (.int .i64 v)).frozen? ⟨b, off + i, none⟩ = false := by rw [World.frozen?_setCell]; exact (hc i hi).2
        by_cases ep : p = ⟨b, off + i, none⟩
        · exact ⟨v, fun _ => ⟨by rw [← ep]; exact World.cell?_setCell_same _ _ _ hp, hfz⟩⟩
        · exact ⟨f i, fun _ => ⟨by rw [World.cell?_setCell_other _ _ _ _ ep]; exact (hc i hi).1, hfz⟩⟩
      · exact ⟨0, fun h => absurd h hi⟩
    obtain ⟨f', hf'⟩ := Classical.axiomOfChoice key
    exact ⟨f', fun _ => ⟨b, off, e, ⟨hb.1, by simpa [World.setCell] using hb.2⟩, hf'⟩⟩
  · exact ⟨f, fun hh => absurd hh h0⟩
theorem MatL.set_ {w : World} {lo n : Nat} {A : Option Addr} {L : Nat → Nat} {M : Nat → Nat → Int} (h : MatL w lo A n L M) {p : Addr} {u v : Int} (hp : w.cell? p = some (.int .i64 u)) : ∃ M', MatL (w.setCell p (.int .i64 v)) lo A n L M' := by
  by_cases h0 : 0 < n
  · obtain ⟨b, off, e, hb, hc⟩ := h h0
    have key : ∀ i, ∃ z : Nat → Int, i < n → ∃ R C, (w.setCell p (.int .i64 v)).cell? ⟨b, off + i, none⟩ = some (.slice R (L i) C) ∧ IntsL (w.setCell p (.int .i64 v)) lo R (L i) z := fun i => by
      by_cases hi : i < n
      · obtain ⟨R, C, h1, h3⟩ := hc i hi
        obtain ⟨z, hz⟩ := h3.set_ (v := v) hp
        refine ⟨z, fun _ => ⟨R, C, ?_, hz⟩⟩
        rw [World.cell?_setCell_other _ _ _ _ (by rintro rfl; rw [hp] at h1; cases h1)]
        exact h1
      · exact ⟨fun _ => 0, fun h => absurd h hi⟩
    obtain ⟨M', hM'⟩ := Classical.axiomOfChoice key
    exact ⟨M', fun _ => ⟨b, off, e, ⟨hb.1, by simpa [World.setCell] using hb.2⟩, hM'⟩⟩
  · exact ⟨M, fun hh => absurd hh h0⟩

/-- the bounds of a scheme drawn -/
structure SmOk (p : Int) (n m : Nat) (L : Nat → Nat) : Prop where
  hp : 0 ≤ p ∧ p ≤ 7
  hn : n ≤ 6
  hm : m ≤ 7
  hL : ∀ i, i < n → 1 ≤ L i ∧ L i ≤ 4
/-- a scheme drawn: at least one row, all from base on -/
structure Smx (w : World) (base : Nat) (p : Int) (A : Option Addr) (n c : Nat) (O : Option Addr) (m d : Nat) (L : Nat → Nat) (M : Nat → Nat → Int) (f : Nat → Int) : Prop where
  ok : SmOk p n m L
  cap : n ≤ c ∧ m ≤ d
  mat : MatL w base A n L M
  ints : IntsL w base O m f
def SmPost (g : Nat) (w : World) (e : Ending) (w' : World) : Prop :=
  ∃ p A n c O m d L M f, e = .returned (.agg #[.int .i64 p, .slice A n c, .slice O m d]) ∧ (1 ≤ n ∧ n ≤ m) ∧ Smx w' w.heap.size p A n c O m d L M f ∧ Rd w' g 100 ∧ Only g w w'

section
variable {w w' : World} {base base' S n c m d : Nat} {p : Int} {A O : Option Addr} {L : Nat → Nat} {M : Nat → Nat → Int} {f : Nat → Int}
theorem Smx.keep (h : Smx w base p A n c O m d L M f) (k : KeepL base w w') : Smx w' base p A n c O m d L M f := ⟨h.ok, h.cap, h.mat.keep k, h.ints.keep k⟩
theorem Smx.keepB (h : Smx w base p A n c O m d L M f) (k : Below w.heap.size w w') : Smx w' base p A n c O m d L M f := h.keep (KeepL.below k)
theorem Smx.mono {lo' : Nat} (h : Smx w base p A n c O m d L M f) (hl : lo' ≤ base) : Smx w lo' p A n c O m d L M f := ⟨h.ok, h.cap, h.mat.mono hl, h.ints.mono hl⟩
theorem Smx.put3 {a b e : Value} (h : Smx w base p A n c O m d L M f) (hS : S < base) : Smx (((w.setCell ⟨S, 0, none⟩ a).setCell ⟨S, 1, none⟩ b).setCell ⟨S, 2, none⟩ e) base p A n c O m d L M f :=
  ((h.keep (KeepL.set_ hS _)).keep (KeepL.set_ hS _)).keep (KeepL.set_ hS _)
theorem Smx.nil (w : World) (base : Nat) (hp : 0 ≤ p ∧ p ≤ 7) : Smx w base p none 0 0 none 0 0 (fun _ => 0) (fun _ _ => 0) (fun _ => 0) :=
  ⟨⟨hp, by omega, by omega, by simp⟩, ⟨Nat.le_refl _, Nat.le_refl _⟩, fun h => absurd h (by omega), fun h => absurd h (by omega)⟩
end
theorem Rd.keepB {w w' : World} {g k B : Nat} (h : Rd w g k) (hb : Below B w w') (hB : g < B) : Rd w' g k := by
  obtain ⟨A, n, c, bs, p, ⟨h1, h2, h3, h4, h5⟩, hp, hg⟩ := h
  refine ⟨A, n, c, bs, p, ⟨(hb.block g hB).trans h1, h2, h3, h4, fun hn => ?_⟩, hp, Nat.lt_of_lt_of_le hg hb.size⟩
  obtain ⟨b, off, e, hlt, hc⟩ := h5 hn
  exact ⟨b, off, e, hlt, fun i hi => (hb.cell (p := ⟨b, off + i, none⟩) (by show b < _; omega)).trans (hc i hi)⟩
theorem Only.then_ {g : Nat} {a b c : World} (h : Only g a b) (k : Below a.heap.size b c) : Only g a c :=
  ⟨k.os.trans h.os, k.tape.trans h.tape, k.output.trans h.output, Nat.le_trans h.size k.size, fun i hi hn => (k.block i hi).trans (h.block i hi hn)⟩
/-- inside the loop: x rows and owners of the call's own -/
structure SmL (w wx : World) (g S : Nat) (p : Int) (x : Nat) (A : Option Addr) (c : Nat) (R : List Sl) (O : Option Addr) (d : Nat) (xs : List Int) : Prop where
  sch : Sch wx (S + 1) wx.heap.size S p x A c R O d xs
  rows : ∀ r ∈ R, 1 ≤ r.xs.length ∧ r.xs.length ≤ 3
  rd : Rd wx g (7 + 4 * x)
  only : Only g w wx
  zero : Blk wx w.heap.size 29 #[.int .i64 0, .slice none 0 0, .slice none 0 0]
  lo : w.heap.size < S
/-- on the way: the scheme in block S, the reader, what was there -/
structure SmAt (w wx : World) (g k S : Nat) (p : Int) (A : Option Addr) (n c : Nat) (O : Option Addr) (m d : Nat) : Prop where
  rd : Rd wx g k
  only : Only g w wx
  zero : Blk wx w.heap.size 29 #[.int .i64 0, .slice none 0 0, .slice none 0 0]
  blk : Blk wx S 29 #[.int .i64 p, .slice A n c, .slice O m d]
  lo : w.heap.size < S

theorem Rd.set_ {w : World} {g k : Nat} (h : Rd w g k) {p : Addr} (hp : g < p.block) (u : Value) : Rd (w.setCell p u) g k := by
  obtain ⟨A, n, c, bs, q, ⟨h1, h2, h3, h4, h5⟩, hq, hg⟩ := h
  refine ⟨A, n, c, bs, q, ⟨(Below.heap_setCell w p u g (by omega)).trans h1, h2, h3, h4, fun hn => ?_⟩, hq, by simpa [World.setCell] using hg⟩
  obtain ⟨b, off, e, hlt, hc⟩ := h5 hn
  exact ⟨b, off, e, hlt, fun i hi => (World.cell?_setCell_other w p ⟨b, off + i, none⟩ u (by rintro rfl; simp at hp; omega)).trans (hc i hi)⟩
section
variable {w wx w' : World} {g k S n c m d : Nat} {p : Int} {A O : Option Addr}
theorem SmAt.far (h : SmAt w wx g k S p A n c O m d) (hr : Rd w' g (k + 1)) (ho : Only g wx w') (hg : g < w.heap.size) : SmAt w w' g (k + 1) S p A n c O m d :=
  ⟨hr, h.only.trans ho, (ho.block _ h.zero.lt (by simp; omega)).trans h.zero, (ho.block _ h.blk.lt (by have := h.lo; simp; omega)).trans h.blk, h.lo⟩
theorem SmAt.more {k' : Nat} (h : SmAt w wx g k S p A n c O m d) (hk : k ≤ k') : SmAt w wx g k' S p A n c O m d := ⟨h.rd.mono hk, h.only, h.zero, h.blk, h.lo⟩
theorem SmAt.below {w' : World} (h : SmAt w wx g k S p A n c O m d) (hb : Below wx.heap.size wx w') (hg : g < S) : SmAt w w' g k S p A n c O m d :=
  ⟨h.rd.of_only hb, h.only.trans (Only.of_below hb), h.zero.below hb h.zero.lt, h.blk.below hb h.blk.lt, h.lo⟩
theorem SmAt.put3 (h : SmAt w wx g k S p A n c O m d) (hg : g < S) (p' : Int) (A' : Option Addr) (n' c' : Nat) (O' : Option Addr) (m' d' : Nat) :
    SmAt w (((wx.setCell ⟨S, 0, none⟩ (.int .i64 p')).setCell ⟨S, 1, none⟩ (.slice A' n' c')).setCell ⟨S, 2, none⟩ (.slice O' m' d')) g k S p' A' n' c' O' m' d' := by
  have hlo := h.lo
  have hne : w.heap.size ≠ S := by omega
  refine ⟨((h.rd.set_ hg _).set_ hg _).set_ hg _, ((h.only.setCell (.inr (by dsimp only; omega)) _).setCell (.inr (by dsimp only; omega)) _).setCell (.inr (by dsimp only; omega)) _, ((h.zero.far hne _).far hne _).far hne _, ?_, h.lo⟩
  exact ((h.blk.set_ 0 _).set_ 1 _).set_ 2 _
theorem Outside.put3 (S : Nat) (w : World) (a b c : Value) : Outside S (S + 1) w (((w.setCell ⟨S, 0, none⟩ a).setCell ⟨S, 1, none⟩ b).setCell ⟨S, 2, none⟩ c) :=
  (((Outside.refl S (S + 1) w).set_ (p := ⟨S, 0, none⟩) ⟨Nat.le_refl S, Nat.lt_succ_self S⟩ a).set_ (p := ⟨S, 1, none⟩) ⟨Nat.le_refl S, Nat.lt_succ_self S⟩ b).set_ (p := ⟨S, 2, none⟩) ⟨Nat.le_refl S, Nat.lt_succ_self S⟩ c
theorem SmL.start (h : SmAt w wx g 7 S p none 0 0 none 0 0) : SmL w wx g S p 0 none 0 [] none 0 [] :=
  ⟨⟨h.blk, TabD.nil _ _ _, Row.nil _ _, by simp, by simp⟩, by simp, h.rd, h.only, h.zero, h.lo⟩
theorem Blk.keepG {w w' : World} {k g : Nat} {t : TypeId} {cs : Array Value} (h : Blk w k t cs) (ho : Only g w w') (hk : k ≠ g) : Blk w' k t cs := (ho.block k h.lt (by simp; omega)).trans h
theorem SmL.next {w wo w10 w11 : World} {g S x k1 c c1 c2 d d3 g2 : Nat} {p y : Int} {A A1 A2 O : Option Addr} {R : List Sl} {xs ys : List Int} {o : Obj} (h : SmL w wo g S p x A c R O d xs) (hgS : g < S) (hg : g < w.heap.size)
    (hs : Sch (w11.setCell ⟨S, 2, none⟩ (.slice (some ⟨g2, 0, none⟩) (x + 1) d3)) (S + 1) w11.heap.size S p (x + 1) A2 c2 (R ++ [⟨A1, c1, ys⟩]) (some ⟨g2, 0, none⟩) d3 (xs ++ [y])) (hl : ys.length = k1) (hk : 1 ≤ k1 ∧ k1 ≤ 3)
    (ho : Only g w w10) (hr : Rd w10 g (7 + 4 * (x + 1))) (hb : Below (S + 1) (w10.alloc o) w11) (hz : Blk w10 w.heap.size 29 #[.int .i64 0, .slice none 0 0, .slice none 0 0]) (hlo : w.heap.size < S) :
    SmL w (w11.setCell ⟨S, 2, none⟩ (.slice (some ⟨g2, 0, none⟩) (x + 1) d3)) g S p (x + 1) A2 c2 (R ++ [⟨A1, c1, ys⟩]) (some ⟨g2, 0, none⟩) d3 (xs ++ [y]) := by
  refine ⟨hs.mono (by simp [World.setCell]), fun r hr => ?_, ((hr.alloc _).keepB hb (by omega)).set_ hgS _, ((ho.alloc _).then_ (hb.mono (by omega))).setCell (.inr (by dsimp only; omega)) _, ((hz.alloc _).below hb (by omega)).far (by dsimp only; omega) _, hlo⟩
  · rw [List.mem_append, List.mem_singleton] at hr
    rcases hr with hr | rfl
    · exact h.rows r hr
    · dsimp only; omega
theorem SmL.done {w wx : World} {g S x c d : Nat} {p : Int} {A O : Option Addr} {R : List Sl} {xs : List Int} (h : SmL w wx g S p x A c R O d xs) (hp : 2 ≤ p ∧ p ≤ 7) (hx : x ≤ 6) (h1 : 1 ≤ x) :
    ∃ n A c O d L M f, SmAt w wx g 50 S p A n c O n d ∧ Smx wx (S + 1) p A n c O n d L M f ∧ 1 ≤ n := by
  have hst := ST.of_sch h.sch
  refine ⟨x, A, c, O, d, _, _, _, ⟨h.rd.mono (by omega), h.only, h.zero, h.sch.blk, h.lo⟩, ⟨⟨by omega, hx, by omega, fun i hi => ?_⟩, ⟨h.sch.tab.tab.cap, h.sch.own.cap⟩, MatL.of_st hst, IntsL.of_st hst⟩, h1⟩
  have hi' : i < R.length := by rw [h.sch.tab.tab.1]; exact hi
  simp only [List.getD, List.getElem?_eq_getElem hi', Option.getD_some]
  have := h.rows _ (List.getElem_mem hi')
  omega
theorem SmAt.pick (h : SmAt w wx g k S p A n c O m d) (hg : g < w.heap.size) (j : Int) (h1 : 1 ≤ j) (hk : k ≤ 1000) : Calls Try.prog 81 #[.pointer (some ⟨g, 0, none⟩), .int .i64 j] wx fun e w3 => ∃ v : Int, e = .returned (.int .i64 v) ∧ (0 ≤ v ∧ v < j) ∧ SmAt w w3 g (k + 1) S p A n c O m d := by
  refine (pick_rd g k j _ h.rd (by omega)).mono ?_
  rintro e w3 ⟨v, rfl, hv, hr3, ho3⟩
  exact ⟨v, rfl, by omega, h.far hr3 ho3 hg⟩
end
section
variable {w W : World} {g k S n c m d : Nat} {p : Int} {A O : Option Addr} {L : Nat → Nat} {M : Nat → Nat → Int} {f : Nat → Int}
theorem SmAt.put0 (h : SmAt w W g k S p A n c O m d) (hg : g < S) (p' : Int) : SmAt w (W.setCell ⟨S, 0, none⟩ (.int .i64 p')) g k S p' A n c O m d := by
  have hlo := h.lo
  exact ⟨h.rd.set_ hg _, h.only.setCell (.inr (by dsimp only; omega)) _, h.zero.far (by dsimp only; omega) _, h.blk.set_ 0 _, h.lo⟩
theorem SmAt.put2 (h : SmAt w W g k S p A n c O m d) (hg : g < S) (O' : Option Addr) (m' d' : Nat) : SmAt w (W.setCell ⟨S, 2, none⟩ (.slice O' m' d')) g k S p A n c O' m' d' := by
  have hlo := h.lo
  exact ⟨h.rd.set_ hg _, h.only.setCell (.inr (by dsimp only; omega)) _, h.zero.far (by dsimp only; omega) _, h.blk.set_ 2 _, h.lo⟩
/-- a number is written in a block behind the scheme's -/
theorem SmAt.putFar (h : SmAt w W g k S p A n c O m d) (hg : g < S) {q : Addr} (hq : S < q.block) (v : Value) : SmAt w (W.setCell q v) g k S p A n c O m d := by
  have hlo := h.lo
  exact ⟨h.rd.set_ (by omega) _, h.only.setCell (.inr (by omega)) _, h.zero.far (by omega) _, h.blk.far (by omega) _, h.lo⟩
theorem SmAt.drew (h : SmAt w W g k S p A n c O m d) : SmAt w W.drew g k S p A n c O m d := ⟨h.rd.drew, h.only.drew, h.zero, h.blk, h.lo⟩
theorem Smx.drew {base : Nat} (h : Smx W base p A n c O m d L M f) : Smx W.drew base p A n c O m d L M f := ⟨h.ok, h.cap, h.mat, h.ints⟩
theorem SmAt.post (h : SmAt w W g k S p A n c O m d) (hs : Smx W (S + 1) p A n c O m d L M f) (hk : k ≤ 100) (h1 : 1 ≤ n ∧ n ≤ m) (hg : g < w.heap.size) :
    SmPost g w (.returned (.agg #[.int .i64 p, .slice A n c, .slice O m d])) (((W.setCell ⟨w.heap.size, 0, none⟩ (.int .i64 p)).setCell ⟨w.heap.size, 1, none⟩ (.slice A n c)).setCell ⟨w.heap.size, 2, none⟩ (.slice O m d)) := by
  have hlo := h.lo
  exact ⟨p, A, n, c, O, m, d, L, M, f, rfl, h1, (hs.put3 (by omega)).mono (by omega), (((h.rd.set_ hg _).set_ hg _).set_ hg _).mono hk, ((h.only.setCell (.inr (Nat.le_refl _)) _).setCell (.inr (Nat.le_refl _)) _).setCell (.inr (Nat.le_refl _)) _⟩
end
theorem IntsL.of_row {w : World} {base lo n c : Nat} {A : Option Addr} {xs : List Int} (h : Row w base A n c xs) (hl : lo ≤ base) : IntsL w lo A n (fun i => xs.getD i 0) := (IntsL.of_it (IT.of_row h)).mono hl

theorem nameY {E : Act → World → Prop} {a : Act} {W : World} (F : World → Prop) (h : F W) (k : ∀ w, F w → E a w) : E a W := k W h
theorem thPost_sm {p n k : Int} {w : World} (h : Calls Try.prog 82 #[.int .i64 p, .int .i64 n, .int .i64 k] w (ThPost p n k w)) :
    Calls Try.prog 82 #[.int .i64 p, .int .i64 n, .int .i64 k] w fun e w' => ∃ A c O d N P b, e = .returned (.tuple #[.agg #[.int .i64 P, .slice A N c, .slice O N d], .bool b]) ∧ Below w.heap.size w w' ∧ (b = true → P = p ∧ 1 ≤ N ∧ ∃ L M f, Smx w' w.heap.size p A N c O N d L M f) := by
  refine h.mono ?_
  rintro e w' ⟨A, c, O, d, rfl, ⟨L, M, f, hst, hval, hc1, hc2⟩, hb⟩
  refine ⟨A, c, O, d, _, _, _, rfl, hb, fun hin => ?_⟩
  obtain ⟨h1, h2, h3⟩ := th_bd hin
  have e1 : thP p n k = p := by simp [thP, hin]
  have e2 : thN p n k = n.toNat := by simp [thN, hin]
  refine ⟨e1, by omega, L, M, f, ⟨⟨by omega, by omega, by omega, fun i hi => ?_⟩, ⟨hc1, hc2⟩, MatL.of_st hst, IntsL.of_st hst⟩⟩
  rw [(hval i hi).1, thL]; omega

set_option maxHeartbeats 2000000 in
set_option maxRecDepth 100000 in
theorem someScheme_any (g : Nat) (w : World) (h : Rd w g 0) :
    Calls Try.prog 64 #[.pointer (some ⟨g, 0, none⟩)] w (SmPost g w) := by
  have hg := h.lt
  have H := hide h
  clear h
  go_enter Try.func64, Try.ntmps64
  go_wp2_with fail
  refine (one_any g 0 (w.heap.size + 1) 0 6 6 [2, 3, 5, 7, 2, 3] _ ((H.out.alloc _).alloc _) (by omega) (by omega) (by omega) (by omega) (by simp) (fun i hi => ?_)).mono ?_
  · rw [cell_of_row _ _ _ _ _ _ (by exact (Blk.newAt (by simp) _ _))]
    match i, hi with
    | 0, _ => rfl
    | 1, _ => rfl
    | 2, _ => rfl
    | 3, _ => rfl
    | 4, _ => rfl
    | 5, _ => rfl
  rintro e w1 ⟨i, hi, rfl, hr1, ho1⟩
  obtain ⟨p, hp⟩ : ∃ p, p = [2, 3, 5, 7, 2, 3].getD i (0 : Int) := ⟨_, rfl⟩
  have hp2 : (2 ≤ p ∧ p - 1 < 5) ∨ (5 < p - 1 ∧ p ≤ 7) := by
    subst hp
    match i, hi with
    | 0, _ => decide
    | 1, _ => decide
    | 2, _ => decide
    | 3, _ => decide
    | 4, _ => decide
    | 5, _ => decide
  rw [← hp]
  clear hp hi
  have O1 : Only g w w1 := (((Only.refl g w).alloc _).alloc _).trans ho1
  have Z1 : Blk w1 w.heap.size 29 #[.int .i64 0, .slice none 0 0, .slice none 0 0] := (ho1.block _ (by simp; omega) (by simp; omega)).trans ((Blk.newAt rfl _ _).alloc _)
  have hz1 : w.heap.size < w1.heap.size := by have := ho1.size; simp at this; omega
  have A1 : SmAt w (w1.alloc (.cells #[.int .i64 p, .slice none 0 0, .slice none 0 0] 29)) g 1 w1.heap.size p none 0 0 none 0 0 :=
    ⟨hr1.alloc _, O1.alloc _, Z1.alloc _, Blk.newAt rfl _ _, hz1⟩
  have HA := hide A1
  clear A1 Z1 O1 hr1 ho1
  go_wp2_with fail
  refine (pick_rd g 1 3 _ HA.out.rd (by omega)).mono ?_
  rintro e w2 ⟨v, rfl, hv, hr2, ho2⟩
  obtain ⟨S, hS⟩ : ∃ S, S = w1.heap.size := ⟨_, rfl⟩
  rw [← hS]
  have hz2 : S < w2.heap.size := by have := ho2.size; simp at this; omega
  have A2 : SmAt w w2 g 2 S p none 0 0 none 0 0 := by
    have a := HA.out
    rw [← hS] at a
    exact ⟨hr2, a.only.trans ho2, (ho2.block _ a.zero.lt (by simp; omega)).trans a.zero, (ho2.block _ a.blk.lt (by simp; omega)).trans a.blk, a.lo⟩
  clear HA ho2 hr2 hS hz1
  have hgS : g < S := by have := A2.lo; omega
  have HA := hide A2
  clear A2
  go_upto_if 19 with (fail)
  go_cut [] (fun wx => ∃ n A c O d L M f, SmAt w wx g 5 S p A n c O n d ∧ Smx wx (S + 1) p A n c O n d L M f ∧ (n = 0 → A = none ∧ c = 0 ∧ O = none ∧ d = 0))
  case first =>
    by_cases hv0 : v = 0
    · subst hv0
      clear hv
      have KEY := hide (fun m h1 h5 => HA.out.pick hg m h1 h5)
      rcases hp2 with ⟨h2, h5⟩ | ⟨h5, h7⟩
      · go_wp2_with fail
        refine (KEY.out _ (by omega) (by omega)).mono ?_
        rintro e w3 ⟨v4, rfl, hv4, hA3⟩
        have HA3 := hide hA3
        have KEY2 := hide (fun m h1 h5 => HA3.out.pick hg m h1 h5)
        have KT := hide (fun (v5 : Int) (W : World) => thPost_sm (ThresholdOfS_any p (1 + v4) (1 + v5) W))
        clear hA3
        have h6 : 1 + v4 < 4 ∨ 4 < 1 + v4 ∨ 1 + v4 = 4 := by omega
        rcases h6 with h6 | h6 | h6
        · go_wp2_with fail
          refine (KEY2.out _ (by omega) (by omega)).mono ?_
          rintro e w4 ⟨v5, rfl, hv5, hA4⟩
          have HA4 := hide hA4
          clear hA4
          go_wp2_with fail
          refine (thPost_sm (ThresholdOfS_any p _ _ _)).mono ?_
          rintro e w5 ⟨A, c, O, d, N, P, b, rfl, hb5, hok⟩
          have A5 := (HA4.out.below hb5 hgS).more (k' := 5) (by omega)
          have e5 := hb5.size
          have hz5 : S < w5.heap.size := A5.blk.lt
          cases b
          · have HA5 := hide A5
            clear A5 hok
            go_wp2_with fail
            go_meet
            exact ⟨0, none, 0, none, 0, fun _ => 0, fun _ _ => 0, fun _ => 0, HA5.out.below (Below.alloc (Below.refl _ _) (Nat.le_refl _) _) hgS, Smx.nil _ _ (by omega), fun _ => ⟨rfl, rfl, rfl, rfl⟩⟩
          · obtain ⟨rfl, hN, L, M, f, hst⟩ := hok rfl
            have x0 := A5.blk.at_ (i := 0) rfl
            have x1 := A5.blk.at_ (i := 1) rfl
            have x2 := A5.blk.at_ (i := 2) rfl
            have y0 := A5.blk.frozen 0
            have y1 := A5.blk.frozen 1
            have y2 := A5.blk.frozen 2
            have HA5 := hide A5
            have HST := hide hst
            have hz4 : S < w4.heap.size := HA4.out.blk.lt
            clear A5 hst
            go_wp2_with fail
            go_meet
            exact ⟨N, A, c, O, d, L, M, f, (HA5.out.put3 hgS P A N c O N d).below (Below.alloc (Below.refl _ _) (Nat.le_refl _) _) hgS, ((HST.out.mono (lo' := S + 1) (by omega)).put3 (by omega)).keepB (Below.alloc (Below.refl _ _) (Nat.le_refl _) _), fun e => absurd e (by omega)⟩
        · exfalso; omega
        · obtain rfl : v4 = 3 := by omega
          go_wp2_with fail
          refine (KEY2.out _ (by omega) (by omega)).mono ?_
          rintro e w4 ⟨v5, rfl, hv5, hA4⟩
          have HA4 := hide hA4
          clear hA4
          go_wp2_with fail
          refine (thPost_sm (ThresholdOfS_any p _ _ _)).mono ?_
          rintro e w5 ⟨A, c, O, d, N, P, b, rfl, hb5, hok⟩
          have A5 := (HA4.out.below hb5 hgS).more (k' := 5) (by omega)
          have e5 := hb5.size
          have hz5 : S < w5.heap.size := A5.blk.lt
          cases b
          · have HA5 := hide A5
            clear A5 hok
            go_wp2_with fail
            go_meet
            exact ⟨0, none, 0, none, 0, fun _ => 0, fun _ _ => 0, fun _ => 0, HA5.out.below (Below.alloc (Below.refl _ _) (Nat.le_refl _) _) hgS, Smx.nil _ _ (by omega), fun _ => ⟨rfl, rfl, rfl, rfl⟩⟩
          · obtain ⟨rfl, hN, L, M, f, hst⟩ := hok rfl
            have x0 := A5.blk.at_ (i := 0) rfl
            have x1 := A5.blk.at_ (i := 1) rfl
            have x2 := A5.blk.at_ (i := 2) rfl
            have y0 := A5.blk.frozen 0
            have y1 := A5.blk.frozen 1
            have y2 := A5.blk.frozen 2
            have HA5 := hide A5
            have HST := hide hst
            have hz4 : S < w4.heap.size := HA4.out.blk.lt
            clear A5 hst
            go_wp2_with fail
            go_meet
            exact ⟨N, A, c, O, d, L, M, f, (HA5.out.put3 hgS P A N c O N d).below (Below.alloc (Below.refl _ _) (Nat.le_refl _) _) hgS, ((HST.out.mono (lo' := S + 1) (by omega)).put3 (by omega)).keepB (Below.alloc (Below.refl _ _) (Nat.le_refl _) _), fun e => absurd e (by omega)⟩
      · go_wp2_with fail
        refine (KEY.out _ (by omega) (by omega)).mono ?_
        rintro e w3 ⟨v4, rfl, hv4, hA3⟩
        have HA3 := hide hA3
        have KEY2 := hide (fun m h1 h5 => HA3.out.pick hg m h1 h5)
        have KT := hide (fun (v5 : Int) (W : World) => thPost_sm (ThresholdOfS_any p (1 + v4) (1 + v5) W))
        clear hA3
        have h6 : 1 + v4 < 4 ∨ 4 < 1 + v4 ∨ 1 + v4 = 4 := by omega
        rcases h6 with h6 | h6 | h6
        · go_wp2_with fail
          refine (KEY2.out _ (by omega) (by omega)).mono ?_
          rintro e w4 ⟨v5, rfl, hv5, hA4⟩
          have HA4 := hide hA4
          clear hA4
          go_wp2_with fail
          refine (thPost_sm (ThresholdOfS_any p _ _ _)).mono ?_
          rintro e w5 ⟨A, c, O, d, N, P, b, rfl, hb5, hok⟩
          have A5 := (HA4.out.below hb5 hgS).more (k' := 5) (by omega)
          have e5 := hb5.size
          have hz5 : S < w5.heap.size := A5.blk.lt
          cases b
          · have HA5 := hide A5
            clear A5 hok
            go_wp2_with fail
            go_meet
            exact ⟨0, none, 0, none, 0, fun _ => 0, fun _ _ => 0, fun _ => 0, HA5.out.below (Below.alloc (Below.refl _ _) (Nat.le_refl _) _) hgS, Smx.nil _ _ (by omega), fun _ => ⟨rfl, rfl, rfl, rfl⟩⟩
          · obtain ⟨rfl, hN, L, M, f, hst⟩ := hok rfl
            have x0 := A5.blk.at_ (i := 0) rfl
            have x1 := A5.blk.at_ (i := 1) rfl
            have x2 := A5.blk.at_ (i := 2) rfl
            have y0 := A5.blk.frozen 0
            have y1 := A5.blk.frozen 1
            have y2 := A5.blk.frozen 2
            have HA5 := hide A5
            have HST := hide hst
            have hz4 : S < w4.heap.size := HA4.out.blk.lt
            clear A5 hst
            go_wp2_with fail
            go_meet
            exact ⟨N, A, c, O, d, L, M, f, (HA5.out.put3 hgS P A N c O N d).below (Below.alloc (Below.refl _ _) (Nat.le_refl _) _) hgS, ((HST.out.mono (lo' := S + 1) (by omega)).put3 (by omega)).keepB (Below.alloc (Below.refl _ _) (Nat.le_refl _) _), fun e => absurd e (by omega)⟩
        · go_wp2_with fail
          refine (KEY2.out _ (by omega) (by omega)).mono ?_
          rintro e w4 ⟨v5, rfl, hv5, hA4⟩
          have HA4 := hide hA4
          clear hA4
          go_wp2_with fail
          refine (thPost_sm (ThresholdOfS_any p _ _ _)).mono ?_
          rintro e w5 ⟨A, c, O, d, N, P, b, rfl, hb5, hok⟩
          have A5 := (HA4.out.below hb5 hgS).more (k' := 5) (by omega)
          have e5 := hb5.size
          have hz5 : S < w5.heap.size := A5.blk.lt
          cases b
          · have HA5 := hide A5
            clear A5 hok
            go_wp2_with fail
            go_meet
            exact ⟨0, none, 0, none, 0, fun _ => 0, fun _ _ => 0, fun _ => 0, HA5.out.below (Below.alloc (Below.refl _ _) (Nat.le_refl _) _) hgS, Smx.nil _ _ (by omega), fun _ => ⟨rfl, rfl, rfl, rfl⟩⟩
          · obtain ⟨rfl, hN, L, M, f, hst⟩ := hok rfl
            have x0 := A5.blk.at_ (i := 0) rfl
            have x1 := A5.blk.at_ (i := 1) rfl
            have x2 := A5.blk.at_ (i := 2) rfl
            have y0 := A5.blk.frozen 0
            have y1 := A5.blk.frozen 1
            have y2 := A5.blk.frozen 2
            have HA5 := hide A5
            have HST := hide hst
            have hz4 : S < w4.heap.size := HA4.out.blk.lt
            clear A5 hst
            go_wp2_with fail
            go_meet
            exact ⟨N, A, c, O, d, L, M, f, (HA5.out.put3 hgS P A N c O N d).below (Below.alloc (Below.refl _ _) (Nat.le_refl _) _) hgS, ((HST.out.mono (lo' := S + 1) (by omega)).put3 (by omega)).keepB (Below.alloc (Below.refl _ _) (Nat.le_refl _) _), fun e => absurd e (by omega)⟩
        · obtain rfl : v4 = 3 := by omega
          go_wp2_with fail
          refine (KEY2.out _ (by omega) (by omega)).mono ?_
          rintro e w4 ⟨v5, rfl, hv5, hA4⟩
          have HA4 := hide hA4
          clear hA4
          go_wp2_with fail
          refine (thPost_sm (ThresholdOfS_any p _ _ _)).mono ?_
          rintro e w5 ⟨A, c, O, d, N, P, b, rfl, hb5, hok⟩
          have A5 := (HA4.out.below hb5 hgS).more (k' := 5) (by omega)
          have e5 := hb5.size
          have hz5 : S < w5.heap.size := A5.blk.lt
          cases b
          · have HA5 := hide A5
            clear A5 hok
            go_wp2_with fail
            go_meet
            exact ⟨0, none, 0, none, 0, fun _ => 0, fun _ _ => 0, fun _ => 0, HA5.out.below (Below.alloc (Below.refl _ _) (Nat.le_refl _) _) hgS, Smx.nil _ _ (by omega), fun _ => ⟨rfl, rfl, rfl, rfl⟩⟩
          · obtain ⟨rfl, hN, L, M, f, hst⟩ := hok rfl
            have x0 := A5.blk.at_ (i := 0) rfl
            have x1 := A5.blk.at_ (i := 1) rfl
            have x2 := A5.blk.at_ (i := 2) rfl
            have y0 := A5.blk.frozen 0
            have y1 := A5.blk.frozen 1
            have y2 := A5.blk.frozen 2
            have HA5 := hide A5
            have HST := hide hst
            have hz4 : S < w4.heap.size := HA4.out.blk.lt
            clear A5 hst
            go_wp2_with fail
            go_meet
            exact ⟨N, A, c, O, d, L, M, f, (HA5.out.put3 hgS P A N c O N d).below (Below.alloc (Below.refl _ _) (Nat.le_refl _) _) hgS, ((HST.out.mono (lo' := S + 1) (by omega)).put3 (by omega)).keepB (Below.alloc (Below.refl _ _) (Nat.le_refl _) _), fun e => absurd e (by omega)⟩
    · go_wp2_with fail
      go_meet
      exact ⟨0, none, 0, none, 0, fun _ => 0, fun _ _ => 0, fun _ => 0, HA.out.more (by omega), Smx.nil _ _ (by omega), fun _ => ⟨rfl, rfl, rfl, rfl⟩⟩
  case rest =>
    obtain ⟨n, A, c, O, d, L, M, f, hA, hst, hnil⟩ := hcut
    obtain ⟨wd, rfl⟩ : ∃ x, x = wc := ⟨_, rfl⟩
    have x1 : wd.cell? ⟨S, 1, none⟩ = some (.slice A n c) := hA.blk.at_ (i := 1) rfl
    have HA := hide hA
    have HST := hide hst
    have HN := hide hnil
    have hzd : S < wd.heap.size := hA.blk.lt
    have hp7 : 2 ≤ p ∧ p ≤ 7 := by omega
    clear hA hst hnil hz2 hv
    go_upto_if 42 with (fail)
    go_cut [] (fun wx => ∃ n A c O d L M f, SmAt w wx g 50 S p A n c O n d ∧ Smx wx (S + 1) p A n c O n d L M f ∧ 1 ≤ n)
    case first =>
      by_cases hn0 : n = 0
      · subst hn0
        obtain ⟨rfl, rfl, rfl, rfl⟩ := HN.out rfl
        have KEY := hide (fun j h1 => HA.out.pick hg j h1 (by omega))
        clear HN HST
        go_wp2_with fail
        refine (KEY.out _ (by omega)).mono ?_
        rintro e w6 ⟨v6, rfl, hv6, hA6⟩
        obtain ⟨a, rfl⟩ := Int.eq_ofNat_of_zero_le hv6.1
        have HA6 := hide hA6
        have KEY6 := hide (fun j h1 => HA6.out.pick hg j h1 (by omega))
        clear hA6
        go_wp2_with fail
        refine (KEY6.out _ (by omega)).mono ?_
        rintro e w7 ⟨v7, rfl, hv7, hA7⟩
        obtain ⟨b, rfl⟩ := Int.eq_ofNat_of_zero_le hv7.1
        have HA7 := hide hA7
        have z7 := hA7.blk.lt
        clear hA7
        go_wp2_with fail
        go_loopg [10] (b + 3) (fun gk v wr => ∃ (x : Nat) (A : Option Addr) (c : Nat) (R : List Sl) (O : Option Addr) (d : Nat) (xs : List Int), x ≤ b + 1 ∧ b + 1 < gk + x ∧ SmL w wr g S p x A c R O d xs)
        case atStart => exact ⟨0, none, 0, [], none, 0, [], by omega, by omega, SmL.start HA7.out⟩
        case round =>
          obtain ⟨x, A, c, R, O, d, xs, hx, hgk, hs⟩ := hrel
          obtain ⟨wo, rfl⟩ : ∃ q, q = wr := ⟨_, rfl⟩
          have s1 : wo.cell? ⟨S, 1, none⟩ = some (.slice A x c) := hs.sch.blk.at_ (i := 1) rfl
          have hlt0 : S < wo.heap.size := hs.sch.blk.lt
          have HS := hide hs
          have HGK := hide hgk
          clear hs hgk
          by_cases hlt : x < b + 1
          · have hlt' : (x : Int) < 1 + (b : Int) := by omega
            go_wp2_with fail
            go_loopw [10, 11] (fun v i wr => ∃ (j : Nat) (A1 : Option Addr) (c1 : Nat) (ys : List Int), j ≤ a + 1 ∧ i = .int .i64 j ∧ v = .slice A1 j c1 ∧ Row wr wo.heap.size A1 j c1 ys ∧ (∀ y ∈ ys, 0 ≤ y ∧ y ≤ 6) ∧ Rd wr g (7 + 4 * x + j) ∧ Only g wo wr) (fun _ i _ => a + 1 - (intOf i).toNat)
            case atStart => exact ⟨0, _, _, [], by omega, rfl, rfl, Row.lit (xs := []) rfl rfl (Nat.le_refl _), by simp, HS.out.rd.alloc _, (Only.refl _ _).alloc _⟩
            case round =>
              obtain ⟨j, A1, c1, ys, hj, rfl, rfl, hrow, hys, hrd, hon⟩ := hrel
              have Hrow := hide hrow
              have HYS := hide hys
              have HON := hide hon
              have hzi : wo.heap.size ≤ wr.heap.size := hon.size
              have HRD := hide hrd
              have HPK := hide (fun (m : Int) (h1 : 1 ≤ m) => pick_rd g (7 + 4 * x + j) m wr hrd (by omega))
              clear hrow hys hon hrd
              by_cases hlj : j < a + 1
              · have hlj' : (j : Int) < 1 + (a : Int) := by omega
                go_wp2_with fail
                refine (HPK.out p (by omega)).mono ?_
                rintro e w8 ⟨y, rfl, hy, hr8, ho8⟩
                have hrow8 := hide (Hrow.out.keepG ho8 (by omega))
                have hz8 : wr.heap.size ≤ w8.heap.size := ho8.size
                have HO8 := hide (HON.out.trans ho8)
                have HR8 := hide hr8
                clear hr8 ho8
                go_wp2_with (at_builtin; refine push_int rfl _ _ rfl ys rfl hrow8.out y _ rfl (by omega) (by omega) ?_; intro A2 c2 w9 hr2 hb2 hg2 hat2)
                have HF := hide (show _ ∧ _ from ⟨hr2, hb2⟩)
                clear hr2 hb2 hg2 hat2
                go_roundw
                case rel =>
                  exact ⟨j + 1, A2, c2, _, by omega, by go_num, rfl, HF.out.1, (by
                    intro q hq
                    rw [List.mem_append, List.mem_singleton] at hq
                    rcases hq with hq | rfl
                    · exact HYS.out q hq
                    · omega), HR8.out.keepB HF.out.2 (by omega), HO8.out.then_ HF.out.2⟩
                case measure => simp [intOf]; omega
              · obtain rfl : j = a + 1 := by omega
                have HS1 := hide (HS.out.sch.keepG HON.out hgS (by omega))
                have HZ1 := hide (show Blk wr w.heap.size 29 #[.int .i64 0, .slice none 0 0, .slice none 0 0] from (HON.out.block w.heap.size (by have := HS.out.zero.lt; omega) (by have := HS.out.lo; simp; omega)).trans HS.out.zero)
                have HON1 := hide (HS.out.only.trans HON.out)
                have hlo := HS.out.lo
                have hS := HS1.out.blk
                have s1 := hS.at_ (i := 1) rfl
                have hlt1 := hS.lt
                clear hS
                go_upto_region 18 with (at_builtin; refine push_row rfl _ _ rfl R rfl HS1.out.tab.tab A1 (a + 1) c1 ys (Hrow.out.mono (by omega)) _ rfl (by omega) (by omega) ?_; intro A2 c2 w9 ht2 hb2 hg2 hat2; obtain ⟨k1, k2, k3⟩ := HS1.out.row (n1 := a + 1) ht2 hb2 hg2; have s1' := k3.at_ (i := 1) rfl; have f1 := k3.frozen 1; have z2 := hb2.size; have hbl9 := k3.lt; have HF := hide (show _ ∧ _ ∧ _ from ⟨ht2, hb2, hg2⟩); clear k1 k2 k3 ht2 hb2 hg2 hat2)
                refine nameCode (fun wx => Sch2 wx (S + 1) w9.heap.size S p (x + 1) A2 c2 (R ++ [⟨A1, c1, ys⟩]) x O d xs ∧ Rd wx g (7 + 4 * x + (a + 1)) ∧ Only g w wx ∧ Blk wx w.heap.size 29 #[.int .i64 0, .slice none 0 0, .slice none 0 0] ∧ w9.heap.size ≤ wx.heap.size) ⟨Sch2.of_row HS1.out Hrow.out HF.out.1 HF.out.2.1 HF.out.2.2 (by omega), (HRD.out.keepB HF.out.2.1 (by omega)).set_ hgS _, (HON1.out.of_grown HF.out.2.2 (fun q hq => by have := (HS1.out.tab.tab.blk q hq).1; omega)).setCell (.inr (by dsimp only; omega)) _, (HZ1.out.below HF.out.2.1 (by omega)).far (by dsimp only; omega) _, by simp [World.setCell]⟩ ?_
                rintro wx ⟨hsc, hrx, hox, hzx, zx⟩
                have s2 := hsc.blk.at_ (i := 2) rfl
                have HSC := hide hsc
                have HRX := hide hrx
                have HOX := hide hox
                have HZX := hide hzx
                have hltx := hsc.blk.lt
                clear hsc hrx hox hzx s1' f1 s1
                go_region_law (first | (refine step_push_int2 rfl (.tmp 73) (.tmp 76) rfl xs rfl (Row.alloc HS10.out.own _) y rfl (heap_alloc_new _ _) (by omega) (by simp; omega) ?_; intro g2 c3 w11 hr3 hb3 hg3 hat3; obtain ⟨hsc3, kb3⟩ := HS10.out.owner_lit hr3 hg3 hat3 (by omega); have s4 := kb3.at_ (i := 2) rfl; have f4 := kb3.frozen 2; have z11 := hb3.size; have HSC3 := hide hsc3; have HB3 := hide hb3; have hl11 := kb3.lt; clear hsc3 kb3 hr3 hb3 hg3 hat3) | (go_simp; go_at_call 81; refine (pick_rd g _ 5 _ HRX.out.drew (by omega)).mono ?_; rintro e w10 ⟨y, rfl, hy, hr10, ho10⟩; have HS10 := hide (HSC.out.drew.keepG ho10 hgS (by omega)); have s3 := HS10.out.blk.at_ (i := 2) rfl; have z10 : wx.heap.size ≤ w10.heap.size := ho10.size; have hl10 : S < w10.heap.size := HS10.out.blk.lt; have HO10 := hide (show Only g wx w10 from ⟨ho10.os, ho10.tape, ho10.output, ho10.size, ho10.block⟩); have HR10 := hide hr10; clear hr10 ho10))
                all_goals
                  go_wp2_with fail
                  go_roundg (b + 1 - x)
                  case measure => have := HGK.out; omega
                  case rel => exact ⟨x + 1, A2, c2, _, _, c3, _, by omega, by omega, SmL.next HS.out hgS hg HSC3.out Hrow.out.1 (by omega) (HOX.out.trans HO10.out) (HR10.out.mono (by omega)) HB3.out (HZX.out.keepG HO10.out (by omega)) (by omega)⟩
          · obtain rfl : x = b + 1 := by omega
            go_wp2_with fail
            go_meet
            exact SmL.done HS.out hp7 (by omega) (by omega)
      · have hn1 : ((n : Int) == 0) = false := by simp; omega
        go_wp2_with fail
        go_meet
        exact ⟨n, A, c, O, d, L, M, f, HA.out.more (by omega), HST.out, by omega⟩
    case rest =>
      obtain ⟨n, A, c, O, d, L, M, f, hA, hs, h1n⟩ := hcut
      have HA := hide hA
      have HS := hide hs
      obtain ⟨we, rfl⟩ : ∃ x, x = wc := ⟨_, rfl⟩
      have hlow := hA.lo
      have hn6 := hs.ok.hn
      clear hA hs
      go_wp2_with fail
      refine (pick_rd g 50 40 _ HA.out.rd (by omega)).mono ?_
      rintro e w3 ⟨v, rfl, hv, hr3, ho3⟩
      have HA3 := hide (HA.out.far hr3 ho3 hg)
      have HS3 := hide (HS.out.keep (KeepL.only ho3 (by omega)))
      have z3 := HA3.out.blk.lt
      clear hr3 ho3 HA HS hv
      by_cases v0 : v = 0
      · subst v0
        go_wp2_with fail
        refine (one_lit g 51 [4, 0] _ 2 2 w3 _ HA3.out.rd rfl rfl (by omega) (by omega) (by omega)).mono ?_
        rintro e w4 ⟨y, hy, rfl, hr4, ho4⟩
        have HA4 := hide (HA3.out.far hr4 ho4 hg)
        have HS4 := hide (HS3.out.keep (KeepL.only ho4 (by omega)))
        have hyb : 0 ≤ y ∧ y ≤ 7 := by simp at hy; omega
        have s0 := HA4.out.blk.at_ (i := 0) rfl
        have s0f := HA4.out.blk.frozen 0
        clear hy hr4 ho4
        go_upto_region 28 with (fail)
        refine nameCode (fun wx => SmAt w wx g 52 S y A n c O n d ∧ Smx wx (S + 1) y A n c O n d L M f) ⟨HA4.out.put0 hgS y, ⟨⟨hyb, HS4.out.ok.hn, HS4.out.ok.hm, HS4.out.ok.hL⟩, HS4.out.cap, HS4.out.mat.keep (KeepL.set_ (by dsimp only; omega) _), HS4.out.ints.keep (KeepL.set_ (by dsimp only; omega) _)⟩⟩ ?_
        clear s0 s0f HA4 HS4 HA3 HS3
        rintro wx ⟨ha, hs⟩
        have x0 := ha.blk.at_ (i := 0) rfl
        have x1 := ha.blk.at_ (i := 1) rfl
        have x2 := ha.blk.at_ (i := 2) rfl
        have g0 := ha.zero.at_ (i := 0) rfl
        have g1 := ha.zero.at_ (i := 1) rfl
        have g2 := ha.zero.at_ (i := 2) rfl
        have gf0 := ha.zero.frozen 0
        have gf1 := ha.zero.frozen 1
        have gf2 := ha.zero.frozen 2
        have hne : S ≠ w.heap.size := by have := ha.lo; omega
        have HPOST := hide (ha.post hs (by omega) (by omega) hg)
        clear ha hs
        go_wp2_with fail
        refine bodyPost_ret (v := .agg #[.int .i64 y, .slice A n c, .slice O n d]) (by simp [results, Try.results64, go_sem, g0, g1, g2]) rfl HPOST.out
      have w0' : (v == 0) = false := by simp [v0]
      by_cases v1 : v = 1
      · subst v1
        have s2 := HA3.out.blk.at_ (i := 2) rfl
        have HI := hide (show Ints (w3.alloc (.cells #[] 3)) w3.heap.size O n f from HS3.out.ints.ints.keep ((Below.refl _ _).alloc (Nat.le_refl _) _) (Nat.le_refl _))
        clear v0
        go_upto_region 28 with (first | (at_builtin; refine push_ints rfl _ _ rfl [] rfl (Row.lit (cs := #[]) (xs := []) (n := 0) (base := w3.heap.size) rfl rfl (Nat.le_refl _)) f HI.out (by omega) rfl (by omega) (by simp) ?_; intro O2 d2 w4 hr4 hb4 hg4; rw [Nat.zero_add]; rw [Nat.zero_add, List.nil_append] at hr4; have z4 := hb4.size; have HR4 := hide hr4; have HB4 := hide ((show Below w3.heap.size w3 (w3.alloc (.cells #[] 3)) from (Below.refl _ _).alloc (Nat.le_refl _) _).trans hb4); clear hr4 hb4 hg4) | (at_builtin; refine push_int rfl _ _ rfl (listOf n f) rfl HR4.out 0 _ rfl (by omega) (by simp at z4; omega) ?_; intro O3 d3 w5 hr5 hb5 hg5 hat5; have z5 := hb5.size; have HR5 := hide hr5; have HB5 := hide (HB4.out.trans hb5); have kb5 := HA3.out.blk.below HB5.out z3; have s3 := kb5.at_ (i := 2) rfl; have s3f := kb5.frozen 2; have l5 := kb5.lt; clear kb5 hr5 hb5 hg5 hat5))
        have hl6 : (listOf n f ++ [0]).length = n + 1 := HR5.out.1
        refine nameCode (fun wx => SmAt w wx g 51 S p A n c O3 (n + 1) d3 ∧ Smx wx (S + 1) p A n c O3 (n + 1) d3 L M (fun i => (listOf n f ++ [0]).getD i 0)) ⟨(HA3.out.below HB5.out hgS).put2 hgS O3 (n + 1) d3, ⟨⟨HS3.out.ok.hp, hn6, by omega, HS3.out.ok.hL⟩, ⟨HS3.out.cap.1, HR5.out.cap⟩, (HS3.out.mat.keep (KeepL.below HB5.out)).keep (KeepL.set_ (by dsimp only; omega) _), (IntsL.of_row HR5.out (by omega)).keep (KeepL.set_ (by dsimp only; omega) _)⟩⟩ ?_
        clear s2 s3 s3f HR4 HR5 HB4 HB5 HI HA3 HS3 hl6
        rintro wx ⟨ha, hs⟩
        have x0 := ha.blk.at_ (i := 0) rfl
        have x1 := ha.blk.at_ (i := 1) rfl
        have x2 := ha.blk.at_ (i := 2) rfl
        have g0 := ha.zero.at_ (i := 0) rfl
        have g1 := ha.zero.at_ (i := 1) rfl
        have g2 := ha.zero.at_ (i := 2) rfl
        have gf0 := ha.zero.frozen 0
        have gf1 := ha.zero.frozen 1
        have gf2 := ha.zero.frozen 2
        have hne : S ≠ w.heap.size := by have := ha.lo; omega
        have HPOST := hide (ha.post hs (by omega) (by omega) hg)
        clear ha hs
        go_wp2_with fail
        refine bodyPost_ret (v := .agg #[.int .i64 p, .slice A n c, .slice O3 (n + 1) d3]) (by simp [results, Try.results64, go_sem, g0, g1, g2]) rfl HPOST.out
      have w1' : (v == 1) = false := by simp [v1]
      by_cases v2 : v = 2
      · subst v2
        obtain ⟨bo, oo, rfl, hbo, hco⟩ := HS3.out.ints (by omega)
        have q0 := hco 0 (by omega)
        simp only [Nat.add_zero] at q0
        obtain ⟨q0, q0f⟩ := q0
        have s2 := HA3.out.blk.at_ (i := 2) rfl
        have hpos : 0 < n := by omega
        clear hco
        go_wp2_with fail
        go_region_with (go_at_call 80; refine (one_lit g 51 [5, -1] _ 2 2 w3.drew _ HA3.out.rd.drew rfl rfl (by omega) (by omega) (by omega)).mono ?_; rintro e w4 ⟨y, hy, rfl, hr4, ho4'⟩; have ho4 : Only g w3 w4 := ⟨ho4'.os, ho4'.tape, ho4'.output, ho4'.size, ho4'.block⟩; have HA4 := hide (HA3.out.far hr4 ho4 hg); have HS4 := hide (HS3.out.keep (KeepL.only ho4 (by omega))); have s2' := HA4.out.blk.at_ (i := 2) rfl; have q0' := (ho4.cells.1 bo oo hbo.2 (by omega)).trans q0; have q0f' := (ho4.cells.2 bo oo hbo.2 (by omega)).trans q0f; have Q0 := hide q0')
        all_goals
          have HF : SmAt w (w4.setCell ⟨bo, oo, none⟩ (.int .i64 y)) g 52 S p A n c (some ⟨bo, oo, none⟩) n d ∧ ∃ M' f', Smx (w4.setCell ⟨bo, oo, none⟩ (.int .i64 y)) (S + 1) p A n c (some ⟨bo, oo, none⟩) n d L M' f' := by
            obtain ⟨M', hM'⟩ := HS4.out.mat.set_ (v := y) Q0.out
            obtain ⟨f', hf'⟩ := HS4.out.ints.set_ (v := y) Q0.out
            exact ⟨HA4.out.putFar hgS (by dsimp only; omega) _, M', f', ⟨HS4.out.ok, HS4.out.cap, hM', hf'⟩⟩
          refine nameY (fun wx => SmAt w wx g 52 S p A n c (some ⟨bo, oo, none⟩) n d ∧ ∃ M' f', Smx wx (S + 1) p A n c (some ⟨bo, oo, none⟩) n d L M' f') (by first | exact HF | exact ⟨HF.1.drew, HF.2.imp fun _ h => h.imp fun _ h => h.drew⟩) ?_
          clear HF HA4 HS4 s2 s2' q0 q0f q0' q0f' Q0 HA3 HS3 ho4 ho4' hr4 hy
          rintro wx ⟨ha, M', f', hs⟩
          have x0 := ha.blk.at_ (i := 0) rfl
          have x1 := ha.blk.at_ (i := 1) rfl
          have x2 := ha.blk.at_ (i := 2) rfl
          have g0 := ha.zero.at_ (i := 0) rfl
          have g1 := ha.zero.at_ (i := 1) rfl
          have g2 := ha.zero.at_ (i := 2) rfl
          have gf0 := ha.zero.frozen 0
          have gf1 := ha.zero.frozen 1
          have gf2 := ha.zero.frozen 2
          have hne : S ≠ w.heap.size := by have := ha.lo; omega
          have HPOST := hide (ha.post hs (by omega) (by omega) hg)
          clear ha hs
          go_wp2_with fail
          refine bodyPost_ret (v := .agg #[.int .i64 p, .slice A n c, .slice (some ⟨bo, oo, none⟩) n d]) (by simp [results, Try.results64, go_sem, g0, g1, g2]) rfl HPOST.out
      have w2' : (v == 2) = false := by simp [v2]
      by_cases v3 : v = 3
      · subst v3
        obtain ⟨ba, oa, rfl, hba, hca⟩ := HS3.out.mat (by omega)
        obtain ⟨R0, C0, r0, r1⟩ := hca 0 (by omega)
        have hL0 := HS3.out.ok.hL 0 (by omega)
        obtain ⟨br, orr, rfl, hbr, hcr⟩ := r1 (by omega)
        have q0 := hcr 0 (by omega)
        simp only [Nat.add_zero] at q0 r0
        obtain ⟨q0, q0f⟩ := q0
        have s1 := HA3.out.blk.at_ (i := 1) rfl
        have Q0 := hide q0
        clear hca hcr r1
        go_upto_region 28 with (fail)
        refine nameCode (fun wx => SmAt w wx g 52 S p (some ⟨ba, oa, none⟩) n c O n d ∧ ∃ M' f', Smx wx (S + 1) p (some ⟨ba, oa, none⟩) n c O n d L M' f') (by
          obtain ⟨M', hM'⟩ := HS3.out.mat.set_ (v := 7) Q0.out
          obtain ⟨f', hf'⟩ := HS3.out.ints.set_ (v := 7) Q0.out
          exact ⟨(HA3.out.more (by omega)).putFar hgS (by dsimp only; omega) _, M', f', ⟨HS3.out.ok, HS3.out.cap, hM', hf'⟩⟩) ?_
        clear HA3 HS3 s1 q0 q0f Q0 r0
        rintro wx ⟨ha, M', f', hs⟩
        have x0 := ha.blk.at_ (i := 0) rfl
        have x1 := ha.blk.at_ (i := 1) rfl
        have x2 := ha.blk.at_ (i := 2) rfl
        have g0 := ha.zero.at_ (i := 0) rfl
        have g1 := ha.zero.at_ (i := 1) rfl
        have g2 := ha.zero.at_ (i := 2) rfl
        have gf0 := ha.zero.frozen 0
        have gf1 := ha.zero.frozen 1
        have gf2 := ha.zero.frozen 2
        have hne : S ≠ w.heap.size := by have := ha.lo; omega
        have HPOST := hide (ha.post hs (by omega) (by omega) hg)
        clear ha hs
        go_wp2_with fail
        refine bodyPost_ret (v := .agg #[.int .i64 p, .slice (some ⟨ba, oa, none⟩) n c, .slice O n d]) (by simp [results, Try.results64, go_sem, g0, g1, g2]) rfl HPOST.out
      have w3' : (v == 3) = false := by simp [v3]
      have V := hide (⟨v0, v1, v2, v3⟩ : _ ∧ _ ∧ _ ∧ _)
      clear v0 v1 v2 v3
      go_upto_region 28 with (fail)
      refine nameCode (fun wx => SmAt w wx g 51 S p A n c O n d ∧ Smx wx (S + 1) p A n c O n d L M f) ⟨HA3.out, HS3.out⟩ ?_
      clear HA3 HS3
      rintro wx ⟨ha, hs⟩
      have x0 := ha.blk.at_ (i := 0) rfl
      have x1 := ha.blk.at_ (i := 1) rfl
      have x2 := ha.blk.at_ (i := 2) rfl
      have g0 := ha.zero.at_ (i := 0) rfl
      have g1 := ha.zero.at_ (i := 1) rfl
      have g2 := ha.zero.at_ (i := 2) rfl
      have gf0 := ha.zero.frozen 0
      have gf1 := ha.zero.frozen 1
      have gf2 := ha.zero.frozen 2
      have hne : S ≠ w.heap.size := by have := ha.lo; omega
      have HPOST := hide (ha.post hs (by omega) (by omega) hg)
      clear ha hs
      go_wp2_with fail
      refine bodyPost_ret (v := .agg #[.int .i64 p, .slice A n c, .slice O n d]) (by simp [results, Try.results64, go_sem, g0, g1, g2]) rfl HPOST.out


end Go.Proofs.Ytcalfblghblhcaa
