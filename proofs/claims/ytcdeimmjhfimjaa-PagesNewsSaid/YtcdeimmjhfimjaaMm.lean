/- The memory of a table: its pages in one block, its three fields in another; what a store, a new block and a call leave of them. No condition. -/
import Derived.Test.YtcdeimmjhfimjaaProg
import Derived.Test.YtcdeimmjhfimjaaPp
import Derived.Below
import Derived.Deep.Draws
import Derived.OwnWalk
import Derived.Tactics
import Derived.WalkKit
import Derived.KernelRfl
import Derived.RowKit3
import Derived.Deep.LoopGhost
import Derived.Deep.QuietTactic
import Derived.BigQuiet
import Derived.Deep.DeepCutAuto
import Derived.Deep.CutBlock
import Derived.Deep.RegionHeld3
import Derived.Deep.RegionWith
import Derived.Deep.AppendLies
import Derived.Maps.AppendAt
import Derived.Lib.Hide
import Derived.Outline
namespace Go.Proofs.Ytcdeimmjhfimjaa
open Go.RowKit Go.Proofs.Ytcdeimmjhfimjaa.Pp
set_option linter.unusedVariables false

theorem bthen {w w1 w2 : World} (h : Below w.heap.size w w1) (k : Below w1.heap.size w1 w2) : Below w.heap.size w w2 := h.trans (k.mono h.size)
theorem below_drewN {B : Nat} {a w : World} (h : Below B a w) (n : Nat) : Below B a (w.drewN n) := ⟨h.os, h.tape, h.output, h.size, h.block⟩
theorem ret_int {k : IntKind} {a b : Int} (h : a = b) : Ending.returned (.int k a) = .returned (.int k b) := by rw [h]
theorem ret_bool {a b : Bool} (h : a = b) : Ending.returned (.bool a) = .returned (.bool b) := by rw [h]

/-! ### Blocks -/
theorem heap_set_same {w : World} {g i : Nat} {cs : Array Value} {t : TypeId} (h : w.heap[g]? = some (.cells cs t (0, 0))) (u : Value) :
    (w.setCell ⟨g, i, none⟩ u).heap[g]? = some (.cells (cs.setIfInBounds i u) t (0, 0)) := by
  simp [World.setCell, Array.getElem?_modify, h]
theorem heap_set_far {w : World} {g : Nat} {p : Addr} (h : g ≠ p.block) (u : Value) : (w.setCell p u).heap[g]? = w.heap[g]? := Below.heap_setCell w p u g h
theorem heap_lt {w : World} {g : Nat} {o : Obj} (h : w.heap[g]? = some o) : g < w.heap.size := (Array.getElem?_eq_some_iff.1 h).1
theorem heap_cell {w : World} {g : Nat} {cs : Array Value} {t : TypeId} (h : w.heap[g]? = some (.cells cs t (0, 0))) (i : Nat) : w.cell? ⟨g, i, none⟩ = cs[i]? := by simp [World.cell?, h]
theorem heap_free {w : World} {g : Nat} {cs : Array Value} {t : TypeId} (h : w.heap[g]? = some (.cells cs t (0, 0))) (i : Nat) : w.frozen? ⟨g, i, none⟩ = false := by simp [World.frozen?, h]
theorem heap_ne {w : World} {g g' : Nat} {cs cs' : Array Value} {t t' : TypeId} (h : w.heap[g]? = some (.cells cs t (0, 0))) (h' : w.heap[g']? = some (.cells cs' t' (0, 0))) (ht : t ≠ t') : g ≠ g' := by
  rintro rfl
  rw [h] at h'
  injection h' with h'
  injection h' with _ h2
  exact ht h2

/-! ### What a call may touch: the blocks of L, and what is new -/
structure Fr (L : List Nat) (a w : World) : Prop where
  os : w.os = a.os
  tape : w.tape = a.tape
  output : w.output = a.output
  size : a.heap.size ≤ w.heap.size
  block : ∀ k, k < a.heap.size → k ∉ L → w.heap[k]? = a.heap[k]?
theorem Fr.refl (L : List Nat) (a : World) : Fr L a a := ⟨rfl, rfl, rfl, Nat.le_refl _, fun _ _ _ => rfl⟩
theorem Fr.trans {L : List Nat} {a b c : World} (h : Fr L a b) (k : Fr L b c) : Fr L a c :=
  ⟨k.os.trans h.os, k.tape.trans h.tape, k.output.trans h.output, Nat.le_trans h.size k.size, fun i hi hn => (k.block i (Nat.lt_of_lt_of_le hi h.size) hn).trans (h.block i hi hn)⟩
theorem Fr.more {L L' : List Nat} {a w : World} (h : Fr L a w) (hl : ∀ k, k < a.heap.size → k ∈ L → k ∈ L') : Fr L' a w := ⟨h.os, h.tape, h.output, h.size, fun k hk hn => h.block k hk fun hm => hn (hl k hk hm)⟩
theorem Fr.of_below {L : List Nat} {a w : World} (h : Below a.heap.size a w) : Fr L a w := ⟨h.os, h.tape, h.output, h.size, fun k hk _ => h.block k hk⟩
theorem Fr.drew {L : List Nat} {a w : World} (h : Fr L a w) : Fr L a w.drew := ⟨h.os, h.tape, h.output, h.size, h.block⟩
theorem Fr.drewN {L : List Nat} {a w : World} (h : Fr L a w) (n : Nat) : Fr L a (w.drewN n) := ⟨h.os, h.tape, h.output, h.size, h.block⟩
theorem Fr.alloc {L : List Nat} {a w : World} (h : Fr L a w) (o : Obj) : Fr L a (w.alloc o) :=
  h.trans ⟨rfl, rfl, rfl, by simp, fun k hk _ => Below.heap_alloc w o k hk⟩
theorem Fr.setCell {L : List Nat} {a w : World} (h : Fr L a w) {p : Addr} (hp : p.block ∈ L ∨ a.heap.size ≤ p.block) (u : Value) : Fr L a (w.setCell p u) :=
  ⟨h.os, h.tape, h.output, by simpa [World.setCell] using h.size, fun k hk hn => (heap_set_far (fun e => by subst e; exact hp.elim hn (fun g => by omega)) u).trans (h.block k hk hn)⟩
theorem Fr.below {L : List Nat} {B : Nat} {a w : World} (h : Fr L a w) (hB : B ≤ a.heap.size) (hL : ∀ k, k ∈ L → B ≤ k) : Below B a w :=
  ⟨h.os, h.tape, h.output, h.size, fun k hk => h.block k (by omega) fun hm => by have := hL k hm; omega⟩
theorem Fr.none {a w : World} (h : Fr [] a w) : Below a.heap.size a w := h.below (Nat.le_refl _) (by simp)
theorem Fr.of_grown {L : List Nat} {a w : World} {row : Option Nat} (h : a.grownBy w row) (hr : ∀ k, row = some k → k ∈ L) : Fr L a w :=
  ⟨h.os, h.tape, h.output, h.size, fun k hk hn => h.block k hk fun e => hn (hr k e.symm)⟩
theorem Fr.keeps {L : List Nat} {a w : World} (h : Fr L a w) {k : Nat} {o : Obj} (hk : a.heap[k]? = some o) (hn : k ∉ L) : w.heap[k]? = some o := (h.block k (heap_lt hk) hn).trans hk

/-! ### A row of pages -/
structure PgAt (w : World) (g n cap : Nat) (f : Nat → Pg) : Prop where
  blk : ∃ cur : Array Value, w.heap[g]? = some (.cells cur 47 (0, 0)) ∧ cur.size = cap * 3 ∧
    ∀ i, i < n → cur[i * 3]? = some (.int .i64 (f i).k) ∧ cur[i * 3 + 1]? = some (.int .i64 (f i).c) ∧ cur[i * 3 + 2]? = some (.int .i64 (f i).r)
  le : n ≤ cap
  max : cap ≤ maxLen
section
variable {w w' : World} {g n cap : Nat} {f f' : Nat → Pg}
theorem PgAt.k (h : PgAt w g n cap f) {i : Nat} (hi : i < n) : w.cell? ⟨g, i * 3, none⟩ = some (.int .i64 (f i).k) := by
  obtain ⟨cur, hb, _, hc⟩ := h.blk
  rw [heap_cell hb]; exact (hc i hi).1
theorem PgAt.c (h : PgAt w g n cap f) {i : Nat} (hi : i < n) : w.cell? ⟨g, i * 3 + 1, none⟩ = some (.int .i64 (f i).c) := by
  obtain ⟨cur, hb, _, hc⟩ := h.blk
  rw [heap_cell hb]; exact (hc i hi).2.1
theorem PgAt.r (h : PgAt w g n cap f) {i : Nat} (hi : i < n) : w.cell? ⟨g, i * 3 + 2, none⟩ = some (.int .i64 (f i).r) := by
  obtain ⟨cur, hb, _, hc⟩ := h.blk
  rw [heap_cell hb]; exact (hc i hi).2.2
theorem PgAt.frozen (h : PgAt w g n cap f) (o : Nat) : w.frozen? ⟨g, o, none⟩ = false := by
  obtain ⟨cur, hb, _⟩ := h.blk
  exact heap_free hb o
theorem PgAt.lt (h : PgAt w g n cap f) : g < w.heap.size := by
  obtain ⟨cur, hb, _⟩ := h.blk
  exact heap_lt hb
theorem PgAt.kept (h : PgAt w g n cap f) (e : w'.heap[g]? = w.heap[g]?) : PgAt w' g n cap f := ⟨by rw [e]; exact h.blk, h.le, h.max⟩
theorem PgAt.fr {L : List Nat} (h : PgAt w g n cap f) (e : Fr L w w') (hg : g ∉ L) : PgAt w' g n cap f := h.kept (e.block g h.lt hg)
theorem PgAt.below (h : PgAt w g n cap f) (e : Below w.heap.size w w') : PgAt w' g n cap f := h.kept (e.block g h.lt)
theorem PgAt.far (h : PgAt w g n cap f) {p : Addr} (hp : g ≠ p.block) (u : Value) : PgAt (w.setCell p u) g n cap f := h.kept (heap_set_far hp u)
theorem PgAt.alloc (h : PgAt w g n cap f) (o : Obj) : PgAt (w.alloc o) g n cap f := h.kept (Below.heap_alloc w o g h.lt)
theorem PgAt.drew (h : PgAt w g n cap f) : PgAt w.drew g n cap f := h.kept rfl
theorem PgAt.drewN (h : PgAt w g n cap f) (m : Nat) : PgAt (w.drewN m) g n cap f := h.kept rfl
theorem PgAt.congr (h : PgAt w g n cap f) (e : ∀ i, i < n → f' i = f i) : PgAt w g n cap f' :=
  ⟨by obtain ⟨cur, hb, hs, hc⟩ := h.blk; exact ⟨cur, hb, hs, fun i hi => by rw [e i hi]; exact hc i hi⟩, h.le, h.max⟩
theorem PgAt.fewer (h : PgAt w g n cap f) {m : Nat} (hm : m ≤ n) : PgAt w g m cap f :=
  ⟨by obtain ⟨cur, hb, hs, hc⟩ := h.blk; exact ⟨cur, hb, hs, fun i hi => hc i (by omega)⟩, Nat.le_trans hm h.le, h.max⟩
/-- A page is stored. -/
theorem PgAt.set (h : PgAt w g n cap f) {i : Nat} (hi : i < n) (a b c : Int) :
    PgAt (((w.setCell ⟨g, i * 3, none⟩ (.int .i64 a)).setCell ⟨g, i * 3 + 1, none⟩ (.int .i64 b)).setCell ⟨g, i * 3 + 2, none⟩ (.int .i64 c)) g n cap (upd f i ⟨a, b, c⟩) := by
  obtain ⟨cur, hb, hs, hc⟩ := h.blk
  have hle := h.le
  refine ⟨⟨_, heap_set_same (heap_set_same (heap_set_same hb _) _) _, by simp [hs], fun j hj => ?_⟩, h.le, h.max⟩
  simp only [Array.getElem?_setIfInBounds, Array.size_setIfInBounds, hs]
  by_cases e : j = i
  · subst e
    rw [upd_at]
    refine ⟨?_, ?_, ?_⟩
    · rw [if_neg (by omega), if_neg (by omega), if_pos rfl, if_pos (by omega)]
    · rw [if_neg (by omega), if_pos rfl, if_pos (by omega)]
    · rw [if_pos rfl, if_pos (by omega)]
  · rw [upd_ne e]
    obtain ⟨h1, h2, h3⟩ := hc j hj
    refine ⟨?_, ?_, ?_⟩
    · rw [if_neg (by omega), if_neg (by omega), if_neg (by omega)]; exact h1
    · rw [if_neg (by omega), if_neg (by omega), if_neg (by omega)]; exact h2
    · rw [if_neg (by omega), if_neg (by omega), if_neg (by omega)]; exact h3
end

/-! ### The same as a list of cells -/
def flat (f : Nat → Pg) : Nat → List Value
  | 0 => []
  | n + 1 => flat f n ++ [.int .i64 (f n).k, .int .i64 (f n).c, .int .i64 (f n).r]
theorem flat_length (f : Nat → Pg) (n : Nat) : (flat f n).length = n * 3 := by
  induction n with
  | zero => rfl
  | succ n ih => unfold flat; simp [ih]; omega
theorem flat_at (f : Nat → Pg) (n : Nat) : ∀ i, i < n → (flat f n)[i * 3]? = some (.int .i64 (f i).k) ∧ (flat f n)[i * 3 + 1]? = some (.int .i64 (f i).c) ∧ (flat f n)[i * 3 + 2]? = some (.int .i64 (f i).r) := by
  induction n with
  | zero => intro i hi; omega
  | succ n ih =>
    intro i hi
    unfold flat
    have hl := flat_length f n
    by_cases e : i = n
    · subst e
      refine ⟨?_, ?_, ?_⟩
      · rw [List.getElem?_append_right (by omega), hl]; simp
      · rw [List.getElem?_append_right (by omega), hl, show i * 3 + 1 - i * 3 = 1 by omega]; rfl
      · rw [List.getElem?_append_right (by omega), hl, show i * 3 + 2 - i * 3 = 2 by omega]; rfl
    · obtain ⟨h1, h2, h3⟩ := ih i (by omega)
      refine ⟨?_, ?_, ?_⟩
      · rw [List.getElem?_append_left (by omega)]; exact h1
      · rw [List.getElem?_append_left (by omega)]; exact h2
      · rw [List.getElem?_append_left (by omega)]; exact h3
theorem flat_one (f : Nat → Pg) (n : Nat) : ∀ u ∈ flat f n, u.oneCell' = true := by
  induction n with
  | zero => intro u hu; cases hu
  | succ n ih =>
    intro u hu
    unfold flat at hu
    rcases List.mem_append.1 hu with h | h
    · exact ih u h
    · simp at h
      rcases h with rfl | rfl | rfl <;> rfl
theorem PgAt.news {w : World} {g n cap : Nat} {f : Nat → Pg} (h : PgAt w g n cap f) : ∀ j u, (flat f n)[j]? = some u → w.cell? ((⟨g, 0, none⟩ : Addr).add j) = some u := by
  intro j u hu
  have hj : j < n * 3 := by
    have := (List.getElem?_eq_some_iff.1 hu).1
    rw [flat_length] at this
    exact this
  rw [WideShapes.add_plain, Nat.zero_add]
  obtain ⟨h1, h2, h3⟩ := flat_at f n (j / 3) (by omega)
  have e : j = j / 3 * 3 ∨ j = j / 3 * 3 + 1 ∨ j = j / 3 * 3 + 2 := by omega
  rcases e with e | e | e
  · rw [e] at hu ⊢
    rw [h1] at hu
    rw [h.k (by omega)]; exact hu
  · rw [e] at hu ⊢
    rw [h2] at hu
    rw [h.c (by omega)]; exact hu
  · rw [e] at hu ⊢
    rw [h3] at hu
    rw [h.r (by omega)]; exact hu
theorem PgAt.of_own {w : World} {base g n cap : Nat} {f : Nat → Pg} (h : w.ownsRow base 47 3 (.slice (some ⟨g, 0, none⟩) n cap) n (flat f n)) : PgAt w g n cap f := by
  obtain ⟨_, h⟩ := h
  rcases h with ⟨h, _⟩ | ⟨g', cap', cur, hv, _, hh, hnc, hm, hs, ht⟩
  · cases h
  · simp only [Value.slice.injEq, Option.some.injEq, Addr.mk.injEq, and_true] at hv
    obtain ⟨rfl, _, rfl⟩ := hv
    refine ⟨⟨cur, hh, hs, fun i hi => ?_⟩, hnc, hm⟩
    obtain ⟨h1, h2, h3⟩ := flat_at f n i hi
    rw [← ht, List.getElem?_take_of_lt (by omega)] at h1 h2 h3
    rw [Array.getElem?_toList] at h1 h2 h3
    exact ⟨h1, h2, h3⟩
theorem PgAt.own {w : World} {g n cap : Nat} {f : Nat → Pg} (h : PgAt w g n cap f) : w.ownsRow 0 47 3 (.slice (some ⟨g, 0, none⟩) n cap) n (flat f n) := by
  obtain ⟨cur, hb, hs, hc⟩ := h.blk
  refine ⟨flat_length f n, .inr ⟨g, cap, cur, rfl, Nat.zero_le _, hb, h.le, h.max, hs, ?_⟩⟩
  have hle := h.le
  refine List.ext_getElem? fun j => ?_
  by_cases hj : j < n * 3
  · rw [List.getElem?_take_of_lt hj, Array.getElem?_toList]
    obtain ⟨g1, g2, g3⟩ := hc (j / 3) (by omega)
    obtain ⟨h1, h2, h3⟩ := flat_at f n (j / 3) (by omega)
    have e : j = j / 3 * 3 ∨ j = j / 3 * 3 + 1 ∨ j = j / 3 * 3 + 2 := by omega
    rcases e with e | e | e
    · rw [e, g1, h1]
    · rw [e, g2, h2]
    · rw [e, g3, h3]
  · rw [List.getElem?_eq_none (by rw [List.length_take]; omega), List.getElem?_eq_none (by rw [flat_length]; omega)]

/-! ### The table -/
def T3 (w : World) (tg : Nat) (a b c : Value) : Prop := w.heap[tg]? = some (.cells #[a, b, c] 65 (0, 0))
section
variable {w w' : World} {tg : Nat} {a b c : Value}
theorem T3.set0 (h : T3 w tg a b c) (u : Value) : T3 (w.setCell ⟨tg, 0, none⟩ u) tg u b c := heap_set_same h u
theorem T3.set1 (h : T3 w tg a b c) (u : Value) : T3 (w.setCell ⟨tg, 1, none⟩ u) tg a u c := heap_set_same h u
theorem T3.set2 (h : T3 w tg a b c) (u : Value) : T3 (w.setCell ⟨tg, 2, none⟩ u) tg a b u := heap_set_same h u
theorem T3.far (h : T3 w tg a b c) {p : Addr} (hp : tg ≠ p.block) (u : Value) : T3 (w.setCell p u) tg a b c := (heap_set_far hp u).trans h
theorem T3.kept (h : T3 w tg a b c) (e : w'.heap[tg]? = w.heap[tg]?) : T3 w' tg a b c := e.trans h
theorem T3.c0 (h : T3 w tg a b c) : w.cell? ⟨tg, 0, none⟩ = some a := heap_cell h 0
theorem T3.c1 (h : T3 w tg a b c) : w.cell? ⟨tg, 1, none⟩ = some b := heap_cell h 1
theorem T3.c2 (h : T3 w tg a b c) : w.cell? ⟨tg, 2, none⟩ = some c := heap_cell h 2
theorem T3.free (h : T3 w tg a b c) (i : Nat) : w.frozen? ⟨tg, i, none⟩ = false := heap_free h i
theorem T3.ne (h : T3 w tg a b c) {g n cap : Nat} {f : Nat → Pg} (hp : PgAt w g n cap f) : tg ≠ g := by
  obtain ⟨cur, hb, _⟩ := hp.blk
  exact heap_ne h hb (by decide)
end
/-- A table of n pages f: its fields lie in block tg, its pages in block g. -/
structure TabL (w : World) (tg g n cap : Nat) (f : Nat → Pg) (low : Nat) : Prop where
  blk : T3 w tg (.slice (some ⟨g, 0, none⟩) n cap) (.int .i64 low) (.int .i64 (cnt f n : Nat))
  pg : PgAt w g n cap f
  wf : Wf n f
  lows : Low f low
  lown : low ≤ n
  n1 : 1 ≤ n
  n4 : n ≤ 4096
def Tab (w : World) (tg g n cap : Nat) (f : Nat → Pg) : Prop := ∃ low, TabL w tg g n cap f low
/-- The reference's table. -/
structure RTab (w : World) (rg g n cap : Nat) (f : Nat → Pg) : Prop where
  blk : w.heap[rg]? = some (.cells #[.slice (some ⟨g, 0, none⟩) n cap] 62 (0, 0))
  pg : PgAt w g n cap f
  wf : Wf n f
  n1 : 1 ≤ n
  n4 : n ≤ 4096
section
variable {w w' : World} {tg g n cap low : Nat} {f f' : Nat → Pg}
theorem TabL.ne (h : TabL w tg g n cap f low) : tg ≠ g := h.blk.ne h.pg
theorem TabL.lt (h : TabL w tg g n cap f low) : tg < w.heap.size := heap_lt h.blk
theorem TabL.fr {L : List Nat} (h : TabL w tg g n cap f low) (e : Fr L w w') (h1 : tg ∉ L) (h2 : g ∉ L) : TabL w' tg g n cap f low :=
  ⟨h.blk.kept (e.block tg h.lt h1), h.pg.fr e h2, h.wf, h.lows, h.lown, h.n1, h.n4⟩
theorem TabL.below (h : TabL w tg g n cap f low) (e : Below w.heap.size w w') : TabL w' tg g n cap f low :=
  ⟨h.blk.kept (e.block tg h.lt), h.pg.below e, h.wf, h.lows, h.lown, h.n1, h.n4⟩
theorem TabL.drew (h : TabL w tg g n cap f low) : TabL w.drew tg g n cap f low := ⟨h.blk, h.pg.drew, h.wf, h.lows, h.lown, h.n1, h.n4⟩
theorem TabL.drewN (h : TabL w tg g n cap f low) (m : Nat) : TabL (w.drewN m) tg g n cap f low := ⟨h.blk, h.pg.drewN m, h.wf, h.lows, h.lown, h.n1, h.n4⟩
theorem Tab.fr {L : List Nat} (h : Tab w tg g n cap f) (e : Fr L w w') (h1 : tg ∉ L) (h2 : g ∉ L) : Tab w' tg g n cap f := by
  obtain ⟨low, h⟩ := h; exact ⟨low, h.fr e h1 h2⟩
theorem Tab.below (h : Tab w tg g n cap f) (e : Below w.heap.size w w') : Tab w' tg g n cap f := by
  obtain ⟨low, h⟩ := h; exact ⟨low, h.below e⟩
theorem RTab.lt (h : RTab w tg g n cap f) : tg < w.heap.size := heap_lt h.blk
theorem RTab.ne (h : RTab w tg g n cap f) : tg ≠ g := by
  obtain ⟨cur, hb, _⟩ := h.pg.blk
  exact heap_ne h.blk hb (by decide)
theorem RTab.fr {L : List Nat} (h : RTab w tg g n cap f) (e : Fr L w w') (h1 : tg ∉ L) (h2 : g ∉ L) : RTab w' tg g n cap f :=
  ⟨(e.block tg h.lt h1).trans h.blk, h.pg.fr e h2, h.wf, h.n1, h.n4⟩
theorem RTab.below (h : RTab w tg g n cap f) (e : Below w.heap.size w w') : RTab w' tg g n cap f :=
  ⟨(e.block tg h.lt).trans h.blk, h.pg.below e, h.wf, h.n1, h.n4⟩
theorem RTab.c0 (h : RTab w tg g n cap f) : w.cell? ⟨tg, 0, none⟩ = some (.slice (some ⟨g, 0, none⟩) n cap) := heap_cell h.blk 0
end
end Go.Proofs.Ytcdeimmjhfimjaa
