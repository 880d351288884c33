/- A pair in memory: its tables, its lists, who owns which block. No condition. -/
import Derived.Test.YtcdeimmjhfimjaaMa
namespace Go.Proofs.Ytcdeimmjhfimjaa
open Go.RowKit Go.Proofs.Ytcdeimmjhfimjaa.Pp
set_option linter.unusedVariables false

/-- What a call may touch, said of blocks. -/
structure FrP (S : Nat → Prop) (a w : World) : Prop where
  os : w.os = a.os
  tape : w.tape = a.tape
  output : w.output = a.output
  size : a.heap.size ≤ w.heap.size
  block : ∀ k, k < a.heap.size → ¬ S k → w.heap[k]? = a.heap[k]?
theorem FrP.of_fr {S : Nat → Prop} {L : List Nat} {a w : World} (h : Fr L a w) (hL : ∀ x, x ∈ L → S x ∨ a.heap.size ≤ x) : FrP S a w :=
  ⟨h.os, h.tape, h.output, h.size, fun k hk hn => h.block k hk fun hm => (hL k hm).elim hn (fun g => by omega)⟩
theorem FrP.of_below {S : Nat → Prop} {a w : World} (h : Below a.heap.size a w) : FrP S a w := ⟨h.os, h.tape, h.output, h.size, fun k hk _ => h.block k hk⟩
theorem FrP.refl (S : Nat → Prop) (a : World) : FrP S a a := ⟨rfl, rfl, rfl, Nat.le_refl _, fun _ _ _ => rfl⟩
theorem FrP.trans {S S' : Nat → Prop} {a b c : World} (h : FrP S a b) (k : FrP S' b c) (hS : ∀ x, S' x → x < a.heap.size → S x) : FrP S a c :=
  ⟨k.os.trans h.os, k.tape.trans h.tape, k.output.trans h.output, Nat.le_trans h.size k.size, fun i hi hn => (k.block i (Nat.lt_of_lt_of_le hi h.size) (fun hs => hn (hS i hs hi))).trans (h.block i hi hn)⟩
theorem FrP.below {S : Nat → Prop} {B : Nat} {a w : World} (h : FrP S a w) (hB : B ≤ a.heap.size) (hS : ∀ k, k < B → ¬ S k) : Below B a w :=
  ⟨h.os, h.tape, h.output, h.size, fun k hk => h.block k (by omega) (hS k hk)⟩
theorem FrP.fr_then {S : Nat → Prop} {L : List Nat} {a b c : World} (h : FrP S a b) (k : Fr L b c) (hS : ∀ x, x ∈ L → x < a.heap.size → S x) : FrP S a c :=
  ⟨k.os.trans h.os, k.tape.trans h.tape, k.output.trans h.output, Nat.le_trans h.size k.size, fun i hi hn => (k.block i (Nat.lt_of_lt_of_le hi h.size) (fun hs => hn (hS i hs hi))).trans (h.block i hi hn)⟩
theorem FrP.below_then {S : Nat → Prop} {a b c : World} (h : FrP S a b) (k : Below b.heap.size b c) : FrP S a c :=
  ⟨k.os.trans h.os, k.tape.trans h.tape, k.output.trans h.output, Nat.le_trans h.size k.size, fun i hi hn => (k.block i (Nat.lt_of_lt_of_le hi h.size)).trans (h.block i hi hn)⟩

/-- Blocks from s on are pg's. -/
def owx (ow : Nat → Nat) (s pg : Nat) : Nat → Nat := fun b => if b < s then ow b else pg
theorem owx_old {ow : Nat → Nat} {s pg b : Nat} (h : b < s) : owx ow s pg b = ow b := if_pos h
theorem owx_new {ow : Nat → Nat} {s pg b : Nat} (h : s ≤ b) : owx ow s pg b = pg := if_neg (by omega)
theorem owx_own {ow : Nat → Nat} {s pg b : Nat} (h : ow b = pg) : owx ow s pg b = pg := by unfold owx; split; exact h; rfl

/-- A list that looked put into left, and the one in were: the same pages. -/
structure Ent where
  lb : Nat
  lc : Nat
  wb : Nat
  wc : Nat
  n : Nat
  h : Nat → Pg
def Ent.lval (e : Ent) : Value := .slice (some ⟨e.lb, 0, none⟩) e.n e.lc
def Ent.wval (e : Ent) : Value := .slice (some ⟨e.wb, 0, none⟩) e.n e.wc

structure PairG (w : World) (ow : Nat → Nat) (pg : Nat) (z : Bool) (tg rg g cap g' cap' n : Nat) (f : Nat → Pg) (lv wv sv mv : Value) (LT WT : List Ent) (LL : List LE) (ρ : Nat → Nat) : Prop where
  p6 : P6 w pg (.pointer (some ⟨tg, 0, none⟩)) (.pointer (some ⟨rg, 0, none⟩)) lv wv sv mv
  tab : Tab w tg g n cap f
  rtab : RTab w rg g' n cap' f
  mp : MP w sv mv LL
  la : Arr w 43 lv (LT.map Ent.lval)
  wa : Arr w 43 wv (WT.map Ent.wval)
  lp : ∀ e, e ∈ LT → PgAt w e.lb e.n e.lc e.h ∧ e.n ≤ 4096
  wp : ∀ e, e ∈ WT → PgAt w e.wb e.n e.wc e.h ∧ e.n ≤ 4096
  lw : LT = WT ∨ (z = true ∧ LT = [])
  o5 : ow pg = pg ∧ ow tg = pg ∧ ow rg = pg ∧ ow g = pg ∧ ow g' = pg
  oa : ∀ b, b ∈ ob lv ∨ b ∈ ob wv ∨ b ∈ ob sv ∨ b ∈ ob mv → ow b = pg
  ol : ∀ e, e ∈ LT → ow e.lb = pg
  owt : ∀ e, e ∈ WT → ow e.wb = pg
  oll : ∀ e, e ∈ LL → ow e.b = pg
  r0 : ρ g = 0
  r1 : ρ g' = 1
  rs : ∀ b, b ∈ ob sv → ρ b = 2
  rl : ∀ b, b ∈ ob lv → ρ b = 3
  rw_ : ∀ b, b ∈ ob wv → ρ b = 4
  rll : ∀ e, e ∈ LL → ρ e.b = 2
  rwt : ∀ e, e ∈ WT → ρ e.wb = 4
  rlt : ∀ i e, LT[i]? = some e → ρ e.lb = 5 + i
  bm : ∀ e, e ∈ LL → 0 ≤ e.m ∧ e.m ≤ 60000
  b0 : LL.length + 18 * LT.length ≤ 2000
  b1 : z = false → LL.length ≤ 617 ∧ LT.length * 9 ≤ LL.length
def PairAt (w : World) (ow : Nat → Nat) (pg : Nat) (z : Bool) : Prop :=
  ∃ tg rg g cap g' cap' n f lv wv sv mv LT WT LL ρ, PairG w ow pg z tg rg g cap g' cap' n f lv wv sv mv LT WT LL ρ

section
variable {w w' : World} {ow ow' : Nat → Nat} {pg tg rg g cap g' cap' n : Nat} {z : Bool} {f : Nat → Pg} {lv wv sv mv : Value} {LT WT : List Ent} {LL : List LE} {ρ : Nat → Nat}
theorem PairG.rlt' (h : PairG w ow pg z tg rg g cap g' cap' n f lv wv sv mv LT WT LL ρ) {e : Ent} (he : e ∈ LT) : 5 ≤ ρ e.lb := by
  obtain ⟨i, hi⟩ := List.getElem?_of_mem he
  have := h.rlt i e hi
  omega
/-- Nothing of the pair is touched. -/
theorem PairG.kept (h : PairG w ow pg z tg rg g cap g' cap' n f lv wv sv mv LT WT LL ρ) (hk : ∀ b, ow b = pg → b < w.heap.size → w'.heap[b]? = w.heap[b]?) (ho : ∀ b, ow b = pg → b < w.heap.size → ow' b = pg) :
    PairG w' ow' pg z tg rg g cap g' cap' n f lv wv sv mv LT WT LL ρ := by
  obtain ⟨l, ht⟩ := h.tab
  have hg := ht.pg.lt
  have hg' := h.rtab.pg.lt
  obtain ⟨o1, o2, o3, o4, o5⟩ := h.o5
  exact
  { p6 := (hk pg o1 (heap_lt h.p6)).trans h.p6
    tab := ⟨l, ht.blk.kept (hk tg o2 ht.lt), ht.pg.kept (hk g o4 hg), ht.wf, ht.lows, ht.lown, ht.n1, ht.n4⟩
    rtab := ⟨(hk rg o3 h.rtab.lt).trans h.rtab.blk, h.rtab.pg.kept (hk g' o5 hg'), h.rtab.wf, h.rtab.n1, h.rtab.n4⟩
    mp := ⟨h.mp.ls.kept fun b hb => hk b (h.oa b (by simp [hb])) (h.mp.ls.lt hb), h.mp.ms.kept fun b hb => hk b (h.oa b (by simp [hb])) (h.mp.ms.lt hb), fun e he => (h.mp.pgs e he).kept (hk _ (h.oll e he) (h.mp.pgs e he).lt)⟩
    la := h.la.kept fun b hb => hk b (h.oa b (by simp [hb])) (h.la.lt hb)
    wa := h.wa.kept fun b hb => hk b (h.oa b (by simp [hb])) (h.wa.lt hb)
    lp := fun e he => ⟨(h.lp e he).1.kept (hk _ (h.ol e he) (h.lp e he).1.lt), (h.lp e he).2⟩
    wp := fun e he => ⟨(h.wp e he).1.kept (hk _ (h.owt e he) (h.wp e he).1.lt), (h.wp e he).2⟩
    lw := h.lw
    o5 := ⟨ho _ o1 (heap_lt h.p6), ho _ o2 ht.lt, ho _ o3 h.rtab.lt, ho _ o4 hg, ho _ o5 hg'⟩
    oa := fun b hb => ho b (h.oa b hb) (by
      rcases hb with hb | hb | hb | hb
      · exact h.la.lt hb
      · exact h.wa.lt hb
      · exact h.mp.ls.lt hb
      · exact h.mp.ms.lt hb)
    ol := fun e he => ho _ (h.ol e he) (h.lp e he).1.lt
    owt := fun e he => ho _ (h.owt e he) (h.wp e he).1.lt
    oll := fun e he => ho _ (h.oll e he) (h.mp.pgs e he).lt
    r0 := h.r0
    r1 := h.r1
    rs := h.rs
    rl := h.rl
    rw_ := h.rw_
    rll := h.rll
    rwt := h.rwt
    rlt := h.rlt
    bm := h.bm
    b0 := h.b0
    b1 := h.b1 }
theorem PairG.below (h : PairG w ow pg z tg rg g cap g' cap' n f lv wv sv mv LT WT LL ρ) (hb : Below w.heap.size w w') : PairG w' ow pg z tg rg g cap g' cap' n f lv wv sv mv LT WT LL ρ := h.kept (fun b _ hl => hb.block b hl) fun _ e _ => e
/-- Just the tables are touched. -/
theorem PairG.tabs (h : PairG w ow pg z tg rg g cap g' cap' n f lv wv sv mv LT WT LL ρ) {f' : Nat → Pg} (hT : Tab w' tg g n cap f') (hR : RTab w' rg g' n cap' f') (hf : Fr [tg, g, g'] w w') :
    PairG w' ow pg z tg rg g cap g' cap' n f' lv wv sv mv LT WT LL ρ := by
  obtain ⟨l, ht⟩ := h.tab
  have hk : ∀ b, b < w.heap.size → b ≠ tg → b ≠ g → b ≠ g' → w'.heap[b]? = w.heap[b]? := fun b hb h1 h2 h3 => hf.block b hb (by simp [h1, h2, h3])
  have ha : ∀ {E : TypeId} {v : Value} {xs : List Value}, Arr w E v xs → 47 ≠ E → 65 ≠ E → Arr w' E v xs := fun ha h1 h2 =>
    ha.kept fun b hb => hk b (ha.lt hb) (fun e => by subst e; exact ha.ne ht.blk h2 hb) (fun e => by subst e; exact ht.pg.not_arr ha h1 hb) (fun e => by subst e; exact h.rtab.pg.not_arr ha h1 hb)
  have hp : ∀ {b n cap : Nat} {h' : Nat → Pg}, PgAt w b n cap h' → 2 ≤ ρ b → PgAt w' b n cap h' := fun {b n cap h'} hp hr =>
    hp.kept (hk b hp.lt (fun e => ht.blk.ne hp e.symm) (fun e => by rw [e, h.r0] at hr; omega) (fun e => by rw [e, h.r1] at hr; omega))
  exact { h with
    p6 := (hk pg (heap_lt h.p6) (heap_ne h.p6 ht.blk (by decide)) (fun e => ht.pg.ne_p6 h.p6 e.symm) (fun e => h.rtab.pg.ne_p6 h.p6 e.symm)).trans h.p6
    tab := hT
    rtab := hR
    mp := ⟨ha h.mp.ls (by decide) (by decide), ha h.mp.ms (by decide) (by decide), fun e he => hp (h.mp.pgs e he) (by rw [h.rll e he]; omega)⟩
    la := ha h.la (by decide) (by decide)
    wa := ha h.wa (by decide) (by decide)
    lp := fun e he => ⟨hp (h.lp e he).1 (by have := h.rlt' he; omega), (h.lp e he).2⟩
    wp := fun e he => ⟨hp (h.wp e he).1 (by rw [h.rwt e he]; omega), (h.wp e he).2⟩ }
end
theorem PairAt.kept {w w' : World} {ow ow' : Nat → Nat} {pg : Nat} {z : Bool} (h : PairAt w ow pg z) (hk : ∀ b, ow b = pg → b < w.heap.size → w'.heap[b]? = w.heap[b]?) (ho : ∀ b, ow b = pg → b < w.heap.size → ow' b = pg) : PairAt w' ow' pg z := by
  obtain ⟨tg, rg, g, cap, g', cap', n, f, lv, wv, sv, mv, LT, WT, LL, ρ, h⟩ := h
  exact ⟨tg, rg, g, cap, g', cap', n, f, lv, wv, sv, mv, LT, WT, LL, ρ, h.kept hk ho⟩
theorem PairAt.below {w w' : World} {ow : Nat → Nat} {pg : Nat} {z : Bool} (h : PairAt w ow pg z) (hb : Below w.heap.size w w') : PairAt w' ow pg z := h.kept (fun b _ hl => hb.block b hl) fun _ e _ => e
theorem PairAt.lt {w : World} {ow : Nat → Nat} {pg : Nat} {z : Bool} (h : PairAt w ow pg z) : pg < w.heap.size := by
  obtain ⟨tg, rg, g, cap, g', cap', n, f, lv, wv, sv, mv, LT, WT, LL, ρ, h⟩ := h
  exact heap_lt h.p6
theorem PairAt.ends {w : World} {ow : Nat → Nat} {pg : Nat} {z : Bool} (h : PairAt w ow pg z) : PairAt w ow pg true := by
  obtain ⟨tg, rg, g, cap, g', cap', n, f, lv, wv, sv, mv, LT, WT, LL, ρ, h⟩ := h
  exact ⟨tg, rg, g, cap, g', cap', n, f, lv, wv, sv, mv, LT, WT, LL, ρ, { h with
    lw := h.lw.elim .inl fun k => .inr ⟨rfl, k.2⟩
    b1 := fun e => by cases e }⟩
/-- A step on one pair leaves another as it was. -/
theorem PairAt.other {w w' : World} {ow : Nat → Nat} {pg pk : Nat} {z : Bool} (h : PairAt w ow pk z) (hf : FrP (fun b => ow b = pg) w w') (hne : pk ≠ pg) : PairAt w' (owx ow w.heap.size pg) pk z :=
  h.kept (fun b hb hl => hf.block b hl (fun e => hne (hb.symm.trans e))) fun b hb hl => by rw [owx_old hl]; exact hb

/-- What a call on a pair leaves: the pair, and nothing else is touched. -/
def PStep (w : World) (ow : Nat → Nat) (pg : Nat) (z : Bool) (w' : World) : Prop := PairAt w' (owx ow w.heap.size pg) pg z ∧ FrP (fun b => ow b = pg) w w'
theorem PStep.below {w w' : World} {ow : Nat → Nat} {pg : Nat} {z : Bool} (h : PairAt w ow pg z) (hb : Below w.heap.size w w') : PStep w ow pg z w' :=
  ⟨h.kept (fun b _ hl => hb.block b hl) fun _ e _ => owx_own e, FrP.of_below hb⟩
/-- A pair of new tables. -/
theorem PairG.fresh {w' : World} {ow : Nat → Nat} {pg tg rg g cap g' cap' n : Nat} {f : Nat → Pg} (hp : P6 w' pg (.pointer (some ⟨tg, 0, none⟩)) (.pointer (some ⟨rg, 0, none⟩)) (.slice none 0 0) (.slice none 0 0) (.slice none 0 0) (.slice none 0 0))
    (hT : Tab w' tg g n cap f) (hR : RTab w' rg g' n cap' f) (ho : ow pg = pg ∧ ow tg = pg ∧ ow rg = pg ∧ ow g = pg ∧ ow g' = pg) (hne : g ≠ g') : PairAt w' ow pg false :=
  ⟨tg, rg, g, cap, g', cap', n, f, _, _, _, _, [], [], [], fun b => if b = g then 0 else 1,
  { p6 := hp
    tab := hT
    rtab := hR
    mp := ⟨Arr.nil _ _, Arr.nil _ _, fun e he => by cases he⟩
    la := Arr.nil _ _
    wa := Arr.nil _ _
    lp := fun e he => by cases he
    wp := fun e he => by cases he
    lw := .inl rfl
    o5 := ho
    oa := fun b hb => by simp [ob] at hb
    ol := fun e he => by cases he
    owt := fun e he => by cases he
    oll := fun e he => by cases he
    r0 := if_pos rfl
    r1 := if_neg (Ne.symm hne)
    rs := fun b hb => by simp [ob] at hb
    rl := fun b hb => by simp [ob] at hb
    rw_ := fun b hb => by simp [ob] at hb
    rll := fun e he => by cases he
    rwt := fun e he => by cases he
    rlt := fun i e he => by simp at he
    bm := fun e he => by cases he
    b0 := by simp
    b1 := fun _ => by simp }⟩
end Go.Proofs.Ytcdeimmjhfimjaa
