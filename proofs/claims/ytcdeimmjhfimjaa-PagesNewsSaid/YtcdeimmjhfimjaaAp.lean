/- What apart's marking keeps. No condition. -/
import Derived.Test.YtcdeimmjhfimjaaTu
namespace Go.Proofs.Ytcdeimmjhfimjaa
open Go.RowKit Go.Proofs.Ytcdeimmjhfimjaa.Pp
set_option linter.unusedVariables false

/-- The first j of left are marked. -/
structure ASt (w0 w : World) (pg : Nat) (a b lv wv sv0 mv0 : Value) (LT : List Ent) (LL0 : List LE) (j : Nat) (sv mv : Value) (LL : List LE) : Prop where
  fr : FrP (fun x => x = pg ∨ x ∈ ob sv0 ∨ x ∈ ob mv0 ∨ ∃ i e, i < j ∧ LT[i]? = some e ∧ x = e.lb) w0 w
  p6 : P6 w pg a b lv wv sv mv
  mp : MP w sv mv LL
  os : ∀ x, x ∈ ob sv → x ∈ ob sv0 ∨ w0.heap.size ≤ x
  om : ∀ x, x ∈ ob mv → x ∈ ob mv0 ∨ w0.heap.size ≤ x
  le : ∀ e, e ∈ LL → e ∈ LL0 ∨ (∃ i x, i < j ∧ LT[i]? = some x ∧ e.b = x.lb) ∨ w0.heap.size ≤ e.b
  len : LL.length = LL0.length + 18 * j
  bm : ∀ e, e ∈ LL → 0 ≤ e.m ∧ e.m ≤ 60000
section
variable {w0 w w' : World} {ow : Nat → Nat} {pg tg rg g cap g' cap' n : Nat} {z : Bool} {f : Nat → Pg} {lv wv sv0 mv0 sv mv : Value} {LT WT : List Ent} {LL0 LL : List LE} {ρ : Nat → Nat} {j : Nat}
theorem ASt.start (h : PairG w0 ow pg z tg rg g cap g' cap' n f lv wv sv0 mv0 LT WT LL0 ρ) : ASt w0 w0 pg (.pointer (some ⟨tg, 0, none⟩)) (.pointer (some ⟨rg, 0, none⟩)) lv wv sv0 mv0 LT LL0 0 sv0 mv0 LL0 :=
  ⟨FrP.refl _ _, h.p6, h.mp, fun x hx => .inl hx, fun x hx => .inl hx, fun e he => .inl he, by simp, h.bm⟩
theorem ASt.keeps {a b : Value} (h : ASt w0 w pg a b lv wv sv0 mv0 LT LL0 j sv mv LL) {k : Nat} (hk : k < w0.heap.size) (h1 : k ≠ pg) (h2 : k ∉ ob sv0) (h3 : k ∉ ob mv0) (h4 : ∀ i e, i < j → LT[i]? = some e → k ≠ e.lb) : w.heap[k]? = w0.heap[k]? :=
  h.fr.block k hk (by
    rintro (e | e | e | ⟨i, x, hi, hx, e⟩)
    · exact h1 e
    · exact h2 e
    · exact h3 e
    · exact h4 i x hi hx e)
/-- A row of pages that is not one of the marked ones. -/
theorem ASt.page {a b : Value} (h : ASt w0 w pg a b lv wv sv0 mv0 LT LL0 j sv mv LL) (hP : PairG w0 ow pg z tg rg g cap g' cap' n f lv wv sv0 mv0 LT WT LL0 ρ) {k m c : Nat} {u : Nat → Pg} (hk : PgAt w0 k m c u) (h4 : ∀ i e, i < j → LT[i]? = some e → k ≠ e.lb) : PgAt w k m c u :=
  hk.kept (h.keeps hk.lt (hk.ne_p6 hP.p6) (hk.not_arr hP.mp.ls (by decide)) (hk.not_arr hP.mp.ms (by decide)) h4)
theorem ASt.next {a b : Value} (h : ASt w0 w pg a b lv wv sv0 mv0 LT LL0 j sv mv LL) (hP : PairG w0 ow pg z tg rg g cap g' cap' n f lv wv sv0 mv0 LT WT LL0 ρ) {x : Ent} (hx : LT[j]? = some x) : PgAt w x.lb x.n x.lc x.h ∧ x.n ≤ 4096 ∧ (∀ e, e ∈ LL → e.b ≠ x.lb) := by
  have hm := List.mem_of_getElem? hx
  have hr := hP.rlt j x hx
  obtain ⟨hp, hn⟩ := hP.lp x hm
  refine ⟨h.page hP hp fun i e hi he e2 => ?_, hn, fun e he e2 => ?_⟩
  · have := hP.rlt i e he
    rw [← e2] at this
    omega
  · rcases h.le e he with hl | ⟨i, y, hi, hy, hb⟩ | hl
    · have := hP.rll e hl
      rw [e2] at this
      omega
    · have := hP.rlt i y hy
      rw [← hb, e2] at this
      omega
    · have := hp.lt
      omega
theorem ASt.step {a b : Value} (h : ASt w0 w pg a b lv wv sv0 mv0 LT LL0 j sv mv LL) {x : Ent} (hx : LT[j]? = some x) {sv' mv' : Value} {LN : List LE} (hM : MSt w w' pg a b lv wv sv mv LL x.lb LN sv' mv') (hl : LN.length = 18) (hb : ∀ e, e ∈ LN → 0 ≤ e.m ∧ e.m ≤ 60000) : ASt w0 w' pg a b lv wv sv0 mv0 LT LL0 (j + 1) sv' mv' (LL ++ LN) := by
  have hs := h.fr.size
  refine ⟨?_, hM.p6, hM.mp, fun y hy => ?_, fun y hy => ?_, fun e he => ?_, by rw [List.length_append, h.len, hl]; omega, fun e he => ?_⟩
  · have h1 : FrP (fun x => x = pg ∨ x ∈ ob sv0 ∨ x ∈ ob mv0 ∨ ∃ i e, i < j + 1 ∧ LT[i]? = some e ∧ x = e.lb) w0 w :=
      ⟨h.fr.os, h.fr.tape, h.fr.output, h.fr.size, fun k hk hn => h.fr.block k hk fun hs => hn (by
        rcases hs with e | e | e | ⟨i, e, hi, he, hb⟩
        · exact .inl e
        · exact .inr (.inl e)
        · exact .inr (.inr (.inl e))
        · exact .inr (.inr (.inr ⟨i, e, by omega, he, hb⟩)))⟩
    refine h1.fr_then hM.fr fun y hy hys => ?_
    simp only [List.mem_cons, List.mem_append] at hy
    rcases hy with e | e | e | e
    · exact .inl e
    · exact .inr (.inr (.inr ⟨j, x, by omega, hx, e⟩))
    · rcases h.os y e with e | e
      · exact .inr (.inl e)
      · omega
    · rcases h.om y e with e | e
      · exact .inr (.inr (.inl e))
      · omega
  · rcases hM.os y hy with e | e
    · exact h.os y e
    · exact .inr (by omega)
  · rcases hM.om y hy with e | e
    · exact h.om y e
    · exact .inr (by omega)
  · rcases List.mem_append.1 he with he | he
    · rcases h.le e he with e1 | ⟨i, y, hi, hy, e1⟩ | e1
      · exact .inl e1
      · exact .inr (.inl ⟨i, y, by omega, hy, e1⟩)
      · exact .inr (.inr e1)
    · rcases hM.nb e he with e1 | e1
      · exact .inr (.inl ⟨j, x, by omega, hx, e1⟩)
      · exact .inr (.inr (by omega))
  · rcases List.mem_append.1 he with he | he
    · exact h.bm e he
    · exact hb e he
theorem ASt.left {a b : Value} (h : ASt w0 w pg a b lv wv sv0 mv0 LT LL0 j sv mv LL) (hP : PairG w0 ow pg z tg rg g cap g' cap' n f lv wv sv0 mv0 LT WT LL0 ρ) : Arr w 43 lv (LT.map Ent.lval) :=
  hP.la.kept fun b hb => by
    obtain ⟨cur, hc⟩ := hP.la.blk hb
    refine h.keeps (hP.la.lt hb) (heap_ne hc hP.p6 (by decide)) (fun hx => ?_) (hP.mp.ms.ne hc (by decide)) fun i e hi he => ?_
    · have h1 := hP.rs b hx
      have h2 := hP.rl b hb
      omega
    · obtain ⟨cur, hb⟩ := (hP.lp e (List.mem_of_getElem? he)).1.blk47
      exact heap_ne hc hb (by decide)
theorem Arr.at2 {E : TypeId} {A : Option Addr} {k c : Nat} {xs : List Value} {i : Nat} {u : Value} (h : Arr w E (.slice A k c) xs) (hu : xs[i]? = some u) : ∃ g, A = some ⟨g, 0, none⟩ ∧ w.cell? ⟨g, i, none⟩ = some u := by
  obtain ⟨hi, rfl⟩ := List.getElem?_eq_some_iff.1 hu
  obtain ⟨g, c', hv, hc⟩ := h.at_ hi
  injection hv with hv
  exact ⟨g, hv, hc⟩
/-- All of left is marked, left is empty. -/
theorem ASt.done (hP : PairG w0 ow pg z tg rg g cap g' cap' n f lv wv sv0 mv0 LT WT LL0 ρ) (h : ASt w0 w pg (.pointer (some ⟨tg, 0, none⟩)) (.pointer (some ⟨rg, 0, none⟩)) lv wv sv0 mv0 LT LL0 j sv mv LL) (hl : LL0.length + 18 * j ≤ 2000) :
    PairG (w.setCell ⟨pg, 2, none⟩ (.slice none 0 0)) (owx ow w0.heap.size pg) pg true tg rg g cap g' cap' n f (.slice none 0 0) wv sv mv [] WT LL (fun b => if b < w0.heap.size then (if 5 ≤ ρ b then 2 else ρ b) else 2) ∧ FrP (fun b => ow b = pg) w0 (w.setCell ⟨pg, 2, none⟩ (.slice none 0 0)) := by
  obtain ⟨l, ht⟩ := hP.tab
  obtain ⟨o1, o2, o3, o4, o5⟩ := hP.o5
  have hg := ht.pg.lt
  have hg' := hP.rtab.pg.lt
  have hpt : pg ≠ tg := heap_ne hP.p6 ht.blk (by decide)
  have hpr : pg ≠ rg := heap_ne hP.p6 hP.rtab.blk (by decide)
  have hpgs : ∀ {k m c : Nat} {u : Nat → Pg}, PgAt w0 k m c u → (∀ i e, i < j → LT[i]? = some e → k ≠ e.lb) → PgAt (w.setCell ⟨pg, 2, none⟩ (.slice none 0 0)) k m c u := fun hk h4 =>
    (h.page hP hk h4).far (hk.ne_p6 hP.p6) _
  have hl5 : ∀ {k : Nat}, ρ k < 5 → ∀ i e, i < j → LT[i]? = some e → k ≠ e.lb := fun hk i e hi he e2 => by
    have := hP.rlt i e he
    rw [← e2] at this
    omega
  have hnl : ∀ {k : Nat} {cs : Array Value} {t : TypeId}, w0.heap[k]? = some (.cells cs t (0, 0)) → t ≠ 47 → ∀ i e, i < j → LT[i]? = some e → k ≠ e.lb := fun hk ht i e hi he => by
    obtain ⟨cur, hb⟩ := (hP.lp e (List.mem_of_getElem? he)).1.blk47
    exact heap_ne hk hb ht
  have hns : pg ∉ ob sv := h.mp.ls.ne h.p6 (by decide)
  have hnm : pg ∉ ob mv := h.mp.ms.ne h.p6 (by decide)
  have hwa : Arr w 43 wv (WT.map Ent.wval) := hP.wa.kept fun b hb => by
    obtain ⟨cur, hc⟩ := hP.wa.blk hb
    refine h.keeps (hP.wa.lt hb) (heap_ne hc hP.p6 (by decide)) (fun hx => ?_) (hP.mp.ms.ne hc (by decide)) (hnl hc (by decide))
    have h1 := hP.rs b hx
    have h2 := hP.rw_ b hb
    omega
  refine ⟨?_, ?_⟩
  · exact
    { p6 := h.p6.set2 _
      tab := ⟨l, (ht.blk.kept (h.keeps ht.lt hpt.symm (hP.mp.ls.ne ht.blk (by decide)) (hP.mp.ms.ne ht.blk (by decide)) (hnl ht.blk (by decide)))).far (p := ⟨pg, 2, none⟩) hpt.symm _, hpgs ht.pg (hl5 (by rw [hP.r0]; omega)), ht.wf, ht.lows, ht.lown, ht.n1, ht.n4⟩
      rtab := ⟨(heap_set_far (p := ⟨pg, 2, none⟩) hpr.symm _).trans ((h.keeps hP.rtab.lt hpr.symm (hP.mp.ls.ne hP.rtab.blk (by decide)) (hP.mp.ms.ne hP.rtab.blk (by decide)) (hnl hP.rtab.blk (by decide))).trans hP.rtab.blk), hpgs hP.rtab.pg (hl5 (by rw [hP.r1]; omega)), hP.rtab.wf, hP.rtab.n1, hP.rtab.n4⟩
      mp := ⟨h.mp.ls.far (p := ⟨pg, 2, none⟩) hns _, h.mp.ms.far (p := ⟨pg, 2, none⟩) hnm _, fun e he => (h.mp.pgs e he).far (p := ⟨pg, 2, none⟩) ((h.mp.pgs e he).ne_p6 h.p6) _⟩
      la := Arr.nil _ _
      wa := hwa.far (p := ⟨pg, 2, none⟩) (hP.wa.ne hP.p6 (by decide)) _
      lp := fun e he => by cases he
      wp := fun e he => ⟨hpgs (hP.wp e he).1 (hl5 (by rw [hP.rwt e he]; omega)), (hP.wp e he).2⟩
      lw := .inr ⟨rfl, rfl⟩
      o5 := ⟨owx_own o1, owx_own o2, owx_own o3, owx_own o4, owx_own o5⟩
      oa := fun b hb => by
        rcases hb with hb | hb | hb | hb
        · simp [ob] at hb
        · exact owx_own (hP.oa b (by simp [hb]))
        · rcases h.os b hb with hb | hb
          · exact owx_own (hP.oa b (by simp [hb]))
          · exact owx_new hb
        · rcases h.om b hb with hb | hb
          · exact owx_own (hP.oa b (by simp [hb]))
          · exact owx_new hb
      ol := fun e he => by cases he
      owt := fun e he => owx_own (hP.owt e he)
      oll := fun e he => by
        rcases h.le e he with e1 | ⟨i, y, hi, hy, e1⟩ | e1
        · exact owx_own (hP.oll e e1)
        · rw [e1]; exact owx_own (hP.ol y (List.mem_of_getElem? hy))
        · exact owx_new e1
      r0 := by show (if g < w0.heap.size then _ else _) = 0; rw [if_pos hg, hP.r0]; rfl
      r1 := by show (if g' < w0.heap.size then _ else _) = 1; rw [if_pos hg', hP.r1]; rfl
      rs := fun b hb => by
        show (if b < w0.heap.size then _ else _) = 2
        rcases h.os b hb with hb | hb
        · rw [hP.rs b hb]; split <;> rfl
        · rw [if_neg (by omega)]
      rl := fun b hb => by simp [ob] at hb
      rw_ := fun b hb => by
        show (if b < w0.heap.size then _ else _) = 4
        rw [if_pos (hP.wa.lt hb), hP.rw_ b hb]; rfl
      rll := fun e he => by
        show (if e.b < w0.heap.size then _ else _) = 2
        rcases h.le e he with e1 | ⟨i, y, hi, hy, e1⟩ | e1
        · rw [hP.rll e e1]; split <;> rfl
        · rw [e1, if_pos (c := 5 ≤ ρ y.lb) (by have := hP.rlt i y hy; omega)]; split <;> rfl
        · rw [if_neg (by omega)]
      rwt := fun e he => by
        show (if e.wb < w0.heap.size then _ else _) = 4
        rw [if_pos (hP.wp e he).1.lt, hP.rwt e he]; rfl
      rlt := fun i e he => by simp at he
      bm := h.bm
      b0 := by rw [h.len]; simpa using hl
      b1 := fun e => by cases e }
  · refine ⟨h.fr.os, h.fr.tape, h.fr.output, by simpa [World.setCell] using h.fr.size, fun k hk hn => ?_⟩
    have hkp : k ≠ pg := fun e => hn (by rw [e]; exact o1)
    refine (heap_set_far (p := ⟨pg, 2, none⟩) hkp _).trans (h.fr.block k hk ?_)
    rintro (e | e | e | ⟨i, x, hi, hx, e⟩)
    · exact hkp e
    · exact hn (hP.oa k (by simp [e]))
    · exact hn (hP.oa k (by simp [e]))
    · exact hn (by rw [e]; exact hP.ol x (List.mem_of_getElem? hx))
end
end Go.Proofs.Ytcdeimmjhfimjaa
