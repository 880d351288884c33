/- What looked leaves of a pair for the kind 12. No condition. -/
import Derived.Test.YtcdeimmjhfimjaaLd
namespace Go.Proofs.Ytcdeimmjhfimjaa
open Go.RowKit Go.Proofs.Ytcdeimmjhfimjaa.Pp
set_option linter.unusedVariables false

/-- What the append to left leaves, begun in world w. -/
structure Left1 (w w' : World) (pg NL : Nat) (a b lv wv sv mv : Value) (xs : List Value) (n : Nat) (f : Nat → Pg) (b1 c1 b2 c2 g c : Nat) : Prop where
  p6 : P6 w' pg a b (.slice (some ⟨g, 0, none⟩) (NL + 2) c) wv sv mv
  la : Arr w' 43 (.slice (some ⟨g, 0, none⟩) (NL + 2) c) (xs ++ [.slice (some ⟨b1, 0, none⟩) n c1, .slice (some ⟨b2, 0, none⟩) n c2])
  h1 : PgAt w' b1 n c1 f
  h2 : PgAt w' b2 n c2 f
  lt : w.heap.size ≤ b1 ∧ b1 < b2
  gd : g ∈ ob lv ∨ w.heap.size ≤ g
  fr : Fr (pg :: ob lv) w w'

theorem left_done {w w4 w5 : World} {pg NL : Nat} {a b lv wv sv mv : Value} {xs : List Value} {n : Nat} {f : Nat → Pg} {b1 c1 b2 c2 g c : Nat} {o : Obj} (hp : P6 w pg a b lv wv sv mv) (la : Arr w 43 lv xs) (hb : Below w.heap.size w w4) (h1 : PgAt w4 b1 n c1 f) (h2 : PgAt w4 b2 n c2 f) (lt : w.heap.size ≤ b1 ∧ b1 < b2)
    (hA : Arr w5 43 (.slice (some ⟨g, 0, none⟩) (NL + 2) c) (xs ++ [.slice (some ⟨b1, 0, none⟩) n c1, .slice (some ⟨b2, 0, none⟩) n c2])) (hF : Fr (ob lv) (w4.alloc o) w5) (hO : g ∈ ob lv ∨ (w4.alloc o).heap.size ≤ g) :
    P6 w5 pg a b lv wv sv mv ∧ Left1 w (w5.setCell ⟨pg, 2, none⟩ (.slice (some ⟨g, 0, none⟩) (NL + 2) c)) pg NL a b lv wv sv mv xs n f b1 c1 b2 c2 g c := by
  have hn : pg ∉ ob lv := la.ne hp (by decide)
  have la4 := la.below hb
  have hs := hb.size
  have hp5 : P6 w5 pg a b lv wv sv mv := ((hp.below hb).alloc o).fr hF hn
  have e1 : PgAt w5 b1 n c1 f := (h1.alloc o).fr hF (h1.not_arr la4 (by decide))
  have e2 : PgAt w5 b2 n c2 f := (h2.alloc o).fr hF (h2.not_arr la4 (by decide))
  refine ⟨hp5, hp5.set2 _, hA.far (p := ⟨pg, 2, none⟩) (hA.ne hp5 (by decide)) _, e1.far (p := ⟨pg, 2, none⟩) (e1.ne_p6 hp5) _, e2.far (p := ⟨pg, 2, none⟩) (e2.ne_p6 hp5) _, lt, ?_, ?_⟩
  · rcases hO with hO | hO
    · exact .inl hO
    · exact .inr (by simp at hO; omega)
  · have h0 : Fr (pg :: ob lv) w w5 := ((Fr.of_below hb).alloc o).trans ((hF.more fun k _ hk => List.mem_cons_of_mem _ hk))
    exact h0.setCell (p := ⟨pg, 2, none⟩) (.inl List.mem_cons_self) _

/-- What the append to were leaves, begun in world w. -/
structure Right1 (w w' : World) (pg NL : Nat) (a b lv wv sv mv : Value) (xs : List Value) (n : Nat) (f : Nat → Pg) (b1 c1 b2 c2 g c : Nat) : Prop where
  p6 : P6 w' pg a b lv (.slice (some ⟨g, 0, none⟩) (NL + 2) c) sv mv
  wa : Arr w' 43 (.slice (some ⟨g, 0, none⟩) (NL + 2) c) (xs ++ [.slice (some ⟨b1, 0, none⟩) n c1, .slice (some ⟨b2, 0, none⟩) n c2])
  h1 : PgAt w' b1 n c1 f
  h2 : PgAt w' b2 n c2 f
  lt : w.heap.size ≤ b1 ∧ b1 < b2
  gd : g ∈ ob wv ∨ w.heap.size ≤ g
  fr : Fr (pg :: ob wv) w w'

theorem right_done {w w4 w5 : World} {pg NL : Nat} {a b lv wv sv mv : Value} {xs : List Value} {n : Nat} {f : Nat → Pg} {b1 c1 b2 c2 g c : Nat} {o : Obj} (hp : P6 w pg a b lv wv sv mv) (la : Arr w 43 wv xs) (hb : Below w.heap.size w w4) (h1 : PgAt w4 b1 n c1 f) (h2 : PgAt w4 b2 n c2 f) (lt : w.heap.size ≤ b1 ∧ b1 < b2)
    (hA : Arr w5 43 (.slice (some ⟨g, 0, none⟩) (NL + 2) c) (xs ++ [.slice (some ⟨b1, 0, none⟩) n c1, .slice (some ⟨b2, 0, none⟩) n c2])) (hF : Fr (ob wv) (w4.alloc o) w5) (hO : g ∈ ob wv ∨ (w4.alloc o).heap.size ≤ g) :
    P6 w5 pg a b lv wv sv mv ∧ Right1 w (w5.setCell ⟨pg, 3, none⟩ (.slice (some ⟨g, 0, none⟩) (NL + 2) c)) pg NL a b lv wv sv mv xs n f b1 c1 b2 c2 g c := by
  have hn : pg ∉ ob wv := la.ne hp (by decide)
  have la4 := la.below hb
  have hs := hb.size
  have hp5 : P6 w5 pg a b lv wv sv mv := ((hp.below hb).alloc o).fr hF hn
  have e1 : PgAt w5 b1 n c1 f := (h1.alloc o).fr hF (h1.not_arr la4 (by decide))
  have e2 : PgAt w5 b2 n c2 f := (h2.alloc o).fr hF (h2.not_arr la4 (by decide))
  refine ⟨hp5, hp5.set3 _, hA.far (p := ⟨pg, 3, none⟩) (hA.ne hp5 (by decide)) _, e1.far (p := ⟨pg, 3, none⟩) (e1.ne_p6 hp5) _, e2.far (p := ⟨pg, 3, none⟩) (e2.ne_p6 hp5) _, lt, ?_, ?_⟩
  · rcases hO with hO | hO
    · exact .inl hO
    · exact .inr (by simp at hO; omega)
  · have h0 : Fr (pg :: ob wv) w w5 := ((Fr.of_below hb).alloc o).trans ((hF.more fun k _ hk => List.mem_cons_of_mem _ hk))
    exact h0.setCell (p := ⟨pg, 3, none⟩) (.inl List.mem_cons_self) _

section
variable {w w2 wc wd w' : World} {ow : Nat → Nat} {pg tg rg g cap g' cap' n NL : Nat} {f : Nat → Pg} {lv wv sv mv sv' mv' : Value} {LT : List Ent} {LL LN : List LE} {ρ : Nat → Nat} {bl cl b1 c1 b2 c2 b3 c3 b4 c4 g1 d1 g2 d2 : Nat}
theorem look_mark (h : PairG w ow pg false tg rg g cap g' cap' n f lv wv sv mv LT LT LL ρ) (hB : Below w.heap.size w w2) (hl : PgAt w2 bl n cl f) (hbl : w.heap.size ≤ bl)
    (h1 : Left1 w2 wc pg NL (.pointer (some ⟨tg, 0, none⟩)) (.pointer (some ⟨rg, 0, none⟩)) lv wv sv mv (LT.map Ent.lval) n f b1 c1 b2 c2 g1 d1) (h2 : Right1 wc wd pg NL (.pointer (some ⟨tg, 0, none⟩)) (.pointer (some ⟨rg, 0, none⟩)) (.slice (some ⟨g1, 0, none⟩) (NL + 2) d1) wv sv mv (LT.map Ent.wval) n f b3 c3 b4 c4 g2 d2) :
    MP wd sv mv LL ∧ PgAt wd bl n cl f ∧ ∀ e, e ∈ LL → e.b ≠ bl := by
  have hp2 := h.below hB
  have n47 : ∀ {k m c : Nat} {u : Nat → Pg}, PgAt w2 k m c u → PgAt wd k m c u := fun hk => by
    obtain ⟨cur, hb⟩ := hk.blk47
    refine (hk.fr h1.fr ?_).fr h2.fr ?_
    · simp only [List.mem_cons, not_or]; exact ⟨hk.ne_p6 hp2.p6, hp2.la.ne hb (by decide)⟩
    · simp only [List.mem_cons, not_or]; exact ⟨hk.ne_p6 hp2.p6, hp2.wa.ne hb (by decide)⟩
  refine ⟨⟨?_, ?_, fun e he => n47 (hp2.mp.pgs e he)⟩, n47 hl, fun e he e2 => ?_⟩
  · have hc : ∀ b, b ∈ ob sv → b ≠ pg ∧ b ∉ ob lv ∧ b ∉ ob wv := fun b hb => by
      obtain ⟨cur, hc⟩ := hp2.mp.ls.blk hb
      refine ⟨heap_ne hc hp2.p6 (by decide), fun hx => ?_, fun hx => ?_⟩
      · have := h.rs b hb; have := h.rl b hx; omega
      · have := h.rs b hb; have := h.rw_ b hx; omega
    exact (hp2.mp.ls.fr h1.fr fun b hb => by simp only [List.mem_cons, not_or]; exact ⟨(hc b hb).1, (hc b hb).2.1⟩).fr h2.fr fun b hb => by simp only [List.mem_cons, not_or]; exact ⟨(hc b hb).1, (hc b hb).2.2⟩
  · have hc : ∀ b, b ∈ ob mv → b ≠ pg ∧ b ∉ ob lv ∧ b ∉ ob wv := fun b hb => by
      obtain ⟨cur, hc⟩ := hp2.mp.ms.blk hb
      exact ⟨heap_ne hc hp2.p6 (by decide), hp2.la.ne hc (by decide), hp2.wa.ne hc (by decide)⟩
    exact (hp2.mp.ms.fr h1.fr fun b hb => by simp only [List.mem_cons, not_or]; exact ⟨(hc b hb).1, (hc b hb).2.1⟩).fr h2.fr fun b hb => by simp only [List.mem_cons, not_or]; exact ⟨(hc b hb).1, (hc b hb).2.2⟩
  · have := (h.mp.pgs e he).lt
    omega

/-- The roles behind it. -/
def rho12 (ρ : Nat → Nat) (s NL b1 b2 g1 b3 b4 g2 : Nat) : Nat → Nat := fun b => if b < s then ρ b else if b = b1 then 5 + NL else if b = b2 then 6 + NL else if b = g1 then 3 else if b = b3 ∨ b = b4 ∨ b = g2 then 4 else 2
theorem look_end (h : PairG w ow pg false tg rg g cap g' cap' n f lv wv sv mv LT LT LL ρ) (hB : Below w.heap.size w w2) (hl : PgAt w2 bl n cl f) (hbl : w.heap.size ≤ bl) (hNL : LT.length = NL) (hNS : LL.length < 600) (hn : n ≤ 4096)
    (h1 : Left1 w2 wc pg NL (.pointer (some ⟨tg, 0, none⟩)) (.pointer (some ⟨rg, 0, none⟩)) lv wv sv mv (LT.map Ent.lval) n f b1 c1 b2 c2 g1 d1) (h2 : Right1 wc wd pg NL (.pointer (some ⟨tg, 0, none⟩)) (.pointer (some ⟨rg, 0, none⟩)) (.slice (some ⟨g1, 0, none⟩) (NL + 2) d1) wv sv mv (LT.map Ent.wval) n f b3 c3 b4 c4 g2 d2)
    (hM : MSt wd w' pg (.pointer (some ⟨tg, 0, none⟩)) (.pointer (some ⟨rg, 0, none⟩)) (.slice (some ⟨g1, 0, none⟩) (NL + 2) d1) (.slice (some ⟨g2, 0, none⟩) (NL + 2) d2) sv mv LL bl LN sv' mv') (h18 : LN.length = 18) (hbm : ∀ e, e ∈ LN → 0 ≤ e.m ∧ e.m ≤ 60000) : PStep w ow pg false w' := by
  have hp2 := h.below hB
  have s1 := hB.size
  have s2 := h1.fr.size
  have s3 := h2.fr.size
  have s4 := hM.fr.size
  have lbl := hl.lt
  have lb1 := h1.h1.lt
  have lb2 := h1.h2.lt
  have lb3 := h2.h1.lt
  have lb4 := h2.h2.lt
  have lg1 : g1 < wc.heap.size := h1.la.lt (by simp [ob])
  have lg2 : g2 < wd.heap.size := h2.wa.lt (by simp [ob])
  obtain ⟨t1, t2⟩ := h1.lt
  obtain ⟨t3, t4⟩ := h2.lt
  obtain ⟨l, ht⟩ := h.tab
  obtain ⟨o1, o2, o3, o4, o5⟩ := h.o5
  obtain ⟨cg1, hg1⟩ := h1.la.blk (b := g1) (by simp [ob])
  obtain ⟨cg2, hg2⟩ := h2.wa.blk (b := g2) (by simp [ob])
  -- an old block of another kind is as it was
  have keep : ∀ b, b < w.heap.size → b ≠ pg → b ∉ ob lv → b ∉ ob wv → b ∉ ob sv → b ∉ ob mv → w'.heap[b]? = w.heap[b]? := fun b hb k1 k2 k3 k4 k5 => by
    refine (hM.fr.block b (by omega) (by simp only [List.mem_cons, List.mem_append, not_or]; exact ⟨k1, by omega, k4, k5⟩)).trans ((h2.fr.block b (by omega) (by simp only [List.mem_cons, not_or]; exact ⟨k1, k3⟩)).trans ((h1.fr.block b (by omega) (by simp only [List.mem_cons, not_or]; exact ⟨k1, k2⟩)).trans (hB.block b hb)))
  have kb : ∀ {b : Nat} {cs : Array Value} {t : TypeId}, w.heap[b]? = some (.cells cs t (0, 0)) → t ≠ 60 → t ≠ 43 → t ≠ 3 → w'.heap[b]? = w.heap[b]? := fun hb k1 k2 k3 =>
    keep _ (heap_lt hb) (heap_ne hb h.p6 k1) (h.la.ne hb k2) (h.wa.ne hb k2) (h.mp.ls.ne hb k2) (h.mp.ms.ne hb k3)
  have kp : ∀ {k m c : Nat} {u : Nat → Pg}, PgAt w k m c u → PgAt w' k m c u := fun hk => by
    obtain ⟨cur, hb⟩ := hk.blk47
    exact hk.kept (kb hb (by decide) (by decide) (by decide))
  -- the new rows of pages
  have kd : ∀ {k m c : Nat} {u : Nat → Pg}, PgAt wd k m c u → k ≠ bl → PgAt w' k m c u := fun {k m c u} hk hne => by
    obtain ⟨cur, hb⟩ := hk.blk47
    refine hk.fr hM.fr ?_
    simp only [List.mem_cons, List.mem_append, not_or]
    exact ⟨hk.ne_p6 h2.p6, hne, (look_mark h hB hl hbl h1 h2).1.ls.ne hb (by decide), (look_mark h hB hl hbl h1 h2).1.ms.ne hb (by decide)⟩
  have kcd : ∀ {k m c : Nat} {u : Nat → Pg}, PgAt wc k m c u → PgAt wd k m c u := fun {k m c u} hk => by
    obtain ⟨cur, hb⟩ := hk.blk47
    refine hk.fr h2.fr ?_
    simp only [List.mem_cons, not_or]
    refine ⟨hk.ne_p6 h1.p6, fun hx => ?_⟩
    obtain ⟨cur2, hc2⟩ := hp2.wa.blk hx
    have e1 : wc.heap[k]? = w2.heap[k]? := h1.fr.block k (heap_lt hc2) (by
      simp only [List.mem_cons, not_or]
      refine ⟨heap_ne hc2 hp2.p6 (by decide), fun hy => ?_⟩
      have := h.rl k hy
      have := h.rw_ k hx
      omega)
    exact heap_ne hb (e1.trans hc2) (by decide) rfl
  have e1 := kd (kcd h1.h1) (by omega)
  have e2 := kd (kcd h1.h2) (by omega)
  have e3 := kd h2.h1 (by omega)
  have e4 := kd h2.h2 (by omega)
  have hcd : wd.heap[g1]? = wc.heap[g1]? := h2.fr.block g1 lg1 (by
    simp only [List.mem_cons, not_or]
    refine ⟨heap_ne hg1 h1.p6 (by decide), fun hx => ?_⟩
    have := h.wa.lt hx
    rcases h1.gd with hy | hy
    · have := h.rl g1 hy; have := h.rw_ g1 hx; omega
    · omega)
  have nsv : ∀ x, x ∈ ob sv → ρ x = 2 ∧ x < w.heap.size := fun x hx => ⟨h.rs x hx, h.mp.ls.lt hx⟩
  have nmv := (look_mark h hB hl hbl h1 h2).1.ms
  have hla : Arr w' 43 (.slice (some ⟨g1, 0, none⟩) (NL + 2) d1) (LT.map Ent.lval ++ [.slice (some ⟨b1, 0, none⟩) n c1, .slice (some ⟨b2, 0, none⟩) n c2]) := h1.la.kept fun b hb => by
    simp [ob] at hb
    subst hb
    refine (hM.fr.block b (by omega) ?_).trans hcd
    simp only [List.mem_cons, List.mem_append, not_or]
    refine ⟨heap_ne hg1 h1.p6 (by decide), fun e => ?_, fun hx => ?_, nmv.ne (hcd.trans hg1) (by decide)⟩
    · obtain ⟨cur, hc⟩ := ((look_mark h hB hl hbl h1 h2).2.1).blk47
      exact heap_ne (hcd.trans hg1) hc (by decide) e
    · have := nsv b hx
      rcases h1.gd with hy | hy
      · have := h.rl b hy; omega
      · omega
  have hwa : Arr w' 43 (.slice (some ⟨g2, 0, none⟩) (NL + 2) d2) (LT.map Ent.wval ++ [.slice (some ⟨b3, 0, none⟩) n c3, .slice (some ⟨b4, 0, none⟩) n c4]) := h2.wa.kept fun b hb => by
    simp [ob] at hb
    subst hb
    refine hM.fr.block b lg2 ?_
    simp only [List.mem_cons, List.mem_append, not_or]
    refine ⟨heap_ne hg2 h2.p6 (by decide), fun e => ?_, fun hx => ?_, nmv.ne hg2 (by decide)⟩
    · obtain ⟨cur, hc⟩ := ((look_mark h hB hl hbl h1 h2).2.1).blk47
      exact heap_ne hg2 hc (by decide) e
    · have := nsv b hx
      rcases h2.gd with hy | hy
      · have := h.rw_ b hy; omega
      · omega
  have hbl1 : bl ≠ g1 := fun e => by
    obtain ⟨cur, hc⟩ := ((look_mark h hB hl hbl h1 h2).2.1).blk47
    exact heap_ne (hcd.trans hg1) hc (by decide) e.symm
  have hbl2 : bl ≠ g2 := fun e => by
    obtain ⟨cur, hc⟩ := ((look_mark h hB hl hbl h1 h2).2.1).blk47
    exact heap_ne hg2 hc (by decide) e.symm
  have hg1b : g1 ≠ b1 ∧ g1 ≠ b2 := by
    obtain ⟨u1, v1⟩ := h1.h1.blk47
    obtain ⟨u2, v2⟩ := h1.h2.blk47
    exact ⟨heap_ne hg1 v1 (by decide), heap_ne hg1 v2 (by decide)⟩
  have rnew : ∀ x, wd.heap.size ≤ x → rho12 ρ w.heap.size NL b1 b2 g1 b3 b4 g2 x = 2 := fun x hx => by
    unfold rho12
    rw [if_neg (by omega), if_neg (by omega), if_neg (by omega), if_neg (by omega), if_neg (by omega)]
  have rold : ∀ x, x < w.heap.size → rho12 ρ w.heap.size NL b1 b2 g1 b3 b4 g2 x = ρ x := fun x hx => if_pos hx
  have hbb := h.b1 rfl
  refine ⟨⟨tg, rg, g, cap, g', cap', n, f, .slice (some ⟨g1, 0, none⟩) (NL + 2) d1, .slice (some ⟨g2, 0, none⟩) (NL + 2) d2, sv', mv', LT ++ [⟨b1, c1, b3, c3, n, f⟩, ⟨b2, c2, b4, c4, n, f⟩], LT ++ [⟨b1, c1, b3, c3, n, f⟩, ⟨b2, c2, b4, c4, n, f⟩], LL ++ LN, rho12 ρ w.heap.size NL b1 b2 g1 b3 b4 g2, ?_⟩, ?_⟩
  · exact
    { p6 := hM.p6
      tab := ⟨l, ht.blk.kept (kb ht.blk (by decide) (by decide) (by decide)), kp ht.pg, ht.wf, ht.lows, ht.lown, ht.n1, ht.n4⟩
      rtab := ⟨(kb h.rtab.blk (by decide) (by decide) (by decide)).trans h.rtab.blk, kp h.rtab.pg, h.rtab.wf, h.rtab.n1, h.rtab.n4⟩
      mp := hM.mp
      la := by rw [List.map_append]; exact hla
      wa := by rw [List.map_append]; exact hwa
      lp := fun e he => by
        rcases List.mem_append.1 he with he | he
        · exact ⟨kp (h.lp e he).1, (h.lp e he).2⟩
        · simp at he
          rcases he with rfl | rfl
          · exact ⟨e1, hn⟩
          · exact ⟨e2, hn⟩
      wp := fun e he => by
        rcases List.mem_append.1 he with he | he
        · exact ⟨kp (h.wp e he).1, (h.wp e he).2⟩
        · simp at he
          rcases he with rfl | rfl
          · exact ⟨e3, hn⟩
          · exact ⟨e4, hn⟩
      lw := .inl rfl
      o5 := ⟨owx_own o1, owx_own o2, owx_own o3, owx_own o4, owx_own o5⟩
      oa := fun b hb => by
        rcases hb with hb | hb | hb | hb
        · simp [ob] at hb
          subst hb
          rcases h1.gd with hy | hy
          · exact owx_own (h.oa b (by simp [hy]))
          · exact owx_new (by omega)
        · simp [ob] at hb
          subst hb
          rcases h2.gd with hy | hy
          · exact owx_own (h.oa b (by simp [hy]))
          · exact owx_new (by omega)
        · rcases hM.os b hb with hy | hy
          · exact owx_own (h.oa b (by simp [hy]))
          · exact owx_new (by omega)
        · rcases hM.om b hb with hy | hy
          · exact owx_own (h.oa b (by simp [hy]))
          · exact owx_new (by omega)
      ol := fun e he => by
        rcases List.mem_append.1 he with he | he
        · exact owx_own (h.ol e he)
        · simp at he
          rcases he with rfl | rfl
          · exact owx_new (show w.heap.size ≤ b1 by omega)
          · exact owx_new (show w.heap.size ≤ b2 by omega)
      owt := fun e he => by
        rcases List.mem_append.1 he with he | he
        · exact owx_own (h.owt e he)
        · simp at he
          rcases he with rfl | rfl
          · exact owx_new (show w.heap.size ≤ b3 by omega)
          · exact owx_new (show w.heap.size ≤ b4 by omega)
      oll := fun e he => by
        rcases List.mem_append.1 he with he | he
        · exact owx_own (h.oll e he)
        · rcases hM.nb e he with hy | hy
          · rw [hy]; exact owx_new hbl
          · exact owx_new (by omega)
      r0 := (rold g ht.pg.lt).trans h.r0
      r1 := (rold g' h.rtab.pg.lt).trans h.r1
      rs := fun b hb => by
        rcases hM.os b hb with hy | hy
        · exact (rold b (nsv b hy).2).trans (nsv b hy).1
        · exact rnew b hy
      rl := fun b hb => by
        simp [ob] at hb
        subst hb
        rcases h1.gd with hy | hy
        · exact (rold b (h.la.lt hy)).trans (h.rl b hy)
        · unfold rho12
          rw [if_neg (by omega), if_neg hg1b.1, if_neg hg1b.2, if_pos rfl]
      rw_ := fun b hb => by
        simp [ob] at hb
        subst hb
        rcases h2.gd with hy | hy
        · exact (rold b (h.wa.lt hy)).trans (h.rw_ b hy)
        · unfold rho12
          rw [if_neg (by omega), if_neg (by omega), if_neg (by omega), if_neg (by omega), if_pos (.inr (.inr rfl))]
      rll := fun e he => by
        rcases List.mem_append.1 he with he | he
        · exact (rold _ (h.mp.pgs e he).lt).trans (h.rll e he)
        · rcases hM.nb e he with hy | hy
          · rw [hy]
            unfold rho12
            rw [if_neg (by omega), if_neg (by omega), if_neg (by omega), if_neg hbl1, if_neg (by omega)]
          · exact rnew _ hy
      rwt := fun e he => by
        rcases List.mem_append.1 he with he | he
        · exact (rold _ (h.wp e he).1.lt).trans (h.rwt e he)
        · simp at he
          rcases he with rfl | rfl
          · show rho12 ρ w.heap.size NL b1 b2 g1 b3 b4 g2 b3 = 4
            unfold rho12
            rw [if_neg (by omega), if_neg (by omega), if_neg (by omega), if_neg (by omega), if_pos (.inl rfl)]
          · show rho12 ρ w.heap.size NL b1 b2 g1 b3 b4 g2 b4 = 4
            unfold rho12
            rw [if_neg (by omega), if_neg (by omega), if_neg (by omega), if_neg (by omega), if_pos (.inr (.inl rfl))]
      rlt := fun i e he => by
        by_cases hi : i < LT.length
        · rw [List.getElem?_append_left hi] at he
          exact (rold _ (h.lp e (List.mem_of_getElem? he)).1.lt).trans (h.rlt i e he)
        · rw [List.getElem?_append_right (by omega)] at he
          have hi2 : i - LT.length = 0 ∨ i - LT.length = 1 := by
            have := (List.getElem?_eq_some_iff.1 he).1
            simp at this
            omega
          rcases hi2 with hi2 | hi2
          · rw [hi2] at he
            simp at he
            subst he
            show rho12 ρ w.heap.size NL b1 b2 g1 b3 b4 g2 b1 = 5 + i
            unfold rho12
            rw [if_neg (by omega), if_pos rfl]
            omega
          · rw [hi2] at he
            simp at he
            subst he
            show rho12 ρ w.heap.size NL b1 b2 g1 b3 b4 g2 b2 = 5 + i
            unfold rho12
            rw [if_neg (by omega), if_neg (by omega), if_pos rfl]
            omega
      bm := fun e he => by
        rcases List.mem_append.1 he with he | he
        · exact h.bm e he
        · exact hbm e he
      b0 := by
        simp only [List.length_append, List.length_cons, List.length_nil, h18]
        omega
      b1 := fun _ => by
        simp only [List.length_append, List.length_cons, List.length_nil, h18]
        omega }
  · refine ⟨hM.fr.os.trans (h2.fr.os.trans (h1.fr.os.trans hB.os)), hM.fr.tape.trans (h2.fr.tape.trans (h1.fr.tape.trans hB.tape)), hM.fr.output.trans (h2.fr.output.trans (h1.fr.output.trans hB.output)), by omega, fun k hk hnk => ?_⟩
    exact keep k hk (fun e => hnk (by rw [e]; exact o1)) (fun hx => hnk (h.oa k (by simp [hx]))) (fun hx => hnk (h.oa k (by simp [hx]))) (fun hx => hnk (h.oa k (by simp [hx]))) (fun hx => hnk (h.oa k (by simp [hx])))
end
end Go.Proofs.Ytcdeimmjhfimjaa
