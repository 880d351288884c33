/- looked, walked, for the kind 10. No condition. -/
import Derived.Test.YtcdeimmjhfimjaaLk
namespace Go.Proofs.Ytcdeimmjhfimjaa
open Go.RowKit Go.Proofs.Ytcdeimmjhfimjaa.Pp
set_option linter.unusedVariables false

theorem cell_dr {w : World} {p : Addr} {v : Value} (h : w.cell? p = some v) : w.drew.cell? p = some v := h
theorem lkA {w W0 w2 : World} {bo b5 : Nat} {O P' : Obj} (hw : Below w.heap.size w W0) (ho : W0.heap[bo]? = some O) (hp : W0.heap[b5]? = some P') (hB : Below W0.drew.heap.size W0.drew w2) (o : Obj) :
    Below w.heap.size w (w2.alloc o) ∧ (w2.alloc o).heap[bo]? = some O ∧ (w2.alloc o).heap[b5]? = some P' ∧ (w2.alloc o).heap[w2.heap.size]? = some o := by
  have hb1 : Below W0.heap.size W0 w2 := bthen ((Below.refl _ _).drew) hB
  have hb2 : Below W0.heap.size W0 (w2.alloc o) := hb1.alloc hb1.size _
  exact ⟨bthen hw hb2, (hb2.block _ (heap_lt ho)).trans ho, (hb2.block _ (heap_lt hp)).trans hp, World.alloc_heap_new _ _⟩
theorem lkB {w W0 w2 : World} {bo b5 : Nat} {O P' : Obj} (hw : Below w.heap.size w W0) (ho : W0.heap[bo]? = some O) (hp : W0.heap[b5]? = some P') (hb1 : Below W0.heap.size W0 w2) (hx : w2.heap[W0.heap.size]? = some (Obj.cells #[.int .i64 0, .int .i64 0, .int .i64 0] 47 (0, 0))) (v0 v1 v2 : Int) :
    Below w.heap.size w (((w2.setCell ⟨W0.heap.size, 0, none⟩ (.int .i64 v0)).setCell ⟨W0.heap.size, 1, none⟩ (.int .i64 v1)).setCell ⟨W0.heap.size, 2, none⟩ (.int .i64 v2)) ∧
    (((w2.setCell ⟨W0.heap.size, 0, none⟩ (.int .i64 v0)).setCell ⟨W0.heap.size, 1, none⟩ (.int .i64 v1)).setCell ⟨W0.heap.size, 2, none⟩ (.int .i64 v2)).heap[bo]? = some O ∧
    (((w2.setCell ⟨W0.heap.size, 0, none⟩ (.int .i64 v0)).setCell ⟨W0.heap.size, 1, none⟩ (.int .i64 v1)).setCell ⟨W0.heap.size, 2, none⟩ (.int .i64 v2)).heap[b5]? = some P' ∧
    (((w2.setCell ⟨W0.heap.size, 0, none⟩ (.int .i64 v0)).setCell ⟨W0.heap.size, 1, none⟩ (.int .i64 v1)).setCell ⟨W0.heap.size, 2, none⟩ (.int .i64 v2)).heap[W0.heap.size]? = some (Obj.cells #[.int .i64 v0, .int .i64 v1, .int .i64 v2] 47 (0, 0)) := by
  have hb2 : Below W0.heap.size W0 (((w2.setCell ⟨W0.heap.size, 0, none⟩ (.int .i64 v0)).setCell ⟨W0.heap.size, 1, none⟩ (.int .i64 v1)).setCell ⟨W0.heap.size, 2, none⟩ (.int .i64 v2)) :=
    ((hb1.setCell (p := ⟨W0.heap.size, 0, none⟩) (Nat.le_refl _) _).setCell (p := ⟨W0.heap.size, 1, none⟩) (Nat.le_refl _) _).setCell (p := ⟨W0.heap.size, 2, none⟩) (Nat.le_refl _) _
  refine ⟨bthen hw hb2, (hb2.block _ (heap_lt ho)).trans ho, (hb2.block _ (heap_lt hp)).trans hp, ?_⟩
  rw [heap_set_same (heap_set_same (heap_set_same hx _) _) _]
  rfl

set_option maxRecDepth 100000 in
set_option maxHeartbeats 1600000 in
theorem looked_10 {w : World} {ow : Nat → Nat} {pg : Nat} (hP : PairAt w ow pg false) (a c : Int) :
    Calls Try.prog 12 #[.pointer (some ⟨pg, 0, none⟩), .agg #[.int .i64 a, .int .i64 10, .int .i64 c]] w fun e w' => e = .returned (.bool true) ∧ PStep w ow pg false w' := by
  have HPA := Lib.hid hP
  obtain ⟨tg, rg, g, cap, g', cap', n, f, lv, wv, sv, mv, LT, WT, LL, ρ, hP⟩ := hP
  have HP := Lib.hid hP
  obtain ⟨l, hTl⟩ := hP.tab
  have HTl := Lib.hid hTl
  have HRl := Lib.hid hP.rtab
  have hbx : Below w.heap.size w (w.alloc (Obj.cells #[.int .i64 a, .int .i64 10, .int .i64 c] 28)) := (Below.refl _ _).alloc (Nat.le_refl _) _
  have HW := Lib.hid (And.intro hbx (And.intro (World.alloc_heap_new w (Obj.cells #[.int .i64 a, .int .i64 10, .int .i64 c] 28)) (World.alloc_heap_new w (Obj.cells #[.int .i64 a, .int .i64 10, .int .i64 c] 28))))
  clear hP hTl hbx
  obtain ⟨v0, v1, v2, b, H1, H2⟩ : ∃ v0 v1 v2 : Int, ∃ b : Bool, Hid (∀ w1, TabL w1 tg g n cap f l → Calls Try.prog 24 #[.pointer (some ⟨tg, 0, none⟩), .int .i64 c] w1 fun e w' => e = .returned (.tuple #[.agg #[.int .i64 v0, .int .i64 v1, .int .i64 v2], .bool b]) ∧ Below w1.heap.size w1 w')
      ∧ Hid (∀ w1, RTab w1 rg g' n cap' f → Calls Try.prog 27 #[.pointer (some ⟨rg, 0, none⟩), .int .i64 c] w1 fun e w' => e = .returned (.tuple #[.agg #[.int .i64 v0, .int .i64 v1, .int .i64 v2], .bool b]) ∧ Below w1.heap.size w1 w') := by
    by_cases h : 0 ≤ c ∧ c < n
    · obtain ⟨i, rfl⟩ : ∃ i : Nat, c = (i : Int) := ⟨c.toNat, by omega⟩
      exact ⟨(f i).k, (f i).c, (f i).r, true, Lib.hid fun w1 h1 => state_in h1 i (by omega), Lib.hid fun w1 h1 => rstate_in h1 i (by omega)⟩
    · exact ⟨0, 0, 0, false, Lib.hid fun w1 h1 => state_out h1 c (by omega), Lib.hid fun w1 h1 => rstate_out h1 c (by omega)⟩
  go_enter Try.func12, Try.ntmps12
  go_upto_region 3 with (fail)
  obtain ⟨W0, hW0⟩ : ∃ x, x = w.alloc (Obj.cells #[.int .i64 a, .int .i64 10, .int .i64 c] 28) := ⟨_, rfl⟩
  obtain ⟨bo, hbo⟩ : ∃ x, x = w.heap.size := ⟨_, rfl⟩
  have HW : Hid (Below w.heap.size w W0 ∧ W0.heap[bo]? = some (Obj.cells #[.int .i64 a, .int .i64 10, .int .i64 c] 28 (0, 0)) ∧ W0.heap[bo]? = some (Obj.cells #[.int .i64 a, .int .i64 10, .int .i64 c] 28 (0, 0))) := by rw [hW0, hbo]; exact HW
  rw [← hW0, ← hbo]
  clear hW0 hbo
  go_cut [5, 6] (fun v5 v6 wc => ∃ bx : Nat, v5 = .pointer (some ⟨bx, 0, none⟩) ∧ v6 = .bool b ∧ Hid (Below w.heap.size w wc ∧ wc.heap[bo]? = some (Obj.cells #[.int .i64 a, .int .i64 10, .int .i64 c] 28 (0, 0)) ∧ wc.heap[bo]? = some (Obj.cells #[.int .i64 a, .int .i64 10, .int .i64 c] 28 (0, 0)) ∧ wc.heap[bx]? = some (Obj.cells #[.int .i64 v0, .int .i64 v1, .int .i64 v2] 47 (0, 0))))
  case first =>
    have hp6 := HP.out.p6.below HW.out.1
    have c0 := hp6.c0
    have hob := HW.out.2.1
    have c2 : W0.cell? ⟨bo, 2, none⟩ = some (.int .i64 c) := heap_cell hob 2
    have HL := Lib.hid (And.intro (heap_lt hp6) (And.intro (heap_lt hob) (show pg ≠ W0.heap.size ∧ bo ≠ W0.heap.size from ⟨by have := heap_lt hp6; omega, by have := heap_lt hob; omega⟩)))
    have HT0 := Lib.hid (HTl.out.below HW.out.1)
    clear hp6 hob
    go_wp2_with fail
    go_region_held3 (fun w' => w'.cell? ⟨pg, 0, none⟩ = some (.pointer (some ⟨tg, 0, none⟩)) ∧ w'.cell? ⟨bo, 2, none⟩ = some (.int .i64 c)) (first | with_reducible exact ⟨c0, c2⟩ | with_reducible exact ⟨cell_dr c0, cell_dr c2⟩ | with_reducible exact ⟨cell_dr (cell_alloc' c0), cell_dr (cell_alloc' c2)⟩ | with_reducible exact ⟨d0, d2⟩ | with_reducible exact ⟨cell_put3 HL.out.2.2.1 d0, cell_put3 HL.out.2.2.2 d2⟩ | with_reducible exact ⟨cell_alloc' d0, cell_alloc' d2⟩ | with_reducible exact ⟨cell_alloc' c0, cell_alloc' c2⟩)
      (first
        | (go_at_call 24
           refine (H1.out _ HT0.out.drew).mono ?_
           rintro e w2 ⟨rfl, hB⟩
           have d0 := hB.cell (p := ⟨pg, 0, none⟩) HL.out.1 |>.trans c0
           have d2 := hB.cell (p := ⟨bo, 2, none⟩) HL.out.2.1 |>.trans c2
           have HR := Lib.hid (lkA HW.out.1 HW.out.2.1 HW.out.2.2 hB (Obj.cells #[.int .i64 v0, .int .i64 v1, .int .i64 v2] 47))
           clear hB)
        | (go_at_call 24
           refine (H1.out _ (HT0.out.alloc (Obj.cells #[.int .i64 0, .int .i64 0, .int .i64 0] 47)).drew).mono ?_
           rintro e w2 ⟨rfl, hB⟩
           have hb1 : Below W0.heap.size W0 w2 := bthen (((Below.refl _ _).alloc (Nat.le_refl _) (Obj.cells #[.int .i64 0, .int .i64 0, .int .i64 0] 47)).drew) hB
           have hx : w2.heap[W0.heap.size]? = some (Obj.cells #[.int .i64 0, .int .i64 0, .int .i64 0] 47 (0, 0)) := (hB.block _ (by simp)).trans (World.alloc_heap_new W0 (Obj.cells #[.int .i64 0, .int .i64 0, .int .i64 0] 47))
           have d0 := hb1.cell (p := ⟨pg, 0, none⟩) HL.out.1 |>.trans c0
           have d2 := hb1.cell (p := ⟨bo, 2, none⟩) HL.out.2.1 |>.trans c2
           have x0 : w2.cell? ⟨W0.heap.size, 0, none⟩ = some (.int .i64 0) := heap_cell hx 0
           have x1 : w2.cell? ⟨W0.heap.size, 1, none⟩ = some (.int .i64 0) := heap_cell hx 1
           have x2 : w2.cell? ⟨W0.heap.size, 2, none⟩ = some (.int .i64 0) := heap_cell hx 2
           have y0 := heap_free hx 0
           have y1 := heap_free hx 1
           have y2 := heap_free hx 2
           have HR := Lib.hid (lkB HW.out.1 HW.out.2.1 HW.out.2.2 hb1 hx v0 v1 v2)
           clear hB hb1 hx))
    all_goals
      go_wp2_with fail
      go_meet
      exact ⟨_, rfl, rfl, HR⟩
  case rest =>
    obtain ⟨b5, rfl, rfl, HW1⟩ := hcut
    clear HW
    clear W0
    obtain ⟨W0, hW1⟩ : ∃ x, x = wc := ⟨_, rfl⟩
    subst hW1
    have HW : Hid (Below w.heap.size w W0 ∧ W0.heap[bo]? = some (Obj.cells #[.int .i64 a, .int .i64 10, .int .i64 c] 28 (0, 0)) ∧ W0.heap[b5]? = some (Obj.cells #[.int .i64 v0, .int .i64 v1, .int .i64 v2] 47 (0, 0))) := ⟨HW1.out.1, HW1.out.2.1, HW1.out.2.2.2⟩
    go_upto_region 4 with (fail)
    go_cut [7, 8] (fun v5 v6 wc => ∃ bx : Nat, v5 = .pointer (some ⟨bx, 0, none⟩) ∧ v6 = .bool b ∧ Hid (Below w.heap.size w wc ∧ wc.heap[bo]? = some (Obj.cells #[.int .i64 a, .int .i64 10, .int .i64 c] 28 (0, 0)) ∧ wc.heap[b5]? = some (Obj.cells #[.int .i64 v0, .int .i64 v1, .int .i64 v2] 47 (0, 0)) ∧ wc.heap[bx]? = some (Obj.cells #[.int .i64 v0, .int .i64 v1, .int .i64 v2] 47 (0, 0))))
    case first =>
      have hp6 := HP.out.p6.below HW.out.1
      have c0 := hp6.c1
      have hob := HW.out.2.1
      have c2 : W0.cell? ⟨bo, 2, none⟩ = some (.int .i64 c) := heap_cell hob 2
      have HL := Lib.hid (And.intro (heap_lt hp6) (And.intro (heap_lt hob) (show pg ≠ W0.heap.size ∧ bo ≠ W0.heap.size from ⟨by have := heap_lt hp6; omega, by have := heap_lt hob; omega⟩)))
      have HT0 := Lib.hid (HRl.out.below HW.out.1)
      clear hp6 hob
      go_wp2_with fail
      go_region_held3 (fun w' => w'.cell? ⟨pg, 1, none⟩ = some (.pointer (some ⟨rg, 0, none⟩)) ∧ w'.cell? ⟨bo, 2, none⟩ = some (.int .i64 c)) (first | with_reducible exact ⟨c0, c2⟩ | with_reducible exact ⟨cell_dr c0, cell_dr c2⟩ | with_reducible exact ⟨cell_dr (cell_alloc' c0), cell_dr (cell_alloc' c2)⟩ | with_reducible exact ⟨d0, d2⟩ | with_reducible exact ⟨cell_put3 HL.out.2.2.1 d0, cell_put3 HL.out.2.2.2 d2⟩ | with_reducible exact ⟨cell_alloc' d0, cell_alloc' d2⟩ | with_reducible exact ⟨cell_alloc' c0, cell_alloc' c2⟩)
        (first
          | (go_at_call 27
             refine (H2.out _ HT0.out.drew).mono ?_
             rintro e w2 ⟨rfl, hB⟩
             have d0 := hB.cell (p := ⟨pg, 1, none⟩) HL.out.1 |>.trans c0
             have d2 := hB.cell (p := ⟨bo, 2, none⟩) HL.out.2.1 |>.trans c2
             have HR := Lib.hid (lkA HW.out.1 HW.out.2.1 HW.out.2.2 hB (Obj.cells #[.int .i64 v0, .int .i64 v1, .int .i64 v2] 47))
             clear hB)
          | (go_at_call 27
             refine (H2.out _ (HT0.out.alloc (Obj.cells #[.int .i64 0, .int .i64 0, .int .i64 0] 47)).drew).mono ?_
             rintro e w2 ⟨rfl, hB⟩
             have hb1 : Below W0.heap.size W0 w2 := bthen (((Below.refl _ _).alloc (Nat.le_refl _) (Obj.cells #[.int .i64 0, .int .i64 0, .int .i64 0] 47)).drew) hB
             have hx : w2.heap[W0.heap.size]? = some (Obj.cells #[.int .i64 0, .int .i64 0, .int .i64 0] 47 (0, 0)) := (hB.block _ (by simp)).trans (World.alloc_heap_new W0 (Obj.cells #[.int .i64 0, .int .i64 0, .int .i64 0] 47))
             have d0 := hb1.cell (p := ⟨pg, 1, none⟩) HL.out.1 |>.trans c0
             have d2 := hb1.cell (p := ⟨bo, 2, none⟩) HL.out.2.1 |>.trans c2
             have x0 : w2.cell? ⟨W0.heap.size, 0, none⟩ = some (.int .i64 0) := heap_cell hx 0
             have x1 : w2.cell? ⟨W0.heap.size, 1, none⟩ = some (.int .i64 0) := heap_cell hx 1
             have x2 : w2.cell? ⟨W0.heap.size, 2, none⟩ = some (.int .i64 0) := heap_cell hx 2
             have y0 := heap_free hx 0
             have y1 := heap_free hx 1
             have y2 := heap_free hx 2
             have HR := Lib.hid (lkB HW.out.1 HW.out.2.1 HW.out.2.2 hb1 hx v0 v1 v2)
             clear hB hb1 hx))
      all_goals
        go_wp2_with fail
        go_meet
        exact ⟨_, rfl, rfl, HR⟩
    case rest =>
      obtain ⟨b7, rfl, rfl, HW2⟩ := hcut
      have z0 : wc.cell? ⟨b5, 0, none⟩ = some (.int .i64 v0) := heap_cell HW2.out.2.2.1 0
      have z1 : wc.cell? ⟨b5, 1, none⟩ = some (.int .i64 v1) := heap_cell HW2.out.2.2.1 1
      have z2 : wc.cell? ⟨b5, 2, none⟩ = some (.int .i64 v2) := heap_cell HW2.out.2.2.1 2
      have t0 : wc.cell? ⟨b7, 0, none⟩ = some (.int .i64 v0) := heap_cell HW2.out.2.2.2 0
      have t1 : wc.cell? ⟨b7, 1, none⟩ = some (.int .i64 v1) := heap_cell HW2.out.2.2.2 1
      have t2 : wc.cell? ⟨b7, 2, none⟩ = some (.int .i64 v2) := heap_cell HW2.out.2.2.2 2
      go_wp2_with fail
      go_ret
      exact ⟨by simp, PStep.below HPA.out HW2.out.1⟩
end Go.Proofs.Ytcdeimmjhfimjaa
