/- looked, walked, for the kinds 10 and 11. No condition. -/
import Derived.Test.YtcdeimmjhfimjaaTu
namespace Go.Proofs.Ytcdeimmjhfimjaa
open Go.RowKit Go.Proofs.Ytcdeimmjhfimjaa.Pp
set_option linter.unusedVariables false

theorem cell_alloc' {w : World} {p : Addr} {v : Value} {o : Obj} (hc : w.cell? p = some v) : (w.alloc o).cell? p = some v := by
  have hl : p.block < w.heap.size := by
    unfold World.cell? at hc
    rcases Nat.lt_or_ge p.block w.heap.size with h | h
    · exact h
    · rw [Array.getElem?_eq_none h] at hc
      cases hc
  unfold World.cell? at hc ⊢
  rw [Below.heap_alloc w o p.block hl]
  exact hc
theorem TabL.drew' {w : World} {tg g n cap l : Nat} {f : Nat → Pg} (h : TabL w tg g n cap f l) : TabL w.drew tg g n cap f l := h.drew

set_option maxRecDepth 100000 in
set_option maxHeartbeats 1600000 in
theorem looked_11 {w : World} {ow : Nat → Nat} {pg : Nat} (hP : PairAt w ow pg false) (a c : Int) :
    Calls Try.prog 12 #[.pointer (some ⟨pg, 0, none⟩), .agg #[.int .i64 a, .int .i64 11, .int .i64 c]] w fun e w' => e = .returned (.bool true) ∧ PStep w ow pg false w' := by
  have HPA := Lib.hid hP
  obtain ⟨tg, rg, g, cap, g', cap', n, f, lv, wv, sv, mv, LT, WT, LL, ρ, hP⟩ := hP
  have hA : P6 (w.alloc (Obj.cells #[.int .i64 a, .int .i64 11, .int .i64 c] 28)) pg _ _ _ _ _ _ := hP.p6.alloc _
  have c0 := hA.c0
  have c1 := hA.c1
  obtain ⟨l, hTl⟩ := hP.tab
  have hbx : Below w.heap.size w (w.alloc (Obj.cells #[.int .i64 a, .int .i64 11, .int .i64 c] 28)) := (Below.refl _ _).alloc (Nat.le_refl _) _
  have hT := (hTl.below hbx)
  have hR := (hP.rtab.below hbx)
  have c2 := hR.c0
  have H1 := Lib.hid (count_any hT.drew)
  have H2 := Lib.hid (rcount_any hR.drew)
  have H3 := Lib.hid (len_any hT.drew)
  have HB := Lib.hid hbx
  have n4 := hT.n4
  clear hA hP hTl hbx hT hR
  go_enter Try.func12, Try.ntmps12
  go_wp2_with fail
  go_region_held3 (fun w' => w'.cell? ⟨pg, 0, none⟩ = some (.pointer (some ⟨tg, 0, none⟩)) ∧ w'.cell? ⟨pg, 1, none⟩ = some (.pointer (some ⟨rg, 0, none⟩)) ∧ w'.cell? ⟨rg, 0, none⟩ = some (.slice (some ⟨g', 0, none⟩) n cap')) (first | exact ⟨c0, c1, c2⟩)
    (first
      | (go_at_call 18; refine H1.out.mono ?_; rintro e w2 ⟨rfl, rfl⟩)
      | (go_at_call 28; refine H2.out.mono ?_; rintro e w2 ⟨rfl, rfl⟩)
      | (go_at_call 29; refine H3.out.mono ?_; rintro e w2 ⟨rfl, rfl⟩))
  go_wp2_with fail
  go_ret
  exact ⟨by simp, PStep.below HPA.out HB.out.drew⟩
end Go.Proofs.Ytcdeimmjhfimjaa
