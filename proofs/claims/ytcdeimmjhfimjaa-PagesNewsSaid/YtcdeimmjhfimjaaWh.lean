/- Copy; the laws' own helpers within, free, samePages. No condition. -/
import Derived.Test.YtcdeimmjhfimjaaWg
namespace Go.Proofs.Ytcdeimmjhfimjaa
open Go.RowKit Go.Proofs.Ytcdeimmjhfimjaa.Pp
set_option linter.unusedVariables false

def CopyP (w : World) (n : Nat) (f : Nat → Pg) (e : Ending) (w' : World) : Prop :=
  ∃ tg g cap, e = .returned (.pointer (some ⟨tg, 0, none⟩)) ∧ Tab w' tg g n cap f ∧ w.heap.size ≤ tg ∧ w.heap.size ≤ g ∧ Below w.heap.size w w'
theorem TabL.alloc {w : World} {tg g n cap l : Nat} {f : Nat → Pg} (h : TabL w tg g n cap f l) (o : Obj) : TabL (w.alloc o) tg g n cap f l :=
  h.below ((Below.refl _ _).alloc (Nat.le_refl _) o)
theorem copy_any {w : World} {tg g n cap : Nat} {f : Nat → Pg} (h : Tab w tg g n cap f) : Calls Try.prog 36 #[.pointer (some ⟨tg, 0, none⟩)] w (CopyP w n f) := by
  obtain ⟨l, h⟩ := h
  have c0 := h.blk.c0
  have c1 := h.blk.c1
  have c2 := h.blk.c2
  have H0 := Lib.hid h
  clear h
  go_enter Try.func36, Try.ntmps36
  go_wp2_with fail
  refine (all_any (H0.out.alloc _)).mono ?_
  rintro e w1 ⟨g', cap', rfl, hP, hg', hB⟩
  have hT : T3 w1 w.heap.size (.slice (some ⟨g, 0, none⟩) n cap) (.int .i64 l) (.int .i64 (cnt f n : Nat)) :=
    (hB.block w.heap.size (by simp)).trans (heap_alloc_new w _)
  have x0 := hT.c0
  have z0 := hT.free 0
  have HT := Lib.hid hT
  have HP := Lib.hid hP
  have HB := Lib.hid hB
  have HG := Lib.hid hg'
  clear hT hP hB hg'
  go_wp2_with fail
  go_ret
  have hne := HT.out.ne HP.out
  have hbb : Below w.heap.size w w1 := ((Below.refl _ _).alloc (Nat.le_refl _) _).trans (HB.out.mono (by simp))
  exact ⟨w.heap.size, g', cap', rfl, ⟨l, HT.out.set0 _, PgAt.far (p := ⟨w.heap.size, 0, none⟩) HP.out hne.symm _, H0.out.wf, H0.out.lows, H0.out.lown, H0.out.n1, H0.out.n4⟩, Nat.le_refl _, by rw [HG.out]; simp, hbb.setCell (Nat.le_refl _) _⟩

/-- A number brought to 0 .. n - 1. -/
def withinV (x n : Int) : Int := (if x < 0 then -(x + 1) else x) % n
theorem within_bd (x : Int) {n : Int} (hn : 1 ≤ n) : 0 ≤ withinV x n ∧ withinV x n < n := by
  unfold withinV
  exact ⟨Int.emod_nonneg _ (by omega), Int.emod_lt_of_pos _ (by omega)⟩
theorem within_any (x n : Int) (hx0 : -9223372036854775808 ≤ x) (hx1 : x ≤ 9223372036854775807) (hn : 1 ≤ n) (w : World) :
    Calls Try.prog 14 #[.int .i64 x, .int .i64 n] w fun e w' => e = .returned (.int .i64 (withinV x n)) ∧ w = w' := by
  by_cases h : x < 0
  · go_enter Try.func14, Try.ntmps14
    go_wp2
    go_ret
    exact ⟨ret_int (by unfold withinV; rw [if_pos h, ← Int.neg_tmod, Int.tmod_eq_emod_of_nonneg (by omega)]), rfl⟩
  · go_enter Try.func14, Try.ntmps14
    go_wp2
    go_ret
    exact ⟨ret_int (by unfold withinV; rw [if_neg (by omega)]), rfl⟩

theorem isFree_any {w : World} {tg g n cap l : Nat} {f : Nat → Pg} (h : TabL w tg g n cap f l) (i : Nat) (hi : i < n) :
    Calls Try.prog 21 #[.pointer (some ⟨tg, 0, none⟩), .int .i64 (i : Int)] w fun e w' => e = .returned (.bool (isz (f i))) ∧ Below w.heap.size w w' := by
  have hk := h.wf.isz hi
  have HC := Lib.hid (state_in h i hi)
  have HK := Lib.hid hk
  clear h hk
  go_enter Try.func21, Try.ntmps21
  go_wp2_with (go_at_call 24; refine HC.out.mono ?_; rintro e w3 ⟨rfl, hb⟩)
  go_ret
  refine ⟨ret_bool ?_, hb.alloc hb.size _⟩
  rw [Bool.eq_iff_iff, HK.out]
  simp

theorem same_any {w : World} {g g' n cap cap' : Nat} {f : Nat → Pg} (h : PgAt w g n cap f) (h' : PgAt w g' n cap' f) :
    Calls Try.prog 23 #[.slice (some ⟨g, 0, none⟩) n cap, .slice (some ⟨g', 0, none⟩) n cap'] w fun e w' => e = .returned (.bool true) ∧ Below w.heap.size w w' := by
  have hmax := Nat.le_trans h.le h.max
  unfold maxLen at hmax
  have HA := Lib.hid h
  have HB := Lib.hid h'
  clear h h'
  go_enter Try.func23, Try.ntmps23
  go_wp2
  go_loopw [5] (fun i wr => ∃ k : Nat, k ≤ n ∧ i = .int .i64 (k : Int) ∧ Below w.heap.size w wr) (fun i _ => n - (intOf i).toNat)
  case atStart => exact ⟨0, by omega, rfl, Below.refl _ _⟩
  case round =>
    obtain ⟨k, hk, rfl, hbw⟩ := hrel
    by_cases hlt : k < n
    · have PA := HA.out.below hbw
      have PB := HB.out.below hbw
      have a0 := PA.k hlt
      have a1 := PA.c hlt
      have a2 := PA.r hlt
      have b0 := PB.k hlt
      have b1 := PB.c hlt
      have b2 := PB.r hlt
      have i0 : (0 : Int) ≤ k := by omega
      have i1 : (k : Int) < n := by omega
      clear PA PB
      go_wp2
      go_quiet (fail)
      go_wp2
      go_roundw
      case rel => exact ⟨k + 1, by omega, by go_num, below_drewN hbw _⟩
      case measure => simp [intOf]; omega
    · go_wp2
      go_ret
      exact ⟨rfl, hbw⟩
end Go.Proofs.Ytcdeimmjhfimjaa
