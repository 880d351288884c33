/- ClassTable, walked. No condition. -/
import Derived.Test.YtafhbhgmcchihaaHo
namespace Go.Proofs.Ytafhbhgmcchihaa
open Go.RowKit Go.Proofs.Ytafhbhgmcchihaa.Cl
set_option linter.unusedVariables false

/-- The two lists of the law, in blocks b and b + 1. -/
def Lists (b : Nat) (w : World) : Prop :=
  ∀ k : Nat, k < 8 → w.cell? ⟨b, k, none⟩ = some (.int .i64 (wordsV k)) ∧ w.cell? ⟨b + 1, k, none⟩ = some (.int .i64 (blocksV k))
theorem Lists.kept {b : Nat} {w w' : World} (h : Lists b w) (hs : b + 1 < w.heap.size) (hb : Below w.heap.size w w') : Lists b w' :=
  fun k hk => ⟨(hb.cell (p := ⟨b, k, none⟩) (by show b < _; omega)).trans (h k hk).1, (hb.cell (p := ⟨b + 1, k, none⟩) hs).trans (h k hk).2⟩

theorem pair_kept {b k : Nat} {x y : Value} {w1 w2 : World} (h : w1.cell? ⟨b, k, none⟩ = some x ∧ w1.cell? ⟨b + 1, k, none⟩ = some y ∧ b + 1 < w1.heap.size) (hb : Below w1.heap.size w1 w2) :
    w2.cell? ⟨b, k, none⟩ = some x ∧ w2.cell? ⟨b + 1, k, none⟩ = some y ∧ b + 1 < w2.heap.size :=
  ⟨(hb.cell (p := ⟨b, k, none⟩) (by show b < _; omega)).trans h.1, (hb.cell (p := ⟨b + 1, k, none⟩) (by show b + 1 < _; omega)).trans h.2.1, Nat.lt_of_lt_of_le h.2.2 hb.size⟩
theorem lists_new (w : World) : Lists w.heap.size ((w.alloc (.cells #[.int .i64 2, .int .i64 4, .int .i64 6, .int .i64 8, .int .i64 12, .int .i64 16, .int .i64 20, .int .i64 32] 3)).alloc
    (.cells #[.int .i64 32, .int .i64 16, .int .i64 10, .int .i64 8, .int .i64 5, .int .i64 4, .int .i64 3, .int .i64 2] 3)) := by
  intro k hk
  have e : k = 0 ∨ k = 1 ∨ k = 2 ∨ k = 3 ∨ k = 4 ∨ k = 5 ∨ k = 6 ∨ k = 7 := by omega
  rcases e with rfl | rfl | rfl | rfl | rfl | rfl | rfl | rfl <;> refine ⟨?_, ?_⟩ <;> go_simp <;> rfl

theorem table_walk (w : World) : Calls Try.prog 3 #[] w fun e w' => e = .returned (.bool true) ∧ Below w.heap.size w w' := by
  have H1 := Lib.hid (words_is (c := 8) (n := 0) (by decide))
  have H2 := Lib.hid (blocks_is (c := -1) (n := 0) (by decide))
  go_enter Try.func3, Try.ntmps3
  go_wp2
  go_loopw [3] (fun i wr => ∃ k : Nat, k ≤ 8 ∧ i = .int .i64 k ∧ Hid (Lists w.heap.size wr) ∧ w.heap.size + 1 < wr.heap.size ∧ Below w.heap.size w wr) (fun i _ => 8 - (intOf i).toNat)
  case atStart => exact ⟨0, by omega, rfl, lists_new w, by simp, ((Below.refl _ _).alloc (Nat.le_refl _) _).alloc (by simp) _⟩
  case round =>
    obtain ⟨k, hk, rfl, hl, hs, hbw⟩ := hrel
    by_cases hlt : k < 8
    · have hw := words_bd k
      have hcell := (hl.out k hlt).1
      have hcell2 := (hl.out k hlt).2
      have hkn : (0 : Int) ≤ k := by omega
      have hk8 : (k : Int) < 8 := by omega
      have d1 : (wordsV k != wordsV k) = false := by simp
      have H3 := Lib.hid (words_any (k : Int))
      have H4 := Lib.hid (blocks_any (k : Int))
      go_wp2
      go_region_held3 (fun w' => w'.cell? ⟨w.heap.size, k, none⟩ = some (.int .i64 (wordsV k)) ∧ w'.cell? ⟨w.heap.size + 1, k, none⟩ = some (.int .i64 (blocksV k)) ∧ w.heap.size + 1 < w'.heap.size) (first | exact ⟨hcell, hcell2, hs⟩ | exact pair_kept (by assumption) (by assumption))
        (first
          | (go_at_call 9; refine (H3.out _).mono ?_; rintro e w2 ⟨rfl, hb2⟩)
          | (go_at_call 10; refine (H4.out _).mono ?_; rintro e w3 ⟨rfl, hb3⟩))
      go_wp2
      go_roundw
      case rel =>
        have hb : Below wr.heap.size wr w3 := (Below.refl _ _).drew.trans (bthen hb2 hb3)
        exact ⟨k + 1, by omega, by go_num, hl.out.kept hs hb, Nat.lt_of_lt_of_le hs hb.size, bthen hbw hb⟩
      case measure => simp [intOf]; omega
    · go_wp2_with (first
        | (go_at_call 9; refine (H1.out _).mono ?_; rintro e w1 ⟨rfl, hb1⟩) | (go_at_call 10; refine (H2.out _).mono ?_; rintro e w2 ⟨rfl, hb2⟩))
      go_ret
      exact ⟨rfl, bthen hbw (bthen hb1 hb2)⟩
end Go.Proofs.Ytafhbhgmcchihaa
