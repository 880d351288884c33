/- What each function of package class, and each of the reference's, answers: the plain functions of the text before; memory that was there is left alone. No condition. -/
import Derived.Test.YtafhbhgmcchihaaProg
import Derived.Test.YtafhbhgmcchihaaPl
import Derived.Below
import Derived.Deep.Draws
import Derived.OwnWalk
import Derived.Tactics
import Derived.WalkKit
import Derived.KernelRfl
import Derived.RowKit3
import Derived.Deep.LoopGhost
import Derived.Deep.QuietTactic
import Derived.BigQuiet
import Derived.Deep.DeepCutAuto
import Derived.Deep.CutBlock
import Derived.Deep.RegionHeld3
import Derived.Deep.RegionWith
import Derived.Lib.Hide
import Derived.Outline
namespace Go.Proofs.Ytafhbhgmcchihaa
open Go.RowKit Go.Proofs.Ytafhbhgmcchihaa.Cl

theorem bthen {w w1 w2 : World} (h : Below w.heap.size w w1) (k : Below w1.heap.size w1 w2) : Below w.heap.size w w2 :=
  h.trans (k.mono h.size)

theorem ret_int {k : IntKind} {a b : Int} (h : a = b) : Ending.returned (.int k a) = .returned (.int k b) := by rw [h]

/-- The classes' words as an array. -/
theorem tab_any (w : World) : Calls Try.prog 18 #[] w fun e w' => e = .returned (.agg #[.int .i64 2, .int .i64 4, .int .i64 6, .int .i64 8, .int .i64 12, .int .i64 16, .int .i64 20, .int .i64 32]) ∧ Below w.heap.size w w' := by
  go_enter Try.func18, Try.ntmps18
  go_wp2
  exact bodyPost_ret (v := .agg #[.int .i64 2, .int .i64 4, .int .i64 6, .int .i64 8, .int .i64 12, .int .i64 16, .int .i64 20, .int .i64 32]) (by simp [results, Try.results18, go_sem]) rfl ⟨rfl, (Below.refl _ _).alloc (Nat.le_refl _) _⟩

theorem tab_at (k : Int) (h0 : 0 ≤ k) (h1 : k < 8) (w : World) :
    (Instr.index 33 (.agg #[.int .i64 2, .int .i64 4, .int .i64 6, .int .i64 8, .int .i64 12, .int .i64 16, .int .i64 20, .int .i64 32]) (.int .i64 k)).run Try.prog w = .ok (.int .i64 (wordsV k)) w := by
  rcases eight h0 h1 with rfl | rfl | rfl | rfl | rfl | rfl | rfl | rfl <;> kernel_rfl

theorem words_any (c : Int) (w : World) : Calls Try.prog 9 #[.int .i64 c] w fun e w' => e = .returned (.int .i64 (wordsV c)) ∧ Below w.heap.size w w' := by
  by_cases h0 : c < 0
  · go_enter Try.func9, Try.ntmps9
    go_wp2
    go_ret
    exact ⟨ret_int (words_low h0).symm, Below.refl _ _⟩
  · by_cases h1 : 8 ≤ c
    · go_enter Try.func9, Try.ntmps9
      go_wp2
      go_ret
      exact ⟨ret_int (words_high h1).symm, Below.refl _ _⟩
    · have hix := fun w => tab_at c (by omega) (by omega) w
      go_enter Try.func9, Try.ntmps9
      go_wp2_with (go_at_call 18; refine (tab_any _).mono ?_; rintro e w' ⟨rfl, hb⟩)
      go_ret
      exact ⟨rfl, hb⟩

theorem blocks_any (c : Int) (w : World) : Calls Try.prog 10 #[.int .i64 c] w fun e w' => e = .returned (.int .i64 (blocksV c)) ∧ Below w.heap.size w w' := by
  have hb := words_bd c
  by_cases h0 : wordsV c = 0
  · have hz : (wordsV c == 0) = true := by simp [h0]
    have HZ := Lib.hid h0
    clear h0
    go_enter Try.func10, Try.ntmps10
    go_wp2_with (go_at_call 9; refine (words_any _ _).mono ?_; rintro e w' ⟨rfl, hb⟩)
    go_ret
    exact ⟨ret_int (blocks_zero HZ.out).symm, hb⟩
  · have hz : (wordsV c == 0) = false := by simp [h0]
    have h1 : 1 ≤ wordsV c := by omega
    clear h0
    go_enter Try.func10, Try.ntmps10
    go_wp2_with (go_at_call 9; refine (words_any _ _).mono ?_; rintro e w' ⟨rfl, hb⟩)
    go_ret
    exact ⟨ret_int (blocks_quo c h1), hb⟩

theorem of_any (s : Int) (w : World) : Calls Try.prog 13 #[.int .i64 s] w fun e w' => e = .returned (.int .i64 (ofV s)) ∧ Below w.heap.size w w' := by
  by_cases h0 : s < 1
  · go_enter Try.func13, Try.ntmps13
    go_wp2
    go_ret
    exact ⟨ret_int (of_low h0).symm, Below.refl _ _⟩
  · by_cases h1 : 1024 < s
    · go_enter Try.func13, Try.ntmps13
      go_wp2
      go_ret
      exact ⟨ret_int (of_high h1).symm, Below.refl _ _⟩
    · have h2 : s ≤ 1024 := by omega
      have h3 : 1 ≤ s := by omega
      clear h0 h1
      go_enter Try.func13, Try.ntmps13
      go_wp2_with (go_at_call 18; refine (tab_any _).mono ?_; rintro e w' ⟨rfl, hb⟩)
      go_loop [12] (fun i => ∃ k : Nat, k ≤ 8 ∧ i = .int .i64 k ∧ Hid (∀ j : Int, 0 ≤ j → j < k → wordsV j < s)) (fun i => 8 - (intOf i).toNat)
      case atStart => exact ⟨0, by omega, rfl, fun j _ _ => by omega⟩
      case round =>
        obtain ⟨k, hk, rfl, hj⟩ := hrel
        by_cases hlt : k < 8
        · have hix := fun w => tab_at k (by omega) (by omega) w
          by_cases hs : s ≤ wordsV k
          · go_wp2
            go_ret
            exact ⟨ret_int (of_at h3 h2 (by omega) (by omega) hj.out (fun _ => hs)).symm, hb⟩
          · go_wp2
            go_round
            case rel => exact ⟨k + 1, by omega, by go_num, fun j j0 j1 => by
              by_cases e : j = k
              · subst e; omega
              · exact hj.out j j0 (by omega)⟩
            case measure => simp [intOf]; omega
        · go_wp2
          go_ret
          exact ⟨ret_int (of_at h3 h2 (by omega) (by omega) (fun j j0 j1 => hj.out j j0 (by omega)) (by omega)).symm, hb⟩

theorem pages_any (s : Int) (w : World) : Calls Try.prog 14 #[.int .i64 s] w fun e w' => e = .returned (.int .i64 (pagesV s)) ∧ Below w.heap.size w w' := by
  by_cases h : ofV s = 8
  · have hs := of_eight h
    have h0 := hs.1
    have h1 := hs.2
    have hb : (ofV s != 8) = false := by simp [h]
    have H := Lib.hid h
    clear h hs
    go_enter Try.func14, Try.ntmps14
    go_wp2_with (go_at_call 13; refine (of_any _ _).mono ?_; rintro e w' ⟨rfl, hb⟩)
    go_ret
    exact ⟨ret_int (by rw [pages_at H.out]; omega), hb⟩
  · have hb : (ofV s != 8) = true := by simp [h]
    have H := Lib.hid h
    clear h
    go_enter Try.func14, Try.ntmps14
    go_wp2_with (go_at_call 13; refine (of_any _ _).mono ?_; rintro e w' ⟨rfl, hb⟩)
    go_ret
    exact ⟨ret_int (pages_not H.out).symm, hb⟩
end Go.Proofs.Ytafhbhgmcchihaa
