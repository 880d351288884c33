/- ClassHolds, walked: a size that there is none of, a large one, a small one. No condition. -/
import Derived.Test.YtafhbhgmcchihaaWm
namespace Go.Proofs.Ytafhbhgmcchihaa
open Go.RowKit Go.Proofs.Ytafhbhgmcchihaa.Cl
set_option linter.unusedVariables false

/-- Of and Pages at a size, their answers written out. -/
theorem of_is {s c : Int} (h : ofV s = c) (w : World) : Calls Try.prog 13 #[.int .i64 s] w fun e w' => e = .returned (.int .i64 c) ∧ Below w.heap.size w w' := h ▸ of_any s w
theorem pages_is {s n : Int} (h : pagesV s = n) (w : World) : Calls Try.prog 14 #[.int .i64 s] w fun e w' => e = .returned (.int .i64 n) ∧ Below w.heap.size w w' := h ▸ pages_any s w
theorem words_is {c n : Int} (h : wordsV c = n) (w : World) : Calls Try.prog 9 #[.int .i64 c] w fun e w' => e = .returned (.int .i64 n) ∧ Below w.heap.size w w' := h ▸ words_any c w
theorem blocks_is {c n : Int} (h : blocksV c = n) (w : World) : Calls Try.prog 10 #[.int .i64 c] w fun e w' => e = .returned (.int .i64 n) ∧ Below w.heap.size w w' := h ▸ blocks_any c w
theorem start_is {c i n : Int} (h : startV c i = n) (w : World) : Calls Try.prog 16 #[.int .i64 c, .int .i64 i] w fun e w' => e = .returned (.int .i64 n) ∧ Below w.heap.size w w' := h ▸ start_any c i w
theorem index_is {c f n : Int} (hf : f ≤ 9223372036854775807) (h : indexV c f = n) (w : World) : Calls Try.prog 17 #[.int .i64 c, .int .i64 f] w fun e w' => e = .returned (.int .i64 n) ∧ Below w.heap.size w w' := h ▸ index_any c f hf w

theorem holds_low (s : Int) (w : World) (h : s < 1) : Calls Try.prog 5 #[.int .i64 s] w fun e w' => e = .returned (.bool true) ∧ Below w.heap.size w w' := by
  have H1 := Lib.hid (of_is (of_low h))
  have H2 := Lib.hid (pages_is (pages_not (s := s) (by rw [of_low h]; decide)))
  go_enter Try.func5, Try.ntmps5
  go_wp2_with (first | (go_at_call 13; refine (H1.out _).mono ?_; rintro e w1 ⟨rfl, hb1⟩) | (go_at_call 14; refine (H2.out _).mono ?_; rintro e w2 ⟨rfl, hb2⟩) | (go_at_call 11; refine (alive_any _).mono ?_; rintro e w3 ⟨rfl, hb3⟩))
  go_ret
  exact ⟨rfl, bthen (bthen hb1 hb2) hb3⟩

theorem holds_high (s : Int) (w : World) (h : 1024 < s) : Calls Try.prog 5 #[.int .i64 s] w fun e w' => e = .returned (.bool true) ∧ Below w.heap.size w w' := by
  have H1 := Lib.hid (of_is (of_high h))
  have H2 := Lib.hid (pages_is (pages_not (s := s) (by rw [of_high h]; decide)))
  go_enter Try.func5, Try.ntmps5
  go_wp2_with (first | (go_at_call 13; refine (H1.out _).mono ?_; rintro e w1 ⟨rfl, hb1⟩) | (go_at_call 14; refine (H2.out _).mono ?_; rintro e w2 ⟨rfl, hb2⟩) | (go_at_call 11; refine (alive_any _).mono ?_; rintro e w3 ⟨rfl, hb3⟩))
  go_ret
  exact ⟨rfl, bthen (bthen hb1 hb2) hb3⟩

theorem holds_large (s : Int) (w : World) (h : 32 < s) (h' : s ≤ 1024) : Calls Try.prog 5 #[.int .i64 s] w fun e w' => e = .returned (.bool true) ∧ Below w.heap.size w w' := by
  have he : ofV s = 8 := by unfold ofV; omega
  have H1 := Lib.hid (of_is he)
  have H2 := Lib.hid (pages_is rfl (s := s))
  have hp := pages_at he
  have p1 : 1 ≤ pagesV s := by omega
  have p2 : pagesV s ≤ 16 := by omega
  have p3 : s ≤ 64 * pagesV s := by omega
  have p4 : 64 * (pagesV s - 1) < s := by omega
  have d1 : decide (s < 1) = false := by simp; omega
  have d2 : decide (1024 < s) = false := by simp; omega
  have d3 : decide (0 < pagesV s) = true := by simp; omega
  clear hp he
  go_enter Try.func5, Try.ntmps5
  go_wp2_with (first | (go_at_call 13; refine (H1.out _).mono ?_; rintro e w1 ⟨rfl, hb1⟩) | (go_at_call 14; refine (H2.out _).mono ?_; rintro e w2 ⟨rfl, hb2⟩) | (go_at_call 11; refine (alive_any _).mono ?_; rintro e w3 ⟨rfl, hb3⟩))
  go_ret
  exact ⟨rfl, bthen (bthen hb1 hb2) hb3⟩

theorem holds_first (s : Int) (w : World) (h : 1 ≤ s) (h' : s ≤ 2) : Calls Try.prog 5 #[.int .i64 s] w fun e w' => e = .returned (.bool true) ∧ Below w.heap.size w w' := by
  have he : ofV s = 0 := by unfold ofV; omega
  have H1 := Lib.hid (of_is he)
  have H2 := Lib.hid (pages_is (pages_not (s := s) (by omega)))
  have H4 := Lib.hid (words_is (c := 0) (n := 2) (by decide))
  clear he
  go_enter Try.func5, Try.ntmps5
  go_wp2_with (first | (go_at_call 13; refine (H1.out _).mono ?_; rintro e w1 ⟨rfl, hb1⟩) | (go_at_call 14; refine (H2.out _).mono ?_; rintro e w2 ⟨rfl, hb2⟩) | (go_at_call 11; refine (alive_any _).mono ?_; rintro e w3 ⟨rfl, hb3⟩) | (go_at_call 9; refine (H4.out _).mono ?_; rintro e w4 ⟨rfl, hb4⟩))
  go_ret
  exact ⟨rfl, bthen (bthen (bthen hb1 hb2) hb3) hb4⟩

theorem holds_next (s c : Int) (w : World) (h : 1 ≤ s) (h' : s ≤ 32) (hc0 : 1 ≤ c) (hc1 : c < 8) (H1 : Hid (∀ w, Calls Try.prog 13 #[.int .i64 s] w fun e w' => e = .returned (.int .i64 c) ∧ Below w.heap.size w w'))
    (H2 : Hid (∀ w, Calls Try.prog 14 #[.int .i64 s] w fun e w' => e = .returned (.int .i64 0) ∧ Below w.heap.size w w')) (hw1 : s ≤ wordsV c) (hw2 : wordsV (c - 1) < s) :
    Calls Try.prog 5 #[.int .i64 s] w fun e w' => e = .returned (.bool true) ∧ Below w.heap.size w w' := by
  have d1 : decide (s < 1) = false := by simp; omega
  have d2 : decide (1024 < s) = false := by simp; omega
  have d3 : (c == -1) = false := by simp; omega
  have d4 : (c == 8) = false := by simp; omega
  have d5 : (c == 0) = false := by simp; omega
  have d6 : decide (c < -1) = false := by simp; omega
  have d7 : decide (8 < c) = false := by simp; omega
  have d8 : decide (s ≤ wordsV c) = true := by simp; omega
  have d9 : decide (wordsV (c - 1) < s) = true := by simp; omega
  have H4 := Lib.hid (words_any c)
  have H5 := Lib.hid (words_any (c - 1))
  go_enter Try.func5, Try.ntmps5
  go_wp2_with (first
    | (go_at_call 13; refine (H1.out _).mono ?_; rintro e w1 ⟨rfl, hb1⟩) | (go_at_call 14; refine (H2.out _).mono ?_; rintro e w2 ⟨rfl, hb2⟩) | (go_at_call 11; refine (alive_any _).mono ?_; rintro e w3 ⟨rfl, hb3⟩)
    | (go_at_call 9; (with_reducible refine (H4.out _).mono ?_); rintro e w4 ⟨rfl, hb4⟩)
    | (go_at_call 9; (with_reducible refine (H5.out _).mono ?_); rintro e w5 ⟨rfl, hb5⟩))
  go_ret
  exact ⟨rfl, bthen (bthen (bthen (bthen hb1 hb2) hb3) hb4) hb5⟩

theorem holds_small (s : Int) (w : World) (h : 1 ≤ s) (h' : s ≤ 32) : Calls Try.prog 5 #[.int .i64 s] w fun e w' => e = .returned (.bool true) ∧ Below w.heap.size w w' := by
  by_cases h2 : s ≤ 2
  · exact holds_first s w h h2
  · have hb : 1 ≤ ofV s ∧ ofV s < 8 := by unfold ofV; omega
    exact holds_next s (ofV s) w h h' hb.1 hb.2 (Lib.hid (of_any s)) (Lib.hid (pages_is (pages_not (s := s) (by omega)))) (of_holds (by omega) hb.2) (of_least hb.1 hb.2)
end Go.Proofs.Ytafhbhgmcchihaa
