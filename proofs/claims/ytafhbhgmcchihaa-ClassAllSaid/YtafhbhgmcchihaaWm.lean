/- What class.Index and the laws' own helpers alive, sized and placed answer. No condition, but that an offset is an int. -/
import Derived.Test.YtafhbhgmcchihaaWl
namespace Go.Proofs.Ytafhbhgmcchihaa
open Go.RowKit Go.Proofs.Ytafhbhgmcchihaa.Cl
set_option linter.unusedVariables false

theorem tdiv_plain {f d : Int} (h0 : 0 ≤ f) (h1 : 1 ≤ d) (hf : f ≤ 9223372036854775807) : IntKind.i64.wrap (f.tdiv d) = f / d := by
  rw [Int.tdiv_eq_ediv_of_nonneg h0]
  have := Int.ediv_nonneg h0 (show (0 : Int) ≤ d by omega)
  have := Int.ediv_le_self d h0
  exact IntWalk.i64_in _ (by omega)
theorem below_drewN {B : Nat} {a w : World} (h : Below B a w) (n : Nat) : Below B a (w.drewN n) := ⟨h.os, h.tape, h.output, h.size, h.block⟩
theorem below_drew_then {w w1 w2 : World} (h : Below w.heap.size w w1) (k : Below w1.drew.heap.size w1.drew w2) : Below w.heap.size w w2 :=
  bthen h.drew k

theorem index_zero (c f : Int) (w : World) (hz : (wordsV c == 0) = true) : Calls Try.prog 17 #[.int .i64 c, .int .i64 f] w fun e w' => e = .returned (.int .i64 (-1)) ∧ Below w.heap.size w w' := by
  go_enter Try.func17, Try.ntmps17
  go_wp2_with (go_at_call 9; refine (words_any _ _).mono ?_; rintro e w' ⟨rfl, hb⟩)
  go_quiet (fail)
  go_wp2
  go_ret
  exact ⟨rfl, below_drewN hb _⟩
theorem index_neg (c f : Int) (w : World) (hz : (wordsV c == 0) = false) (h : decide (f < 0) = true) : Calls Try.prog 17 #[.int .i64 c, .int .i64 f] w fun e w' => e = .returned (.int .i64 (-1)) ∧ Below w.heap.size w w' := by
  go_enter Try.func17, Try.ntmps17
  go_wp2_with (go_at_call 9; refine (words_any _ _).mono ?_; rintro e w' ⟨rfl, hb⟩)
  go_quiet (fail)
  go_wp2
  go_ret
  exact ⟨rfl, below_drewN hb _⟩
theorem index_mid (c f : Int) (w : World) (hw0 : 1 ≤ wordsV c) (hne : ¬ wordsV c = 0) (hz : (wordsV c == 0) = false) (h30 : 0 ≤ f) (h3 : decide (f < 0) = false) (h4b : (f.tmod (wordsV c) != 0) = true) (h4c : (f % wordsV c != 0) = true) :
    Calls Try.prog 17 #[.int .i64 c, .int .i64 f] w fun e w' => e = .returned (.int .i64 (-1)) ∧ Below w.heap.size w w' := by
  go_enter Try.func17, Try.ntmps17
  go_wp2_with (go_at_call 9; refine (words_any _ _).mono ?_; rintro e w' ⟨rfl, hb⟩)
  go_quiet (fail)
  go_wp2
  go_ret
  exact ⟨rfl, below_drewN hb _⟩
theorem index_far (c f : Int) (w : World) (hw0 : 1 ≤ wordsV c) (hne : ¬ wordsV c = 0) (hz : (wordsV c == 0) = false) (h30 : 0 ≤ f) (h3 : decide (f < 0) = false) (h4b : (f.tmod (wordsV c) != 0) = false) (h4c : (f % wordsV c != 0) = false)
    (ht : IntKind.i64.wrap (f.tdiv (wordsV c)) = f / wordsV c) (h5 : decide (blocksV c ≤ f / wordsV c) = true) :
    Calls Try.prog 17 #[.int .i64 c, .int .i64 f] w fun e w' => e = .returned (.int .i64 (-1)) ∧ Below w.heap.size w w' := by
  go_enter Try.func17, Try.ntmps17
  go_wp2_with (go_at_call 9; refine (words_any _ _).mono ?_; rintro e w' ⟨rfl, hb⟩)
  go_region_held3 (fun _ => True) (exact trivial) (first | (go_at_call 10; refine (blocks_any _ _).mono ?_; rintro e w2 ⟨rfl, hb2⟩))
  go_wp2
  go_ret
  exact ⟨rfl, below_drew_then hb hb2⟩
theorem index_near (c f : Int) (w : World) (hw0 : 1 ≤ wordsV c) (hne : ¬ wordsV c = 0) (hz : (wordsV c == 0) = false) (h30 : 0 ≤ f) (h3 : decide (f < 0) = false) (h4b : (f.tmod (wordsV c) != 0) = false) (h4c : (f % wordsV c != 0) = false)
    (ht : IntKind.i64.wrap (f.tdiv (wordsV c)) = f / wordsV c) (h5 : decide (blocksV c ≤ f / wordsV c) = false) :
    Calls Try.prog 17 #[.int .i64 c, .int .i64 f] w fun e w' => e = .returned (.int .i64 (f / wordsV c)) ∧ Below w.heap.size w w' := by
  go_enter Try.func17, Try.ntmps17
  go_wp2_with (go_at_call 9; refine (words_any _ _).mono ?_; rintro e w' ⟨rfl, hb⟩)
  go_region_held3 (fun _ => True) (exact trivial) (first | (go_at_call 10; refine (blocks_any _ _).mono ?_; rintro e w2 ⟨rfl, hb2⟩))
  go_wp2
  go_ret
  exact ⟨rfl, below_drew_then hb hb2⟩

theorem index_any (c f : Int) (hf : f ≤ 9223372036854775807) (w : World) : Calls Try.prog 17 #[.int .i64 c, .int .i64 f] w fun e w' => e = .returned (.int .i64 (indexV c f)) ∧ Below w.heap.size w w' := by
  have hw := words_bd c
  by_cases h0 : wordsV c = 0
  · rw [index_nowords h0]
    exact index_zero c f w (by simp [h0])
  · have hz : (wordsV c == 0) = false := by simp [h0]
    have h1 : 1 ≤ wordsV c := by omega
    by_cases h2 : f < 0
    · rw [index_out (by omega)]
      exact index_neg c f w hz (by simp [h2])
    · have h3 : 0 ≤ f := by omega
      have em : f.tmod (wordsV c) = f % wordsV c := Int.tmod_eq_emod_of_nonneg h3
      by_cases h4 : f % wordsV c = 0
      · have ht := tdiv_plain h3 h1 hf
        by_cases h5 : blocksV c ≤ f / wordsV c
        · rw [index_out (by omega)]
          exact index_far c f w h1 h0 hz h3 (by simp [h3]) (by simp [em, h4]) (by simp [h4]) ht (by simp [h5])
        · rw [index_in (by omega) h3 h4 (by omega)]
          exact index_near c f w h1 h0 hz h3 (by simp [h3]) (by simp [em, h4]) (by simp [h4]) ht (by simp; omega)
      · rw [index_out (fun g => h4 g.2.2.1)]
        exact index_mid c f w h1 h0 hz h3 (by simp [h3]) (by simp [em, h4]) (by simp [h4])

theorem alive_any (w : World) : Calls Try.prog 11 #[] w fun e w' => e = .returned (.bool true) ∧ Below w.heap.size w w' := by
  have e1 : ofV 3 = 1 := by decide
  have e2 : wordsV 4 = 12 := by decide
  have e3 : pagesV 65 = 2 := by decide
  have h1 := of_any 3
  have h2 := words_any 4
  have h3 := pages_any 65
  rw [e1] at h1
  rw [e2] at h2
  rw [e3] at h3
  have H1 := Lib.hid h1
  have H2 := Lib.hid h2
  have H3 := Lib.hid h3
  clear h1 h2 h3 e1 e2 e3
  go_enter Try.func11, Try.ntmps11
  go_wp2_with (first | (go_at_call 13; refine (H1.out _).mono ?_; rintro e w1 ⟨rfl, hb1⟩) | (go_at_call 9; refine (H2.out _).mono ?_; rintro e w2 ⟨rfl, hb2⟩) | (go_at_call 14; refine (H3.out _).mono ?_; rintro e w3 ⟨rfl, hb3⟩))
  go_ret
  exact ⟨rfl, bthen (bthen hb1 hb2) hb3⟩

theorem sized_any (s : Int) (w : World) : Calls Try.prog 12 #[.int .i64 s] w fun e w' => e = .returned (.bool true) ∧ Below w.heap.size w w' := by
  go_enter Try.func12, Try.ntmps12
  go_wp2_with (first | (go_at_call 13; refine (of_any _ _).mono ?_; rintro e w1 ⟨rfl, hb1⟩) | (go_at_call 19; refine (rof_any _ _).mono ?_; rintro e w2 ⟨rfl, hb2⟩) | (go_at_call 14; refine (pages_any _ _).mono ?_; rintro e w3 ⟨rfl, hb3⟩) | (go_at_call 20; refine (rpages_any _ _).mono ?_; rintro e w4 ⟨rfl, hb4⟩))
  go_ret
  exact ⟨rfl, bthen (bthen (bthen hb1 hb2) hb3) hb4⟩

theorem placed_any (c i f : Int) (hf : f ≤ 9223372036854775807) (w : World) : Calls Try.prog 15 #[.int .i64 c, .int .i64 i, .int .i64 f] w fun e w' => e = .returned (.bool true) ∧ Below w.heap.size w w' := by
  go_enter Try.func15, Try.ntmps15
  go_wp2_with (first
    | (go_at_call 9; refine (words_any _ _).mono ?_; rintro e w1 ⟨rfl, hb1⟩) | (go_at_call 21; refine (rwords_any _ _).mono ?_; rintro e w2 ⟨rfl, hb2⟩)
    | (go_at_call 10; refine (blocks_any _ _).mono ?_; rintro e w3 ⟨rfl, hb3⟩) | (go_at_call 22; refine (rblocks_any _ _).mono ?_; rintro e w4 ⟨rfl, hb4⟩)
    | (go_at_call 16; refine (start_any _ _ _).mono ?_; rintro e w5 ⟨rfl, hb5⟩) | (go_at_call 23; refine (rstart_any _ _ _).mono ?_; rintro e w6 ⟨rfl, hb6⟩)
    | (go_at_call 17; refine (index_any _ _ hf _).mono ?_; rintro e w7 ⟨rfl, hb7⟩) | (go_at_call 24; refine (rindex_any _ _ _).mono ?_; rintro e w8 ⟨rfl, hb8⟩))
  go_ret
  exact ⟨rfl, bthen (bthen (bthen (bthen (bthen (bthen (bthen hb1 hb2) hb3) hb4) hb5) hb6) hb7) hb8⟩
end Go.Proofs.Ytafhbhgmcchihaa
