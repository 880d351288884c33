/- What the small functions of package pages answer: the words of a class, whether a page is free, how many are. No condition. -/
import Derived.Test.YtcdeimmjhfimjaaMm
namespace Go.Proofs.Ytcdeimmjhfimjaa
open Go.RowKit Go.Proofs.Ytcdeimmjhfimjaa.Pp
set_option linter.unusedVariables false

theorem tab_any (w : World) : Calls Try.prog 38 #[] w fun e w' => e = .returned (.agg #[.int .i64 2, .int .i64 4, .int .i64 6, .int .i64 8, .int .i64 12, .int .i64 16, .int .i64 20, .int .i64 32]) ∧ Below w.heap.size w w' := by
  go_enter Try.func38, Try.ntmps38
  go_wp2
  exact bodyPost_ret (v := .agg #[.int .i64 2, .int .i64 4, .int .i64 6, .int .i64 8, .int .i64 12, .int .i64 16, .int .i64 20, .int .i64 32]) (by simp [results, Try.results38, go_sem]) rfl ⟨rfl, (Below.refl _ _).alloc (Nat.le_refl _) _⟩
/-- The words of a class. -/
def wordsV (c : Int) : Int :=
  if c < 0 then 0 else if c < 1 then 2 else if c < 2 then 4 else if c < 3 then 6 else if c < 4 then 8 else if c < 5 then 12
  else if c < 6 then 16 else if c < 7 then 20 else if c < 8 then 32 else 0
theorem eight {c : Int} (h : 0 ≤ c) (h' : c < 8) : c = 0 ∨ c = 1 ∨ c = 2 ∨ c = 3 ∨ c = 4 ∨ c = 5 ∨ c = 6 ∨ c = 7 := by omega
theorem tab_at (k : Int) (h0 : 0 ≤ k) (h1 : k < 8) (w : World) :
    (Instr.index 70 (.agg #[.int .i64 2, .int .i64 4, .int .i64 6, .int .i64 8, .int .i64 12, .int .i64 16, .int .i64 20, .int .i64 32]) (.int .i64 k)).run Try.prog w = .ok (.int .i64 (wordsV k)) w := by
  rcases eight h0 h1 with rfl | rfl | rfl | rfl | rfl | rfl | rfl | rfl <;> kernel_rfl
theorem words_low {c : Int} (h : c < 0) : wordsV c = 0 := by unfold wordsV; omega
theorem words_high {c : Int} (h : 8 ≤ c) : wordsV c = 0 := by unfold wordsV; omega
theorem words_pos {c : Int} (h : 0 ≤ c) (h' : c < 8) : (wordsV c == 0) = false := by
  have : wordsV c ≠ 0 := by unfold wordsV; omega
  simp [this]
theorem words_any (c : Int) (w : World) : Calls Try.prog 31 #[.int .i64 c] w fun e w' => e = .returned (.int .i64 (wordsV c)) ∧ Below w.heap.size w w' := by
  by_cases h0 : c < 0
  · go_enter Try.func31, Try.ntmps31
    go_wp2
    go_ret
    exact ⟨ret_int (words_low h0).symm, Below.refl _ _⟩
  · by_cases h1 : 8 ≤ c
    · go_enter Try.func31, Try.ntmps31
      go_wp2
      go_ret
      exact ⟨ret_int (words_high h1).symm, Below.refl _ _⟩
    · have hix := fun w => tab_at c (by omega) (by omega) w
      go_enter Try.func31, Try.ntmps31
      go_wp2_with (go_at_call 38; refine (tab_any _).mono ?_; rintro e w' ⟨rfl, hb⟩)
      go_ret
      exact ⟨rfl, hb⟩

theorem free_any {w : World} {tg g n cap low : Nat} {f : Nat → Pg} (h : TabL w tg g n cap f low) (i : Nat) (hi : i < n) :
    Calls Try.prog 33 #[.pointer (some ⟨tg, 0, none⟩), .int .i64 (i : Int)] w fun e w' => e = .returned (.bool (isz (f i))) ∧ w = w' := by
  have c0 := h.blk.c0
  have pk := h.pg.k hi
  have pc := h.pg.c hi
  have pr := h.pg.r hi
  have h0 : (0 : Int) ≤ i := by omega
  have h1 : (i : Int) < n := by omega
  have h4 := h.n4
  go_enter Try.func33, Try.ntmps33
  go_wp2
  all_goals
    go_ret
    exact ⟨ret_bool (by simp [isz, *]), rfl⟩
theorem count_any {w : World} {tg g n cap low : Nat} {f : Nat → Pg} (h : TabL w tg g n cap f low) :
    Calls Try.prog 18 #[.pointer (some ⟨tg, 0, none⟩)] w fun e w' => e = .returned (.int .i64 (cnt f n : Nat)) ∧ w = w' := by
  have c2 := h.blk.c2
  go_enter Try.func18, Try.ntmps18
  go_wp2
  go_ret
  exact ⟨rfl, rfl⟩
theorem len_any {w : World} {tg g n cap low : Nat} {f : Nat → Pg} (h : TabL w tg g n cap f low) :
    Calls Try.prog 29 #[.pointer (some ⟨tg, 0, none⟩)] w fun e w' => e = .returned (.int .i64 (n : Nat)) ∧ w = w' := by
  have c0 := h.blk.c0
  go_enter Try.func29, Try.ntmps29
  go_wp2
  go_ret
  exact ⟨rfl, rfl⟩

theorem state_in {w : World} {tg g n cap low : Nat} {f : Nat → Pg} (h : TabL w tg g n cap f low) (i : Nat) (hi : i < n) :
    Calls Try.prog 24 #[.pointer (some ⟨tg, 0, none⟩), .int .i64 (i : Int)] w fun e w' => e = .returned (.tuple #[.agg #[.int .i64 (f i).k, .int .i64 (f i).c, .int .i64 (f i).r], .bool true]) ∧ Below w.heap.size w w' := by
  have c0 := h.blk.c0
  have pk := h.pg.k hi
  have pc := h.pg.c hi
  have pr := h.pg.r hi
  have h0 : (0 : Int) ≤ i := by omega
  have h1 : (i : Int) < n := by omega
  have h4 := h.n4
  have lt1 := h.lt
  have lt2 := h.pg.lt
  go_enter Try.func24, Try.ntmps24
  go_wp2
  exact bodyPost_ret (v := .tuple #[.agg #[.int .i64 (f i).k, .int .i64 (f i).c, .int .i64 (f i).r], .bool true]) (by simp [results, Try.results24, go_sem]) rfl ⟨rfl, (Below.refl _ _).alloc (Nat.le_refl _) _⟩
theorem state_out {w : World} {tg g n cap low : Nat} {f : Nat → Pg} (h : TabL w tg g n cap f low) (i : Int) (hi : i < 0 ∨ n ≤ i) :
    Calls Try.prog 24 #[.pointer (some ⟨tg, 0, none⟩), .int .i64 i] w fun e w' => e = .returned (.tuple #[.agg #[.int .i64 0, .int .i64 0, .int .i64 0], .bool false]) ∧ Below w.heap.size w w' := by
  have c0 := h.blk.c0
  have lt1 := h.lt
  by_cases h0 : i < 0
  · go_enter Try.func24, Try.ntmps24
    go_wp2
    exact bodyPost_ret (v := .tuple #[.agg #[.int .i64 0, .int .i64 0, .int .i64 0], .bool false]) (by simp [results, Try.results24, go_sem]) rfl ⟨rfl, (Below.refl _ _).alloc (Nat.le_refl _) _⟩
  · have h1 : (n : Int) ≤ i := by omega
    go_enter Try.func24, Try.ntmps24
    go_wp2
    exact bodyPost_ret (v := .tuple #[.agg #[.int .i64 0, .int .i64 0, .int .i64 0], .bool false]) (by simp [results, Try.results24, go_sem]) rfl ⟨rfl, (Below.refl _ _).alloc (Nat.le_refl _) _⟩
end Go.Proofs.Ytcdeimmjhfimjaa
