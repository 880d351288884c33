/- ClassTiles and ClassTable, walked. No condition, but that an offset is an int. -/
import Derived.Test.YtafhbhgmcchihaaHo
namespace Go.Proofs.Ytafhbhgmcchihaa
open Go.RowKit Go.Proofs.Ytafhbhgmcchihaa.Cl
set_option linter.unusedVariables false

theorem tiles_none (c f : Int) (w : World) (hf : f ≤ 9223372036854775807) (hw : wordsV c = 0) (d1 : (decide (0 ≤ c) && decide (c < 8)) = false) (d2 : c < 0 ∨ 8 ≤ c) :
    Calls Try.prog 8 #[.int .i64 c, .int .i64 f] w fun e w' => e = .returned (.bool true) ∧ Below w.heap.size w w' := by
  have H1 := Lib.hid (words_is hw)
  have H2 := Lib.hid (blocks_is (blocks_zero hw))
  have hs : startV c f = -1 := by
    have := blocks_zero hw
    by_cases h : f < 0
    · exact start_low h
    · exact start_high (by omega)
  have H3 := Lib.hid (start_is hs)
  have H4 := Lib.hid (index_is hf (index_nowords hw))
  clear hw hs
  rcases d2 with d2 | d2
  all_goals
    go_enter Try.func8, Try.ntmps8
    go_wp2_with (first
      | (go_at_call 9; refine (H1.out _).mono ?_; rintro e w1 ⟨rfl, hb1⟩) | (go_at_call 10; refine (H2.out _).mono ?_; rintro e w2 ⟨rfl, hb2⟩) | (go_at_call 11; refine (alive_any _).mono ?_; rintro e w3 ⟨rfl, hb3⟩)
      | (go_at_call 16; refine (H3.out _).mono ?_; rintro e w4 ⟨rfl, hb4⟩) | (go_at_call 17; refine (H4.out _).mono ?_; rintro e w5 ⟨rfl, hb5⟩))
    go_ret
    exact ⟨rfl, bthen (bthen (bthen (bthen hb1 hb2) hb3) hb4) hb5⟩

/-- What the loop knows at k: no block ahead of k begins at f, or block a does. -/
def AtOk (c f : Int) (k : Nat) (a : Int) : Prop := (a = -1 ∧ ∀ j : Int, 0 ≤ j → j < k → j * wordsV c ≠ f) ∨ (0 ≤ a ∧ a < k ∧ a * wordsV c = f)
theorem AtOk.done {c f a : Int} {k : Nat} (h : AtOk c f k a) (hk : (k : Int) = blocksV c) : indexV c f = a := by
  rcases h with ⟨rfl, h⟩ | ⟨h0, h1, h2⟩
  · exact index_none fun i i0 i1 => h i i0 (by omega)
  · exact index_hit h0 (by omega) h2
theorem AtOk.hit {c f a : Int} {k : Nat} (h : (k : Int) * wordsV c = f) : AtOk c f (k + 1) k := .inr ⟨by omega, by omega, h⟩
theorem AtOk.miss {c f a : Int} {k : Nat} (h : AtOk c f k a) (hk : (k : Int) * wordsV c ≠ f) : AtOk c f (k + 1) a := by
  rcases h with ⟨rfl, h⟩ | ⟨h0, h1, h2⟩
  · refine .inl ⟨rfl, fun j j0 j1 => ?_⟩
    by_cases e : j = k
    · subst e; exact hk
    · exact h j j0 (by omega)
  · exact .inr ⟨h0, by omega, h2⟩

set_option maxHeartbeats 800000 in
theorem tiles_some (c f : Int) (w : World) (hf : f ≤ 9223372036854775807) (c0 : 0 ≤ c) (c8 : c < 8) :
    Calls Try.prog 8 #[.int .i64 c, .int .i64 f] w fun e w' => e = .returned (.bool true) ∧ Below w.heap.size w w' := by
  have hw := words_pos c0 c8
  have hwb := (words_bd c).2
  have hn : 0 < blocksV c := (blocks_some c).2 (by omega)
  have hnb := (blocks_bd c).2
  have ht := tiles_in c (by omega)
  have ht1 := ht.1
  have ht2 := ht.2
  have hm := mul_bd (i := blocksV c) (w := wordsV c) (by omega) (by omega) (by omega) (by omega)
  have hm1 := hm.1
  have hm2 := hm.2
  have hk := mul_bd (i := blocksV c + 1) (w := wordsV c) (by omega) (by omega) (by omega) (by omega)
  have hk1 := hk.1
  have hk2 := hk.2
  have d0 : (wordsV c == 0) = false := by simp; omega
  have d1 : decide (0 < wordsV c) = true := by simp; omega
  have d2 : decide (0 < blocksV c) = true := by simp; omega
  have d3 : decide (wordsV c < 0) = false := by simp; omega
  have d4 : decide (0 ≤ c) = true := by simp; omega
  have d5 : decide (c < 8) = true := by simp; omega
  have d6 : decide (64 < blocksV c * wordsV c) = false := by simp; omega
  have d7 : decide ((blocksV c + 1) * wordsV c ≤ 64) = false := by simp; omega
  have H3 := Lib.hid (start_is (start_high (c := c) (i := blocksV c) (by omega)))
  have H4 := Lib.hid (start_is (start_low (c := c) (i := -1) (by omega)))
  clear ht hm hk
  go_enter Try.func8, Try.ntmps8
  go_wp2_with (first
    | (go_at_call 9; refine (words_any _ _).mono ?_; rintro e w1 ⟨rfl, hb1⟩) | (go_at_call 10; refine (blocks_any _ _).mono ?_; rintro e w2 ⟨rfl, hb2⟩) | (go_at_call 11; refine (alive_any _).mono ?_; rintro e w3 ⟨rfl, hb3⟩)
    | (go_at_call 16; (with_reducible refine (H3.out _).mono ?_); rintro e w4 ⟨rfl, hb4⟩) | (go_at_call 16; (with_reducible refine (H4.out _).mono ?_); rintro e w5 ⟨rfl, hb5⟩))
  have hb : Below w.heap.size w w5 := bthen (bthen (bthen (bthen hb1 hb2) hb3) hb4) hb5
  go_loopw [7, 8] (fun a i wr => ∃ (k : Nat) (x : Int), (k : Int) ≤ blocksV c ∧ i = .int .i64 k ∧ a = .int .i64 x ∧ Hid (AtOk c f k x) ∧ Below w.heap.size w wr) (fun _ i _ => (blocksV c).toNat - (intOf i).toNat)
  case atStart => exact ⟨0, -1, by omega, rfl, rfl, .inl ⟨rfl, fun j _ _ => by omega⟩, hb⟩
  case round =>
    obtain ⟨k, x, hk, rfl, rfl, hx, hbw⟩ := hrel
    clear hb hb1 hb2 hb3 hb4 hb5
    by_cases hlt : (k : Int) < blocksV c
    · have hm := mul_bd (i := (k : Int)) (w := wordsV c) (by omega) (by omega) (by omega) (by omega)
      have hm1 := hm.1
      have hm2 := hm.2
      have H5 := Lib.hid (start_is (start_in (c := c) (i := (k : Int)) (by omega) hlt))
      have H6 := Lib.hid (index_is (c := c) (f := (k : Int) * wordsV c) (by omega) (index_hit (i := (k : Int)) (by omega) hlt rfl))
      clear hm
      by_cases he : (k : Int) * wordsV c = f
      · have hbq : ((k : Int) * wordsV c == f) = true := by simp [he]
        have HE := Lib.hid he
        clear he
        go_wp2_with (first
          | (go_at_call 16; refine (H5.out _).mono ?_; rintro e w6 ⟨rfl, hb6⟩) | (go_at_call 17; refine (H6.out _).mono ?_; rintro e w7 ⟨rfl, hb7⟩))
        go_roundw
        case rel => exact ⟨k + 1, k, by omega, by go_num, rfl, AtOk.hit (a := 0) HE.out, bthen hbw (bthen hb6 hb7)⟩
        case measure => simp [intOf]; omega
      · have hbq : ((k : Int) * wordsV c == f) = false := by simp [he]
        have HE := Lib.hid he
        clear he
        go_wp2_with (first
          | (go_at_call 16; refine (H5.out _).mono ?_; rintro e w6 ⟨rfl, hb6⟩) | (go_at_call 17; refine (H6.out _).mono ?_; rintro e w7 ⟨rfl, hb7⟩))
        go_roundw
        case rel => exact ⟨k + 1, x, by omega, by go_num, rfl, hx.out.miss HE.out, bthen hbw (bthen hb6 hb7)⟩
        case measure => simp [intOf]; omega
    · have H7 := Lib.hid (index_is hf (hx.out.done (by omega)))
      go_wp2_with (go_at_call 17; refine (H7.out _).mono ?_; rintro e w6 ⟨rfl, hb6⟩)
      go_ret
      exact ⟨rfl, bthen hbw hb6⟩
end Go.Proofs.Ytafhbhgmcchihaa
