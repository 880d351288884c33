/- What the other functions of package class and the reference's functions answer: the plain functions; memory that was there is left alone. No condition. -/
import Derived.Test.YtafhbhgmcchihaaWk
namespace Go.Proofs.Ytafhbhgmcchihaa
open Go.RowKit Go.Proofs.Ytafhbhgmcchihaa.Cl

theorem start_any (c i : Int) (w : World) : Calls Try.prog 16 #[.int .i64 c, .int .i64 i] w fun e w' => e = .returned (.int .i64 (startV c i)) ∧ Below w.heap.size w w' := by
  have hw := words_bd c
  have hl := blocks_bd c
  by_cases h0 : i < 0
  · go_enter Try.func16, Try.ntmps16
    go_wp2
    go_ret
    exact ⟨ret_int (start_low h0).symm, Below.refl _ _⟩
  · by_cases h1 : blocksV c ≤ i
    · go_enter Try.func16, Try.ntmps16
      go_wp2_with (go_at_call 10; refine (blocks_any _ _).mono ?_; rintro e w' ⟨rfl, hb⟩)
      go_ret
      exact ⟨ret_int (start_high h1).symm, hb⟩
    · have hm := mul_bd (i := i) (w := wordsV c) (by omega) (by omega) (by omega) (by omega)
      have hm0 := hm.1
      have hm1 := hm.2
      clear hm
      go_enter Try.func16, Try.ntmps16
      go_wp2_with (first | (go_at_call 10; refine (blocks_any _ _).mono ?_; rintro e w' ⟨rfl, hb⟩) | (go_at_call 9; refine (words_any _ _).mono ?_; rintro e w2 ⟨rfl, hb2⟩))
      go_ret
      exact ⟨ret_int (start_in (by omega) (by omega)).symm, bthen hb hb2⟩

theorem rwords_any (c : Int) (w : World) : Calls Try.prog 21 #[.int .i64 c] w fun e w' => e = .returned (.int .i64 (wordsV c)) ∧ Below w.heap.size w w' := by
  by_cases h0 : c < 0
  · go_enter Try.func21, Try.ntmps21
    go_wp2
    go_ret
    exact ⟨ret_int (words_low h0).symm, Below.refl _ _⟩
  · by_cases h1 : 8 ≤ c
    · go_enter Try.func21, Try.ntmps21
      go_wp2
      go_ret
      exact ⟨ret_int (words_high h1).symm, Below.refl _ _⟩
    · go_enter Try.func21, Try.ntmps21
      go_wp2
      go_loop [3, 4] (fun n i => ∃ k : Nat, k ≤ c ∧ i = .int .i64 k ∧ n = .int .i64 (wordsV k)) (fun _ i => c.toNat - (intOf i).toNat)
      case atStart => exact ⟨0, by omega, rfl, rfl⟩
      case round =>
        obtain ⟨k, hk, rfl, rfl⟩ := hrel
        have hw := words_bd k
        by_cases hlt : k < c
        · have hs := words_succ (k := (k : Int)) (by omega) (by omega)
          by_cases h3 : (k : Int) < 3
          · rw [if_pos h3] at hs
            have HS := Lib.hid hs
            clear hs
            go_wp2
            go_round
            case rel => exact ⟨k + 1, by omega, by go_num, by rw [show ((k + 1 : Nat) : Int) = (k : Int) + 1 by omega, HS.out]⟩
            case measure => simp [intOf]; omega
          · rw [if_neg h3] at hs
            by_cases h6 : (k : Int) < 6
            · rw [if_pos h6] at hs
              have HS := Lib.hid hs
              clear hs
              go_wp2
              go_round
              case rel => exact ⟨k + 1, by omega, by go_num, by rw [show ((k + 1 : Nat) : Int) = (k : Int) + 1 by omega, HS.out]⟩
              case measure => simp [intOf]; omega
            · rw [if_neg h6] at hs
              have HS := Lib.hid hs
              clear hs
              go_wp2
              go_round
              case rel => exact ⟨k + 1, by omega, by go_num, by rw [show ((k + 1 : Nat) : Int) = (k : Int) + 1 by omega, HS.out]⟩
              case measure => simp [intOf]; omega
        · go_wp2
          go_ret
          exact ⟨ret_int (by rw [show (k : Int) = c by omega]), Below.refl _ _⟩

theorem rblocks_any (c : Int) (w : World) : Calls Try.prog 22 #[.int .i64 c] w fun e w' => e = .returned (.int .i64 (blocksV c)) ∧ Below w.heap.size w w' := by
  have hw := words_bd c
  by_cases h0 : wordsV c ≤ 0
  · go_enter Try.func22, Try.ntmps22
    go_wp2_with (go_at_call 21; refine (rwords_any _ _).mono ?_; rintro e w' ⟨rfl, hb⟩)
    go_loop [4] (fun n => n = .int .i64 0) (fun _ => 0)
    case atStart => rfl
    case round =>
      obtain rfl := hrel
      go_wp2
      go_ret
      exact ⟨ret_int (blocks_zero (by omega)).symm, hb⟩
  · have h1 : 1 ≤ wordsV c := by omega
    clear h0
    go_enter Try.func22, Try.ntmps22
    go_wp2_with (go_at_call 21; refine (rwords_any _ _).mono ?_; rintro e w' ⟨rfl, hb⟩)
    go_loop [4] (fun n => ∃ k : Nat, k ≤ 64 ∧ n = .int .i64 k ∧ (k : Int) * wordsV c ≤ 64) (fun n => 64 - (intOf n).toNat)
    case atStart => exact ⟨0, by omega, rfl, by simp⟩
    case round =>
      obtain ⟨k, hk, rfl, hk2⟩ := hrel
      have hk3 : (k : Int) ≤ 63 := by
        have : (k : Int) * 1 ≤ (k : Int) * wordsV c := Int.mul_le_mul_of_nonneg_left h1 (by omega)
        by_cases e : (k : Int) = 64
        · exfalso
          rw [e] at this hk2
          have hcc := blocks_quo c h1
          have hcb := blocks_bd c
          have hce : 0 ≤ c ∧ c < 8 := by unfold wordsV at h1; omega
          have := words_pos hce.1 hce.2
          omega
        · omega
      have hm := mul_bd (i := (k : Int) + 1) (w := wordsV c) (by omega) (by omega) (by omega) (by omega)
      have hm0 := hm.1
      have hm1 := hm.2
      clear hm
      by_cases hlt : ((k : Int) + 1) * wordsV c ≤ 64
      · go_wp2
        go_round
        case rel => exact ⟨k + 1, by omega, by go_num, by rw [show ((k + 1 : Nat) : Int) = (k : Int) + 1 by omega]; exact hlt⟩
        case measure => simp [intOf]; omega
      · go_wp2
        go_ret
        exact ⟨ret_int (blocks_fit c h1 (by omega) hk2 (by omega)), hb⟩

theorem rof_any (s : Int) (w : World) : Calls Try.prog 19 #[.int .i64 s] w fun e w' => e = .returned (.int .i64 (ofV s)) ∧ Below w.heap.size w w' := by
  by_cases h0 : s < 1
  · go_enter Try.func19, Try.ntmps19
    go_wp2
    go_ret
    exact ⟨ret_int (of_low h0).symm, Below.refl _ _⟩
  · by_cases h1 : 1024 < s
    · go_enter Try.func19, Try.ntmps19
      go_wp2
      go_ret
      exact ⟨ret_int (of_high h1).symm, Below.refl _ _⟩
    · have h2 : s ≤ 1024 := by omega
      have h3 : 1 ≤ s := by omega
      clear h0 h1
      go_enter Try.func19, Try.ntmps19
      go_wp2
      go_loopw [3] (fun i wr => ∃ k : Nat, k ≤ 8 ∧ i = .int .i64 k ∧ Hid (∀ j : Int, 0 ≤ j → j < k → wordsV j < s) ∧ Below w.heap.size w wr) (fun i _ => 8 - (intOf i).toNat)
      case atStart => exact ⟨0, by omega, rfl, fun j _ _ => by omega, Below.refl _ _⟩
      case round =>
        obtain ⟨k, hk, rfl, hj, hbw⟩ := hrel
        by_cases hlt : k < 8
        · by_cases hs : s ≤ wordsV k
          · go_wp2_with (go_at_call 21; refine (rwords_any _ _).mono ?_; rintro e w' ⟨rfl, hb⟩)
            go_ret
            exact ⟨ret_int (of_at h3 h2 (by omega) (by omega) hj.out (fun _ => hs)).symm, bthen hbw hb⟩
          · go_wp2_with (go_at_call 21; refine (rwords_any _ _).mono ?_; rintro e w' ⟨rfl, hb⟩)
            go_roundw
            case rel => exact ⟨k + 1, by omega, by go_num, fun j j0 j1 => by
              by_cases e : j = k
              · subst e; omega
              · exact hj.out j j0 (by omega), bthen hbw hb⟩
            case measure => simp [intOf]; omega
        · go_wp2
          go_ret
          exact ⟨ret_int (of_at h3 h2 (by omega) (by omega) (fun j j0 j1 => hj.out j j0 (by omega)) (by omega)).symm, hbw⟩

theorem rpages_any (s : Int) (w : World) : Calls Try.prog 20 #[.int .i64 s] w fun e w' => e = .returned (.int .i64 (pagesV s)) ∧ Below w.heap.size w w' := by
  by_cases h : ofV s = 8
  · have hs := of_eight h
    have h0 := hs.1
    have h1 := hs.2
    have hb : (ofV s != 8) = false := by simp [h]
    have H := Lib.hid h
    clear h hs
    go_enter Try.func20, Try.ntmps20
    go_wp2_with (go_at_call 19; refine (rof_any _ _).mono ?_; rintro e w' ⟨rfl, hb⟩)
    go_loop [3] (fun n => ∃ k : Nat, ((k : Int) - 1) * 64 < s ∧ n = .int .i64 k) (fun n => 17 - (intOf n).toNat)
    case atStart => exact ⟨0, by omega, rfl⟩
    case round =>
      obtain ⟨k, hk, rfl⟩ := hrel
      by_cases hlt : (k : Int) * 64 < s
      · go_wp2
        go_round
        case rel => exact ⟨k + 1, by omega, by go_num⟩
        case measure => simp [intOf]; omega
      · go_wp2
        go_ret
        exact ⟨ret_int (by rw [pages_at H.out]; omega), hb⟩
  · have hb : (ofV s != 8) = true := by simp [h]
    have H := Lib.hid h
    clear h
    go_enter Try.func20, Try.ntmps20
    go_wp2_with (go_at_call 19; refine (rof_any _ _).mono ?_; rintro e w' ⟨rfl, hb⟩)
    go_ret
    exact ⟨ret_int (pages_not H.out).symm, hb⟩

theorem rstart_any (c i : Int) (w : World) : Calls Try.prog 23 #[.int .i64 c, .int .i64 i] w fun e w' => e = .returned (.int .i64 (startV c i)) ∧ Below w.heap.size w w' := by
  have hw := words_bd c
  have hl := blocks_bd c
  by_cases h0 : i < 0
  · go_enter Try.func23, Try.ntmps23
    go_wp2
    go_ret
    exact ⟨ret_int (start_low h0).symm, Below.refl _ _⟩
  · by_cases h1 : blocksV c ≤ i
    · go_enter Try.func23, Try.ntmps23
      go_wp2_with (go_at_call 22; refine (rblocks_any _ _).mono ?_; rintro e w' ⟨rfl, hb⟩)
      go_ret
      exact ⟨ret_int (start_high h1).symm, hb⟩
    · have hm := mul_bd (i := i) (w := wordsV c) (by omega) (by omega) (by omega) (by omega)
      have hm0 := hm.1
      have hm1 := hm.2
      clear hm
      go_enter Try.func23, Try.ntmps23
      go_wp2_with (first | (go_at_call 22; refine (rblocks_any _ _).mono ?_; rintro e w' ⟨rfl, hb⟩) | (go_at_call 21; refine (rwords_any _ _).mono ?_; rintro e w2 ⟨rfl, hb2⟩))
      go_ret
      exact ⟨ret_int (start_in (by omega) (by omega)).symm, bthen hb hb2⟩

theorem rindex_any (c f : Int) (w : World) : Calls Try.prog 24 #[.int .i64 c, .int .i64 f] w fun e w' => e = .returned (.int .i64 (indexV c f)) ∧ Below w.heap.size w w' := by
  have hw := words_bd c
  have hl := blocks_bd c
  go_enter Try.func24, Try.ntmps24
  go_wp2
  go_loopw [5] (fun i wr => ∃ k : Nat, k ≤ blocksV c ∧ i = .int .i64 k ∧ Hid (∀ j : Int, 0 ≤ j → j < k → j * wordsV c ≠ f) ∧ Below w.heap.size w wr) (fun i _ => (blocksV c).toNat - (intOf i).toNat)
  case atStart => exact ⟨0, by omega, rfl, fun j _ _ => by omega, Below.refl _ _⟩
  case round =>
    obtain ⟨k, hk, rfl, hj, hbw⟩ := hrel
    have hm := mul_bd (i := (k : Int)) (w := wordsV c) (by omega) (by omega) (by omega) (by omega)
    have hm0 := hm.1
    have hm1 := hm.2
    clear hm
    by_cases hlt : (k : Int) < blocksV c
    · by_cases he : (k : Int) * wordsV c = f
      · have hbq : ((k : Int) * wordsV c == f) = true := by simp [he]
        have HE := Lib.hid he
        clear he
        go_wp2_with (first | (go_at_call 22; refine (rblocks_any _ _).mono ?_; rintro e w' ⟨rfl, hb⟩) | (go_at_call 21; refine (rwords_any _ _).mono ?_; rintro e w2 ⟨rfl, hb2⟩))
        go_ret
        exact ⟨ret_int (index_hit (by omega) hlt HE.out).symm, bthen hbw (bthen hb hb2)⟩
      · have hbq : ((k : Int) * wordsV c == f) = false := by simp [he]
        have HE := Lib.hid he
        clear he
        go_wp2_with (first | (go_at_call 22; refine (rblocks_any _ _).mono ?_; rintro e w' ⟨rfl, hb⟩) | (go_at_call 21; refine (rwords_any _ _).mono ?_; rintro e w2 ⟨rfl, hb2⟩))
        go_roundw
        case rel => exact ⟨k + 1, by omega, by go_num, fun j j0 j1 => by
          by_cases e : j = k
          · subst e; exact HE.out
          · exact hj.out j j0 (by omega), bthen hbw (bthen hb hb2)⟩
        case measure => simp [intOf]; omega
    · go_wp2_with (first | (go_at_call 22; refine (rblocks_any _ _).mono ?_; rintro e w' ⟨rfl, hb⟩) | (go_at_call 21; refine (rwords_any _ _).mono ?_; rintro e w2 ⟨rfl, hb2⟩))
      go_ret
      exact ⟨ret_int (index_none fun j j0 j1 => hj.out j j0 (by omega)).symm, bthen hbw hb⟩
end Go.Proofs.Ytafhbhgmcchihaa
