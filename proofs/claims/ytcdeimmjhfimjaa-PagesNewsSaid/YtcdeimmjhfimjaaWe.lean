/- TakeRun takes the lowest free row. No condition. -/
import Derived.Test.YtcdeimmjhfimjaaWd
import Derived.Test.YtcdeimmjhfimjaaSc
namespace Go.Proofs.Ytcdeimmjhfimjaa
open Go.RowKit Go.Proofs.Ytcdeimmjhfimjaa.Pp
set_option linter.unusedVariables false

theorem takeRun_bad {w : World} {tg : Nat} {k : Int} (hc : k < 1 ∨ 16 < k) :
    Calls Try.prog 17 #[.pointer (some ⟨tg, 0, none⟩), .int .i64 k] w fun e w' => e = .returned (.tuple #[.int .i64 0, .int .i64 1]) ∧ Below w.heap.size w w' := by
  by_cases h : k < 1
  · go_enter Try.func17, Try.ntmps17
    go_wp2
    go_ret2
    exact ⟨rfl, Below.refl _ _⟩
  · have h2 : 16 < k := by omega
    go_enter Try.func17, Try.ntmps17
    go_wp2
    go_ret2
    exact ⟨rfl, Below.refl _ _⟩

def TookR (w : World) (tg g n cap : Nat) (f : Nat → Pg) (k : Nat) (e : Ending) (w' : World) : Prop :=
  e = .returned (.tuple #[.int .i64 (takeV n f k), .int .i64 (takeE n f k)]) ∧ Tab w' tg g n cap (takeR n f k) ∧ Fr [tg, g] w w'

theorem takeRun_any {w : World} {tg g n cap k : Nat} {f : Nat → Pg} (h : Tab w tg g n cap f) (h1 : 1 ≤ k) (h16 : k ≤ 16) :
    Calls Try.prog 17 #[.pointer (some ⟨tg, 0, none⟩), .int .i64 (k : Int)] w (TookR w tg g n cap f k) := by
  obtain ⟨low, h⟩ := h
  have H0 := Lib.hid h
  clear h
  go_enter Try.func17, Try.ntmps17
  go_wp2_with fail
  refine (rise_any H0.out).mono ?_
  rintro e w2 ⟨rfl, l, hT, hz2, hfr⟩
  have HT := Lib.hid hT
  have c0 := hT.blk.c0
  have c1 := hT.blk.c1
  have hln := hT.lown
  have hn4 := hT.n4
  have HF := Lib.hid hfr
  clear hT hfr hz2
  go_wp2_with fail
  go_loop [6, 7] (fun lg i => ∃ x m : Nat, l ≤ x ∧ x ≤ n ∧ m ≤ x ∧ m < k ∧ i = .int .i64 (x : Int) ∧ lg = .int .i64 (m : Int) ∧ Hid (Scan n f k x m)) (fun _ i => n - (intOf i).toNat)
  case atStart => exact ⟨l, 0, by omega, by omega, by omega, by omega, rfl, rfl, Scan.start h1 HT.out.lows⟩
  case round =>
    obtain ⟨x, m, hx1, hx2, hm1, hm2, rfl, rfl, hS⟩ := hrel
    by_cases hlt : x < n
    · cases hz : isz (f x) with
      | true =>
        have hc := free_any HT.out x hlt
        rw [hz] at hc
        have HC := Lib.hid hc
        have HZ := Lib.hid hz
        clear hz hc
        by_cases hmk : m + 1 = k
        · obtain ⟨hr, hf⟩ := hS.out.found hlt HZ.out hmk
          have d1 : ((m : Int) + 1 == (k : Int)) = true := by simp; omega
          have HR := Lib.hid (run_any HT.out h1 h16 hr (HT.out.lows.run h1 hr))
          have HFR := Lib.hid hf
          have ex : (x : Int) - k + 1 = ((x - m : Nat) : Int) := by omega
          have HX := Lib.hid ex
          have HMK := Lib.hid hmk
          clear hr hf ex hmk
          go_wp2_with (first | (go_at_call 33; refine HC.out.mono ?_; rintro e w3 ⟨rfl, rfl⟩) | fail)
          rw [HX.out]
          refine HR.out.mono ?_
          rintro e w4 ⟨rfl, hT4, hF4⟩
          go_wp2_with fail
          go_ret2
          exact ⟨ret_two (takeV_some HFR.out).symm (takeE_some HFR.out).symm, by rw [takeR_some HFR.out]; exact hT4, HF.out.left.trans hF4⟩
        · have d1 : ((m : Int) + 1 == (k : Int)) = false := by simp; omega
          have HMK := Lib.hid hmk
          clear hmk
          go_wp2_with (first | (go_at_call 33; refine HC.out.mono ?_; rintro e w3 ⟨rfl, rfl⟩) | fail)
          go_round
          case rel => exact ⟨x + 1, m + 1, by omega, by omega, by omega, by have := HMK.out; omega, by go_num, by go_num, hS.out.hit HZ.out HMK.out⟩
          case measure => simp [intOf]; omega
      | false =>
        have hc := free_any HT.out x hlt
        rw [hz] at hc
        have HC := Lib.hid hc
        have HZ := Lib.hid hz
        clear hz hc
        go_wp2_with (first | (go_at_call 33; refine HC.out.mono ?_; rintro e w3 ⟨rfl, rfl⟩) | fail)
        go_round
        case rel => exact ⟨x + 1, 0, by omega, by omega, by omega, by omega, by go_num, rfl, hS.out.miss HZ.out⟩
        case measure => simp [intOf]; omega
    · go_wp2_with fail
      go_ret2
      have hf := hS.out.done (by omega)
      exact ⟨ret_two (takeV_none hf).symm (takeE_none hf).symm, ⟨l, by rw [takeR_none hf]; exact HT.out⟩, HF.out.left⟩
end Go.Proofs.Ytcdeimmjhfimjaa
