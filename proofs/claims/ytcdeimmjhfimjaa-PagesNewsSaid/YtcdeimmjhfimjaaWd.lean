/- run turns free pages into a run; TakeRun takes the lowest free row. No condition. -/
import Derived.Test.YtcdeimmjhfimjaaWc
namespace Go.Proofs.Ytcdeimmjhfimjaa
open Go.RowKit Go.Proofs.Ytcdeimmjhfimjaa.Pp
set_option linter.unusedVariables false

def restTo (f : Nat → Pg) (s k : Nat) : Nat → Pg := fun j => if s ≤ j ∧ j < s + k then ⟨3, 0, 0⟩ else f j
theorem restTo_zero (f : Nat → Pg) (s : Nat) : restTo f s 0 = f := by funext j; unfold restTo; rw [if_neg (by omega)]
theorem restTo_succ (f : Nat → Pg) (s k : Nat) : upd (restTo f s k) (s + k) ⟨3, 0, 0⟩ = restTo f s (k + 1) := by
  funext j
  unfold upd restTo
  by_cases e : j = s + k
  · rw [if_pos e, if_pos (by omega)]
  · rw [if_neg e]
    by_cases e2 : s ≤ j ∧ j < s + k
    · rw [if_pos e2, if_pos (by omega)]
    · rw [if_neg e2, if_neg (by omega)]
theorem restTo_head (f : Nat → Pg) (s k : Nat) : upd (restTo f s k) s ⟨2, 0, k⟩ = putRun f s k := by
  funext j
  unfold upd restTo putRun
  by_cases e : j = s
  · rw [if_pos e, if_pos e]
  · rw [if_neg e, if_neg e]
    by_cases e2 : s ≤ j ∧ j < s + k
    · rw [if_pos e2, if_pos (by omega)]
    · rw [if_neg e2, if_neg (by omega)]

def RanP (w : World) (tg g n cap : Nat) (f : Nat → Pg) (s k : Nat) (e : Ending) (w' : World) : Prop :=
  e = .returned (.int .i64 (s : Int)) ∧ Tab w' tg g n cap (putRun f s k) ∧ Fr [tg, g] w w'

theorem run_any {w : World} {tg g n cap l s k : Nat} {f : Nat → Pg} (h : TabL w tg g n cap f l) (h1 : 1 ≤ k) (h16 : k ≤ 16) (hr : RunAt n f k s) (hls : l ≤ s) :
    Calls Try.prog 34 #[.pointer (some ⟨tg, 0, none⟩), .int .i64 (s : Int), .int .i64 (k : Int)] w (RanP w tg g n cap f s k) := by
  have hsk := hr.1
  have hn4 := h.n4
  have hne := h.ne
  have hcn : cnt f n ≤ 4096 := Nat.le_trans (cnt_le f n) hn4
  have hcp := cnt_putRun h1 hr
  have hkc : k ≤ cnt f n := by omega
  have HCP := Lib.hid hcp
  have H0 := Lib.hid h
  have HR := Lib.hid hr
  clear h hr hcp
  go_enter Try.func34, Try.ntmps34
  go_wp2
  go_loopw [9] (fun i wr => ∃ m : Nat, m ≤ k ∧ i = .int .i64 (m : Int) ∧ Hid (T3 wr tg (.slice (some ⟨g, 0, none⟩) n cap) (.int .i64 l) (.int .i64 (cnt f n : Nat))) ∧ Hid (PgAt wr g n cap (restTo f s m)) ∧ Fr [tg, g] w wr) (fun i _ => k - (intOf i).toNat)
  case atStart => exact ⟨0, by omega, rfl, H0.out.blk, by rw [restTo_zero]; exact H0.out.pg, Fr.refl _ _⟩
  case round =>
    obtain ⟨m, hm, rfl, hT, hP, hfr⟩ := hrel
    have c0 := hT.out.c0
    have c2 := hT.out.c2
    have z2 := hT.out.free 2
    by_cases hlt : m < k
    · have hi : s + m < n := by omega
      have p0 := hP.out.k hi
      have p1 := hP.out.c hi
      have p2 := hP.out.r hi
      have f0 := hP.out.frozen ((s + m) * 3)
      have f1 := hP.out.frozen ((s + m) * 3 + 1)
      have f2 := hP.out.frozen ((s + m) * 3 + 2)
      go_wp2
      go_roundw
      case rel => exact ⟨m + 1, by omega, by go_num, hT.out.put3 hne, by rw [← restTo_succ]; exact hP.out.set hi 3 0 0, ((hfr.setCell (.inl (by simp)) _).setCell (.inl (by simp)) _).setCell (.inl (by simp)) _⟩
      case measure => simp [intOf]; omega
    · have e : m = k := by omega
      subst e
      have hi : s < n := by omega
      have p0 := hP.out.k hi
      have p1 := hP.out.c hi
      have p2 := hP.out.r hi
      have f0 := hP.out.frozen (s * 3)
      have f1 := hP.out.frozen (s * 3 + 1)
      have f2 := hP.out.frozen (s * 3 + 2)
      go_wp2
      go_ret
      refine ⟨rfl, ⟨l, ?_, ?_, wf_run H0.out.wf h1 h16 HR.out, fun j hj => ?_, H0.out.lown, H0.out.n1, hn4⟩, ((((hfr.setCell (.inl (by simp)) _).setCell (.inl (by simp)) _).setCell (.inl (by simp)) _).setCell (.inl (by simp)) _)⟩
      · have hx : (.int .i64 ((cnt f n : Nat) - (m : Nat)) : Value) = .int .i64 (cnt (putRun f s m) n : Nat) := by congr 1; have := HCP.out; omega
        rw [← hx]
        exact T3.set2 (T3.put3 hT.out hne) _
      · rw [← restTo_head]
        exact PgAt.far (p := ⟨tg, 2, none⟩) (hP.out.set hi _ _ _) hne.symm _
      · by_cases e : s ≤ j
        · omega
        · rw [putRun_out h1 (by omega)]; exact H0.out.lows j hj
end Go.Proofs.Ytcdeimmjhfimjaa
