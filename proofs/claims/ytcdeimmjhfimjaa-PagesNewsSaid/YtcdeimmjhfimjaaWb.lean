/- rise brings the low end up to the least free page. No condition. -/
import Derived.Test.YtcdeimmjhfimjaaWa
namespace Go.Proofs.Ytcdeimmjhfimjaa
open Go.RowKit Go.Proofs.Ytcdeimmjhfimjaa.Pp
set_option linter.unusedVariables false

/-- The low end is the least free page, or the end. -/
def Risen (w : World) (tg g n cap : Nat) (f : Nat → Pg) (e : Ending) (w' : World) : Prop :=
  e = .returned (.tuple #[]) ∧ ∃ l, TabL w' tg g n cap f l ∧ (l < n → isz (f l) = true) ∧ Fr [tg] w w'
theorem TabL.up {w : World} {tg g n cap l : Nat} {f : Nat → Pg} (h : TabL w tg g n cap f l) (hl : l < n) (hz : isz (f l) = false) {v : Value} (hv : v = .int .i64 ((l + 1 : Nat) : Int)) :
    TabL (w.setCell ⟨tg, 1, none⟩ v) tg g n cap f (l + 1) := by
  subst hv
  refine ⟨h.blk.set1 _, h.pg.far h.ne.symm _, h.wf, fun j hj => ?_, by omega, h.n1, h.n4⟩
  by_cases e : j = l
  · subst e; exact hz
  · exact h.lows j (by omega)

theorem rise_any {w : World} {tg g n cap low : Nat} {f : Nat → Pg} (h : TabL w tg g n cap f low) : Calls Try.prog 32 #[.pointer (some ⟨tg, 0, none⟩)] w (Risen w tg g n cap f) := by
  have hn4 := h.n4
  have H0 := Lib.hid h
  clear h
  go_enter Try.func32, Try.ntmps32
  go_wp2_with fail
  go_loopg [] (n - low) (fun gk wr => ∃ l : Nat, Hid (gk = n - l) ∧ Hid (TabL wr tg g n cap f l) ∧ Fr [tg] w wr)
  case atStart => exact ⟨low, rfl, H0.out, Fr.refl _ _⟩
  case round =>
    obtain ⟨l, hgk, hT, hfr⟩ := hrel
    have c0 := hT.out.blk.c0
    have c1 := hT.out.blk.c1
    have z1 := hT.out.blk.free 1
    have hln := hT.out.lown
    by_cases hlt : l < n
    · have d1 : decide ((l : Int) < n) = true := by simp; omega
      have h0 : (0 : Int) ≤ l := by omega
      by_cases hz : isz (f l) = true
      · have hc := fun (wx : World) (hx : TabL wx tg g n cap f l) => free_any hx l hlt
        rw [hz] at hc
        have HC := Lib.hid hc
        have HZ := Lib.hid hz
        clear hz hc
        go_wp2_with fail
        go_region_held3 (fun w' => w'.cell? ⟨tg, 0, none⟩ = some (.slice (some ⟨g, 0, none⟩) n cap) ∧ w'.cell? ⟨tg, 1, none⟩ = some (.int .i64 l)) (exact ⟨c0, c1⟩)
          (first | (go_at_call 33; refine (HC.out _ hT.out.drew).mono ?_; rintro e w2 ⟨rfl, rfl⟩) | (go_at_call 33; refine (HC.out _ hT.out).mono ?_; rintro e w2 ⟨rfl, rfl⟩))
        go_wp2
        go_end0
        exact ⟨rfl, l, hT.out.drew, fun _ => HZ.out, hfr.drew⟩
      · have hz : isz (f l) = false := by simpa using hz
        have hc := fun (wx : World) (hx : TabL wx tg g n cap f l) => free_any hx l hlt
        rw [hz] at hc
        have HC := Lib.hid hc
        have HZ := Lib.hid hz
        clear hz hc
        go_wp2_with fail
        go_region_held3 (fun w' => w'.cell? ⟨tg, 0, none⟩ = some (.slice (some ⟨g, 0, none⟩) n cap) ∧ w'.cell? ⟨tg, 1, none⟩ = some (.int .i64 l)) (exact ⟨c0, c1⟩)
          (first | (go_at_call 33; refine (HC.out _ hT.out.drew).mono ?_; rintro e w2 ⟨rfl, rfl⟩) | (go_at_call 33; refine (HC.out _ hT.out).mono ?_; rintro e w2 ⟨rfl, rfl⟩))
        go_wp2
        go_roundg (n - (l + 1))
        case measure => have := hgk.out; omega
        case rel => exact ⟨l + 1, rfl, hT.out.drew.up hlt HZ.out (by go_num), hfr.drew.setCell (.inl (by simp)) _⟩
    · have d1 : decide ((l : Int) < n) = false := by simp; omega
      go_wp2_with fail
      go_quiet (fail)
      go_wp2
      go_end0
      exact ⟨rfl, l, hT.out.drewN _, fun g => absurd g hlt, hfr.drewN _⟩
end Go.Proofs.Ytcdeimmjhfimjaa
