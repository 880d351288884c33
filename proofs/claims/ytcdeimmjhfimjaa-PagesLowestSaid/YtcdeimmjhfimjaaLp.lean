/- What PagesLowest asks of taking, in plain numbers. No condition. -/
import Derived.Test.YtcdeimmjhfimjaaPp
namespace Go.Proofs.Ytcdeimmjhfimjaa.Pp

/-- The lowest row of k above x, or -1. -/
def Want (n : Nat) (f : Nat → Pg) (k : Nat) (x v : Int) : Prop :=
  (v = -1 ∧ ∀ s : Nat, x < s → ¬ RunAt n f k s) ∨ ∃ s0 : Nat, v = s0 ∧ x < s0 ∧ RunAt n f k s0 ∧ ∀ s : Nat, x < s → s < s0 → ¬ RunAt n f k s
theorem Want.start (n : Nat) (f : Nat → Pg) (k : Nat) : Want n f k ((n : Int) - k) (-1) := .inl ⟨rfl, fun s hs hr => by have := hr.1; omega⟩
theorem Want.hit {n : Nat} {f : Nat → Pg} {k x : Nat} (hr : RunAt n f k x) : Want n f k ((x : Int) - 1) x := .inr ⟨x, rfl, by omega, hr, fun s h0 h1 => by omega⟩
theorem Want.miss {n : Nat} {f : Nat → Pg} {k x : Nat} {v : Int} (h : Want n f k x v) (hr : ¬ RunAt n f k x) : Want n f k ((x : Int) - 1) v := by
  have key : ∀ s : Nat, (x : Int) - 1 < s → (x : Int) < s ∨ s = x := fun s hs => by omega
  rcases h with ⟨rfl, h⟩ | ⟨s0, rfl, h0, h1, h2⟩
  · refine .inl ⟨rfl, fun s hs => ?_⟩
    rcases key s hs with g | rfl
    · exact h s g
    · exact hr
  · refine .inr ⟨s0, rfl, by omega, h1, fun s hs hlt => ?_⟩
    rcases key s hs with g | rfl
    · exact h2 s g hlt
    · exact hr
theorem Want.done {n : Nat} {f : Nat → Pg} {k : Nat} {x v : Int} (h : Want n f k x v) (hx : x < 0) : (v = -1 ∧ firstRun n f k = none) ∨ ∃ s : Nat, v = s ∧ firstRun n f k = some s := by
  rcases h with ⟨rfl, h⟩ | ⟨s0, rfl, h0, h1, h2⟩
  · exact .inl ⟨rfl, firstRun_none.2 fun s => h s (by omega)⟩
  · exact .inr ⟨s0, rfl, firstRun_some h1 fun s hs => h2 s (by omega) hs⟩

/-- What taking a row of k at s leaves, whatever is put there. -/
structure Took (n : Nat) (f f' : Nat → Pg) (k s : Nat) : Prop where
  run : RunAt n f k s
  out : ∀ j, j < s ∨ s + k ≤ j → f' j = f j
  cnt : Pp.cnt f' n + k = Pp.cnt f n
theorem Took.cls {n : Nat} {f : Nat → Pg} {s : Nat} (h : firstRun n f 1 = some s) (c : Int) : Took n f (takeC n f c) 1 s ∧ takeC n f c s = ⟨1, c, 0⟩ := by
  obtain ⟨hr, _⟩ := firstRun_spec h
  have hs := hr.1
  rw [takeC_some h]
  exact ⟨⟨hr, fun j hj => upd_ne (by omega), cnt_upd (by omega) (hr.2 s (by omega) (by omega)) (by simp [isz])⟩, upd_at _ _ _⟩
theorem Took.row {n : Nat} {f : Nat → Pg} {k s : Nat} (h1 : 1 ≤ k) (h : firstRun n f k = some s) : Took n f (takeR n f k) k s ∧ takeR n f k s = ⟨2, 0, k⟩ ∧ ∀ j, s < j → j < s + k → takeR n f k j = ⟨3, 0, 0⟩ := by
  obtain ⟨hr, _⟩ := firstRun_spec h
  rw [takeR_some h]
  exact ⟨⟨hr, fun j hj => putRun_out h1 hj, cnt_putRun h1 hr⟩, putRun_head _ _ _, fun j h0 h1 => putRun_rest h0 h1⟩
end Go.Proofs.Ytcdeimmjhfimjaa.Pp
