/- The search for a row of free pages, in plain numbers. No condition. -/
import Derived.Test.YtcdeimmjhfimjaaPp
namespace Go.Proofs.Ytcdeimmjhfimjaa.Pp

/-- Ahead of page i: m free pages end there, no more, and no row of k ends there or before. -/
structure Scan (n : Nat) (f : Nat → Pg) (k i m : Nat) : Prop where
  le : m ≤ i
  lt : m < k
  free : ∀ j, i - m ≤ j → j < i → isz (f j) = true
  more : ∀ s, s < i - m → ∃ j, s ≤ j ∧ j < i ∧ isz (f j) = false
  no : ∀ s, s + k ≤ i → ¬ RunAt n f k s
theorem Scan.start {n : Nat} {f : Nat → Pg} {k l : Nat} (hk : 1 ≤ k) (h : Low f l) : Scan n f k l 0 :=
  ⟨by omega, by omega, fun j _ _ => by omega, fun s hs => ⟨s, by omega, by omega, h s (by omega)⟩, fun s hs hr => by
    have := h s (by omega)
    rw [hr.2 s (by omega) (by omega)] at this
    cases this⟩
theorem Scan.zero {n : Nat} {f : Nat → Pg} {k : Nat} (hk : 1 ≤ k) : Scan n f k 0 0 := Scan.start hk fun j hj => by omega
theorem Scan.miss {n : Nat} {f : Nat → Pg} {k i m : Nat} (h : Scan n f k i m) (hz : isz (f i) = false) : Scan n f k (i + 1) 0 :=
  ⟨by omega, by have := h.lt; omega, fun j _ _ => by omega, fun s hs => ⟨i, by omega, by omega, hz⟩, fun s hs hr => by
    by_cases e : s + k ≤ i
    · exact h.no s e hr
    · have := hr.2 i (by have := h.lt; omega) (by omega)
      rw [hz] at this
      cases this⟩
theorem Scan.hit {n : Nat} {f : Nat → Pg} {k i m : Nat} (h : Scan n f k i m) (hz : isz (f i) = true) (hm : m + 1 ≠ k) : Scan n f k (i + 1) (m + 1) := by
  have h1 := h.le
  have h2 := h.lt
  refine ⟨by omega, by omega, fun j a b => ?_, fun s hs => ?_, fun s hs hr => ?_⟩
  · by_cases e : j = i
    · subst e; exact hz
    · exact h.free j (by omega) (by omega)
  · obtain ⟨j, a, b, c⟩ := h.more s (by omega)
    exact ⟨j, a, by omega, c⟩
  · by_cases e : s + k ≤ i
    · exact h.no s e hr
    · obtain ⟨j, a, b, c⟩ := h.more s (by omega)
      have := hr.2 j a (by omega)
      rw [c] at this
      cases this
/-- The row is found. -/
theorem Scan.found {n : Nat} {f : Nat → Pg} {k i m : Nat} (h : Scan n f k i m) (hi : i < n) (hz : isz (f i) = true) (hm : m + 1 = k) : RunAt n f k (i - m) ∧ firstRun n f k = some (i - m) := by
  have h1 := h.le
  have hr : RunAt n f k (i - m) := ⟨by omega, fun j a b => by
    by_cases e : j = i
    · subst e; exact hz
    · exact h.free j a (by omega)⟩
  exact ⟨hr, firstRun_some hr fun s hs => h.no s (by omega)⟩
theorem Scan.done {n : Nat} {f : Nat → Pg} {k i m : Nat} (h : Scan n f k i m) (hi : n ≤ i) : firstRun n f k = none :=
  firstRun_none.2 fun s hr => h.no s (by have := hr.1; omega) hr
end Go.Proofs.Ytcdeimmjhfimjaa.Pp
