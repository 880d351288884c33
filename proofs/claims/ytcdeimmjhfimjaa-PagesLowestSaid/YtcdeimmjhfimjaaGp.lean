/- What PagesGiven asks of giving, in plain numbers. No condition. -/
import Derived.Test.YtcdeimmjhfimjaaPp
namespace Go.Proofs.Ytcdeimmjhfimjaa.Pp

theorem giveF_in {n : Nat} {f : Nat → Pg} {i : Int} (hg : Givable n f i) {j : Nat} (h0 : i.toNat ≤ j) (h1 : j < i.toNat + sizeAt f i.toNat) : giveF n f i j = fr0 := by
  rw [giveF_yes hg]; exact clearRun_in h0 h1
theorem giveF_out {n : Nat} {f : Nat → Pg} {i : Int} (hg : Givable n f i) {j : Nat} (h : j < i.toNat ∨ i.toNat + sizeAt f i.toNat ≤ j) : giveF n f i j = f j := by
  rw [giveF_yes hg]; exact clearRun_out h
/-- What is free stays free. -/
theorem giveF_isz {n : Nat} {f : Nat → Pg} {i : Int} {j : Nat} (h : isz (f j) = true) : isz (giveF n f i j) = true := by
  by_cases hg : Givable n f i
  · by_cases e : i.toNat ≤ j ∧ j < i.toNat + sizeAt f i.toNat
    · rw [giveF_in hg e.1 e.2]; rfl
    · rw [giveF_out hg (by omega)]; exact h
  · rw [giveF_no hg]; exact h
/-- One by one from the first page on, all become free. -/
theorem giveF_next {n k : Nat} {f : Nat → Pg} (h : Wf n f) (hk : k < n) (hz : ∀ j, j < k → isz (f j) = true) : ∀ j, j < k + 1 → isz (giveF n f k j) = true := by
  intro j hj
  by_cases e : j = k
  · subst e
    by_cases hg : Givable n f j
    · have hs := (h.span hg).1
      rw [Int.toNat_natCast] at hs
      rw [giveF_in hg (by rw [Int.toNat_natCast]; exact Nat.le_refl _) (by rw [Int.toNat_natCast]; omega)]
      rfl
    · rw [giveF_no hg]
      have ok := h j hk
      by_cases h0 : (f j).k = 0
      · exact (h.isz hk).2 h0
      · exfalso
        by_cases h3 : (f j).k = 3
        · obtain ⟨_, b, b1, b2, _⟩ := ok.three h3
          have := (isz_iff.1 (hz b b1)).1
          omega
        · exact hg ⟨by omega, by omega, by rw [Int.toNat_natCast]; exact h0, by rw [Int.toNat_natCast]; exact h3⟩
  · exact giveF_isz (hz j (by omega))
theorem cnt_all {f : Nat → Pg} : ∀ {n : Nat}, (∀ j, j < n → isz (f j) = true) → cnt f n = n
  | 0, _ => rfl
  | n + 1, h => by
    unfold cnt
    rw [cnt_all fun j hj => h j (by omega), h n (by omega)]
    rfl
end Go.Proofs.Ytcdeimmjhfimjaa.Pp
