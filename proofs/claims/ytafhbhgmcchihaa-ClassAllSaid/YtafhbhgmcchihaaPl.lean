/- The size classes in plain numbers: how many words and blocks each of the eight classes has, which class and how many pages a size has, where a block begins. No condition. -/
import Derived.WalkKit
namespace Go.Proofs.Ytafhbhgmcchihaa.Cl

/-- The words of class c's blocks; 0: no such class. -/
def wordsV (c : Int) : Int :=
  if c < 0 then 0 else if c < 1 then 2 else if c < 2 then 4 else if c < 3 then 6 else if c < 4 then 8 else if c < 5 then 12
  else if c < 6 then 16 else if c < 7 then 20 else if c < 8 then 32 else 0
/-- The blocks of a page of class c. -/
def blocksV (c : Int) : Int :=
  if c < 0 then 0 else if c < 1 then 32 else if c < 2 then 16 else if c < 3 then 10 else if c < 4 then 8 else if c < 5 then 5
  else if c < 6 then 4 else if c < 7 then 3 else if c < 8 then 2 else 0
def ofV (s : Int) : Int :=
  if s < 1 then -1 else if s ≤ 2 then 0 else if s ≤ 4 then 1 else if s ≤ 6 then 2 else if s ≤ 8 then 3 else if s ≤ 12 then 4
  else if s ≤ 16 then 5 else if s ≤ 20 then 6 else if s ≤ 32 then 7 else if s ≤ 1024 then 8 else -1
def pagesV (s : Int) : Int := if ofV s = 8 then (s + 63) / 64 else 0
def startV (c i : Int) : Int := if 0 ≤ i ∧ i < blocksV c then i * wordsV c else -1
def indexV (c f : Int) : Int := if 0 < wordsV c ∧ 0 ≤ f ∧ f % wordsV c = 0 ∧ f / wordsV c < blocksV c then f / wordsV c else -1

theorem words_bd (c : Int) : 0 ≤ wordsV c ∧ wordsV c ≤ 32 := by unfold wordsV; omega
theorem blocks_bd (c : Int) : 0 ≤ blocksV c ∧ blocksV c ≤ 32 := by unfold blocksV; omega
theorem of_bd (c : Int) : -1 ≤ ofV c ∧ ofV c ≤ 8 := by unfold ofV; omega
theorem pages_bd (c : Int) : 0 ≤ pagesV c ∧ pagesV c ≤ 16 := by
  unfold pagesV
  split
  · rename_i h
    unfold ofV at h
    omega
  · omega
theorem words_low {c : Int} (h : c < 0) : wordsV c = 0 := by unfold wordsV; omega
theorem words_high {c : Int} (h : 8 ≤ c) : wordsV c = 0 := by unfold wordsV; omega
theorem words_pos {c : Int} (h : 0 ≤ c) (h' : c < 8) : 2 ≤ wordsV c := by unfold wordsV; omega
theorem words_succ {k : Int} (h : 0 ≤ k) (h' : k < 7) : wordsV (k + 1) = wordsV k + if k < 3 then 2 else if k < 6 then 4 else 12 := by
  unfold wordsV; omega
theorem blocks_zero {c : Int} (h : wordsV c = 0) : blocksV c = 0 := by unfold wordsV at h; unfold blocksV; omega
/-- The eight classes, one by one. -/
theorem eight {c : Int} (h : 0 ≤ c) (h' : c < 8) : c = 0 ∨ c = 1 ∨ c = 2 ∨ c = 3 ∨ c = 4 ∨ c = 5 ∨ c = 6 ∨ c = 7 := by omega
theorem blocks_quo (c : Int) (h : 1 ≤ wordsV c) : 64 / wordsV c = blocksV c := by
  have hc : 0 ≤ c ∧ c < 8 := by unfold wordsV at h; omega
  rcases eight hc.1 hc.2 with rfl | rfl | rfl | rfl | rfl | rfl | rfl | rfl <;> decide
theorem blocks_fit (c : Int) (h : 1 ≤ wordsV c) {n : Int} (h0 : 0 ≤ n) (h1 : n * wordsV c ≤ 64) (h2 : 64 < (n + 1) * wordsV c) : n = blocksV c := by
  have hc : 0 ≤ c ∧ c < 8 := by unfold wordsV at h; omega
  rcases eight hc.1 hc.2 with rfl | rfl | rfl | rfl | rfl | rfl | rfl | rfl <;> (simp [wordsV] at h1 h2; simp [blocksV]; omega)
theorem of_at {s k : Int} (h1 : 1 ≤ s) (h2 : s ≤ 1024) (hk : 0 ≤ k) (hk8 : k ≤ 8) (hb : ∀ j, 0 ≤ j → j < k → wordsV j < s) (ha : k < 8 → s ≤ wordsV k) : ofV s = k := by
  have e : k = 8 ∨ 0 ≤ k ∧ k < 8 := by omega
  rcases e with rfl | ⟨e1, e2⟩
  · have := hb 7 (by omega) (by omega)
    simp [wordsV] at this
    unfold ofV
    omega
  · rcases eight e1 e2 with rfl | rfl | rfl | rfl | rfl | rfl | rfl | rfl
    · have g := ha (by omega)
      simp [wordsV] at g
      unfold ofV; omega
    · have g := ha (by omega)
      have b := hb 0 (by omega) (by omega)
      simp [wordsV] at g b
      unfold ofV; omega
    · have g := ha (by omega)
      have b := hb 1 (by omega) (by omega)
      simp [wordsV] at g b
      unfold ofV; omega
    · have g := ha (by omega)
      have b := hb 2 (by omega) (by omega)
      simp [wordsV] at g b
      unfold ofV; omega
    · have g := ha (by omega)
      have b := hb 3 (by omega) (by omega)
      simp [wordsV] at g b
      unfold ofV; omega
    · have g := ha (by omega)
      have b := hb 4 (by omega) (by omega)
      simp [wordsV] at g b
      unfold ofV; omega
    · have g := ha (by omega)
      have b := hb 5 (by omega) (by omega)
      simp [wordsV] at g b
      unfold ofV; omega
    · have g := ha (by omega)
      have b := hb 6 (by omega) (by omega)
      simp [wordsV] at g b
      unfold ofV; omega
theorem of_low {s : Int} (h : s < 1) : ofV s = -1 := by unfold ofV; omega
theorem of_high {s : Int} (h : 1024 < s) : ofV s = -1 := by unfold ofV; omega
theorem of_eight {s : Int} (h : ofV s = 8) : 33 ≤ s ∧ s ≤ 1024 := by unfold ofV at h; omega
theorem pages_at {s : Int} (h : ofV s = 8) : pagesV s = (s + 63) / 64 := by unfold pagesV; rw [if_pos h]
theorem pages_not {s : Int} (h : ofV s ≠ 8) : pagesV s = 0 := by unfold pagesV; rw [if_neg h]
theorem start_in {c i : Int} (h : 0 ≤ i) (h' : i < blocksV c) : startV c i = i * wordsV c := by unfold startV; rw [if_pos ⟨h, h'⟩]
theorem start_low {c i : Int} (h : i < 0) : startV c i = -1 := by unfold startV; rw [if_neg (by omega)]
theorem start_high {c i : Int} (h : blocksV c ≤ i) : startV c i = -1 := by unfold startV; rw [if_neg (by omega)]
theorem mul_bd {i w : Int} (h0 : 0 ≤ i) (h1 : i ≤ 64) (g0 : 0 ≤ w) (g1 : w ≤ 32) : 0 ≤ i * w ∧ i * w ≤ 2048 := by
  refine ⟨Int.mul_nonneg h0 g0, ?_⟩
  calc i * w ≤ 64 * w := Int.mul_le_mul_of_nonneg_right h1 g0
    _ ≤ 64 * 32 := Int.mul_le_mul_of_nonneg_left g1 (by omega)
    _ = 2048 := by omega
/-- A block that begins at f is the one that Index names. -/
theorem index_hit {c f i : Int} (h0 : 0 ≤ i) (h1 : i < blocksV c) (h : i * wordsV c = f) : indexV c f = i := by
  have hw : 0 < wordsV c := by
    have := words_bd c
    have : wordsV c ≠ 0 := fun e => by have := blocks_zero e; omega
    omega
  subst h
  have hd : i * wordsV c / wordsV c = i := Int.mul_ediv_cancel i (by omega)
  unfold indexV
  rw [if_pos ⟨hw, Int.mul_nonneg h0 (by omega), Int.mul_emod_left i _, by rw [hd]; exact h1⟩, hd]
/-- Where no block begins at f there is none that Index names. -/
theorem index_none {c f : Int} (h : ∀ i, 0 ≤ i → i < blocksV c → i * wordsV c ≠ f) : indexV c f = -1 := by
  unfold indexV
  split
  · rename_i g
    obtain ⟨g1, g2, g3, g4⟩ := g
    exact absurd (Int.ediv_mul_cancel (Int.dvd_of_emod_eq_zero g3)) (h _ (Int.ediv_nonneg g2 (by omega)) g4)
  · rfl
theorem index_in {c f : Int} (h : 0 < wordsV c) (h0 : 0 ≤ f) (h1 : f % wordsV c = 0) (h2 : f / wordsV c < blocksV c) : indexV c f = f / wordsV c := by
  unfold indexV; rw [if_pos ⟨h, h0, h1, h2⟩]
theorem index_out {c f : Int} (h : ¬ (0 < wordsV c ∧ 0 ≤ f ∧ f % wordsV c = 0 ∧ f / wordsV c < blocksV c)) : indexV c f = -1 := by
  unfold indexV; rw [if_neg h]
theorem index_nowords {c f : Int} (h : wordsV c = 0) : indexV c f = -1 := index_out fun g => by omega

/-! What ClassHolds and ClassTiles ask. -/
theorem pages_pos (s : Int) : 0 < pagesV s ↔ ofV s = 8 := by
  constructor
  · intro h
    by_cases e : ofV s = 8
    · exact e
    · rw [pages_not e] at h
      omega
  · intro h
    rw [pages_at h]
    have := of_eight h
    omega
theorem of_none (s : Int) : ofV s = -1 ↔ s < 1 ∨ 1024 < s := by unfold ofV; omega
theorem of_holds {s : Int} (h0 : 0 ≤ ofV s) (h8 : ofV s < 8) : s ≤ wordsV (ofV s) := by
  generalize hc : ofV s = c at *
  unfold ofV at hc
  rcases eight h0 h8 with rfl | rfl | rfl | rfl | rfl | rfl | rfl | rfl <;> (simp [wordsV]; omega)
theorem of_least {s : Int} (h0 : 1 ≤ ofV s) (h8 : ofV s < 8) : wordsV (ofV s - 1) < s := by
  generalize hc : ofV s = c at *
  unfold ofV at hc
  rcases eight (by omega) h8 with rfl | rfl | rfl | rfl | rfl | rfl | rfl | rfl <;> simp [wordsV] <;> omega
theorem words_some (c : Int) : 0 < wordsV c ↔ 0 ≤ c ∧ c < 8 := by unfold wordsV; omega
theorem blocks_some (c : Int) : 0 < blocksV c ↔ 0 < wordsV c := by unfold wordsV blocksV; omega
theorem tiles_in (c : Int) (h : 0 < wordsV c) : blocksV c * wordsV c ≤ 64 ∧ 64 < (blocksV c + 1) * wordsV c := by
  have hc := (words_some c).1 h
  rcases eight hc.1 hc.2 with rfl | rfl | rfl | rfl | rfl | rfl | rfl | rfl <;> decide
end Go.Proofs.Ytafhbhgmcchihaa.Cl
