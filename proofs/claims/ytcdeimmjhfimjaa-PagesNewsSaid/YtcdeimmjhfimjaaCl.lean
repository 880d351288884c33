/- What the built-in clear leaves of a row of pages. No condition. -/
import Derived.Test.YtcdeimmjhfimjaaMm
import Derived.Laws.IdiomCopy
namespace Go.Proofs.Ytcdeimmjhfimjaa
open Go.RowKit Go.Proofs.Ytcdeimmjhfimjaa.Pp
set_option linter.unusedVariables false

theorem heap_fill {g : Nat} {t : TypeId} {z : Value} : ∀ (k : Nat) {w : World} {cur : Array Value} {o : Nat}, w.heap[g]? = some (.cells cur t (0, 0)) → o + k ≤ cur.size →
    ∃ cur' : Array Value, (w.setCells g o (List.replicate k z)).heap[g]? = some (.cells cur' t (0, 0)) ∧ cur'.size = cur.size ∧ ∀ i, cur'[i]? = if o ≤ i ∧ i < o + k then some z else cur[i]?
  | 0, w, cur, o, h, _ => ⟨cur, h, rfl, fun i => by rw [if_neg (by omega)]⟩
  | k + 1, w, cur, o, h, hs => by
    rw [List.replicate_succ]
    unfold World.setCells
    obtain ⟨cur', h1, h2, h3⟩ := heap_fill (z := z) k (o := o + 1) (heap_set_same (i := o) h z) (by simp; omega)
    refine ⟨cur', h1, by simpa using h2, fun i => ?_⟩
    rw [h3 i, Array.getElem?_setIfInBounds]
    by_cases e : o = i
    · subst e
      rw [if_neg (by omega), if_pos rfl, if_pos (by omega), if_pos (by omega)]
    · rw [if_neg e]
      by_cases e2 : o + 1 ≤ i ∧ i < o + 1 + k
      · rw [if_pos e2, if_pos (by omega)]
      · rw [if_neg e2, if_neg (by omega)]
theorem heap_fill_far {g j : Nat} (hj : j ≠ g) : ∀ (vs : List Value) (w : World) (o : Nat), (w.setCells g o vs).heap[j]? = w.heap[j]?
  | [], _, _ => rfl
  | v :: r, w, o => by
    unfold World.setCells
    rw [heap_fill_far hj r]
    exact heap_set_far hj v
theorem Fr.fill {L : List Nat} {a : World} {g : Nat} (hg : g ∈ L) : ∀ (vs : List Value) {w : World} (o : Nat), Fr L a w → Fr L a (w.setCells g o vs)
  | [], _, _, h => h
  | v :: r, w, o, h => by
    unfold World.setCells
    exact Fr.fill hg r (o + 1) (h.setCell (p := ⟨g, o, Option.none⟩) (.inl hg) v)
theorem PgAt.clear {w : World} {g n cap s m : Nat} {f : Nat → Pg} (h : PgAt w g n cap f) (hm : s + m ≤ n) :
    PgAt (w.setCells g (s * 3) (List.replicate (m * 3) (.int .i64 0))) g n cap (clearRun f s m) := by
  obtain ⟨cur, hb, hs, hc⟩ := h.blk
  have hle := h.le
  obtain ⟨cur', h1, h2, h3⟩ := heap_fill (z := .int .i64 0) (m * 3) (o := s * 3) hb (by omega)
  refine ⟨⟨cur', h1, h2.trans hs, fun i hi => ?_⟩, h.le, h.max⟩
  rw [h3, h3, h3]
  by_cases e : s ≤ i ∧ i < s + m
  · rw [if_pos (by omega), if_pos (by omega), if_pos (by omega), clearRun_in e.1 e.2]
    exact ⟨rfl, rfl, rfl⟩
  · rw [if_neg (by omega), if_neg (by omega), if_neg (by omega), clearRun_out (by omega)]
    exact hc i hi
theorem zero47 (w : World) : (zeroValue 47).run Try.prog w = .ok (.agg #[.int .i64 0, .int .i64 0, .int .i64 0]) w := by kernel_rfl
theorem run_clear_pages {w : World} {g n cap s m c : Nat} {f : Nat → Pg} (h : PgAt w g n cap f) (h1 : 0 < m) (hm : s + m ≤ n) (ty : TypeId) :
    (Builtin.clear_ #[43] ty #[.slice (some ⟨g, s * 3, none⟩) m c]).run Try.prog w = .ok (.tuple #[]) (w.setCells g (s * 3) (List.replicate (m * 3) (.int .i64 0))) := by
  have hz : (Builtin.zeroCells (Value.agg #[.int .i64 0, .int .i64 0, .int .i64 0]).cells m).toList = List.replicate (m * 3) (.int .i64 0) := by
    have e : (Value.agg #[.int .i64 0, .int .i64 0, .int .i64 0]).cells = #[.int .i64 0, .int .i64 0, .int .i64 0] := rfl
    rw [e]
    refine List.ext_getElem (by simp [Builtin.zeroCells]) fun i a b => ?_
    simp only [Builtin.zeroCells, Array.toList_map, List.getElem_map, List.getElem_replicate, Array.toList_range, List.getElem_range]
    have e3 : i % 3 = 0 ∨ i % 3 = 1 ∨ i % 3 = 2 := by omega
    have e4 : (#[.int .i64 0, .int .i64 0, .int .i64 0] : Array Value).size = 3 := rfl
    rw [e4]
    rcases e3 with e3 | e3 | e3 <;> rw [e3] <;> rfl
  obtain ⟨cur, hb, hs, hc⟩ := h.blk
  have hle := h.le
  have hst := run_storeCells_cells (P := Try.prog) g (s * 3) (List.replicate (m * 3) (.int .i64 0)) 0 w
    (fun j hj => by rw [heap_cell hb, Array.getElem?_eq_getElem (by simp at hj; omega)]; rfl) (fun j hj => heap_free hb _)
    (fun v hv => by rw [List.eq_of_mem_replicate hv]; rfl)
  simp only [Nat.add_zero] at hst
  obtain ⟨k, rfl⟩ : ∃ k, m = k + 1 := ⟨m - 1, by omega⟩
  simp [Builtin.clear_, run_underlying Try.underlying43, hz, hst]
end Go.Proofs.Ytcdeimmjhfimjaa
