/- New, All and Copy. No condition. -/
import Derived.Test.YtcdeimmjhfimjaaWf
namespace Go.Proofs.Ytcdeimmjhfimjaa
open Go.RowKit Go.Proofs.Ytcdeimmjhfimjaa.Pp
set_option linter.unusedVariables false

theorem info47 : (Try.prog.info? 47).map (fun i => (i.zero, i.size, i.bytes)) = some (some (.agg #[.int .i64 0, .int .i64 0, .int .i64 0]), 3, 24) := by kernel_rfl
theorem made_flat (n : Nat) : (madeCells (Value.agg #[.int .i64 0, .int .i64 0, .int .i64 0]).cells (n * 3)).toList = flat (fun _ => fr0) n := by
  have e : (Value.agg #[.int .i64 0, .int .i64 0, .int .i64 0]).cells = #[.int .i64 0, .int .i64 0, .int .i64 0] := rfl
  have e4 : (#[.int .i64 0, .int .i64 0, .int .i64 0] : Array Value).size = 3 := rfl
  rw [e]
  refine List.ext_getElem? fun j => ?_
  simp only [madeCells, Array.toList_map, List.getElem?_map, Array.toList_range, e4]
  by_cases hj : j < n * 3
  · rw [List.getElem?_range hj]
    have ej : ∃ q, q < n ∧ (j = q * 3 ∨ j = q * 3 + 1 ∨ j = q * 3 + 2) := ⟨j / 3, by omega, by omega⟩
    obtain ⟨q, hq, ej⟩ := ej
    obtain ⟨h1, h2, h3⟩ := flat_at (fun _ => fr0) n q hq
    rcases ej with rfl | rfl | rfl
    · rw [h1]
      simp only [Option.map_some, show q * 3 % 3 = 0 by omega]
      rfl
    · rw [h2]
      simp only [Option.map_some, show (q * 3 + 1) % 3 = 1 by omega]
      rfl
    · rw [h3]
      simp only [Option.map_some, show (q * 3 + 2) % 3 = 2 by omega]
      rfl
  · rw [List.getElem?_eq_none (by rw [List.length_range]; omega), List.getElem?_eq_none (by rw [flat_length]; omega)]
    rfl

def NewP (w : World) (n : Nat) (e : Ending) (w' : World) : Prop :=
  ∃ tg g, e = .returned (.tuple #[.pointer (some ⟨tg, 0, none⟩), .int .i64 0]) ∧ Tab w' tg g n n (fun _ => fr0) ∧ w.heap.size ≤ tg ∧ w.heap.size ≤ g ∧ Below w.heap.size w w'

theorem new_any (n : Nat) (h1 : 1 ≤ n) (h4 : n ≤ 4096) (w : World) : Calls Try.prog 15 #[.int .i64 (n : Int)] w (NewP w n) := by
  obtain ⟨i0, hi, hz0, hz1, hz2⟩ := info_parts info47
  go_enter Try.func15, Try.ntmps15
  go_wp2_with (refine wpList_make_full _ rfl (.tmp 10) (.tmp 10) 43 rfl w.heap.size 47 i0 _ 3 Try.underlying43 hi hz0 hz1 .i64 .i64 _ _ n rfl rfl rfl rfl (by rw [hz2]; omega) (by unfold maxLen; omega) (Nat.le_refl _) ?_; intro w1 hown hgr)
  go_ret2
  rw [made_flat] at hown
  have hP := PgAt.of_own hown
  have hB : Below w.heap.size w w1 := (Below.refl _ _).grown hgr (Nat.le_refl _) (by simp)
  refine ⟨w1.heap.size, w.heap.size, rfl, ⟨0, ⟨?_, hP.alloc _, wf_new n, fun j hj => by omega, by omega, h1, h4⟩⟩, hB.size, Nat.le_refl _, hB.alloc hB.size _⟩
  rw [cnt_new]
  exact heap_alloc_new w1 _
theorem new_bad (n : Int) (hn : n < 1 ∨ 4096 < n) (w : World) : Calls Try.prog 15 #[.int .i64 n] w fun e w' => e = .returned (.tuple #[.pointer none, .int .i64 1]) ∧ w = w' := by
  by_cases h : n < 1
  · go_enter Try.func15, Try.ntmps15
    go_wp2
    go_ret2
    exact ⟨rfl, rfl⟩
  · have h2 : 4096 < n := by omega
    go_enter Try.func15, Try.ntmps15
    go_wp2
    go_ret2
    exact ⟨rfl, rfl⟩
def AllP (w : World) (n : Nat) (f : Nat → Pg) (e : Ending) (w' : World) : Prop :=
  ∃ g cap, e = .returned (.slice (some ⟨g, 0, none⟩) n cap) ∧ PgAt w' g n cap f ∧ g = w.heap.size ∧ Below w.heap.size w w'
theorem all_any {w : World} {tg g n cap l : Nat} {f : Nat → Pg} (h : TabL w tg g n cap f l) : Calls Try.prog 22 #[.pointer (some ⟨tg, 0, none⟩)] w (AllP w n f) := by
  obtain ⟨i0, hi, hz0, hz1, hz2⟩ := info_parts info47
  have c0 := h.blk.c0
  have h1 := h.n1
  have h4 := h.n4
  have hnews := h.pg.news
  have H0 := Lib.hid h
  clear h
  go_enter Try.func22, Try.ntmps22
  go_wp2_with (at_builtin; refine wpList_append_lies _ rfl (.const (.slice none 0 0)) (.tmp 6) 43 rfl w.heap.size 47 i0 _ 3 24 Try.underlying43 hi hz0 hz1 hz2 rfl (by omega) (.slice none 0 0) 0 [] rfl ⟨rfl, .inl ⟨rfl, rfl⟩⟩ ⟨g, 0, none⟩ n cap (flat f n) rfl (flat_length f n) hnews (flat_one f n) (by omega) (by unfold maxLen; omega) (by omega) (Nat.le_refl _) w.heap.size rfl ?_; intro g' cap' w1 hown hgr hat hlt)
  go_ret
  have hg' : g' = w.heap.size := by
    rcases hat with e | e
    · cases e
    · exact e
  simp only [Nat.zero_add, List.nil_append] at hown
  exact ⟨g', cap', by simp, PgAt.of_own hown, hg', (Below.refl _ _).grown hgr (Nat.le_refl _) (by simp [Value.ownBlock])⟩
end Go.Proofs.Ytcdeimmjhfimjaa
