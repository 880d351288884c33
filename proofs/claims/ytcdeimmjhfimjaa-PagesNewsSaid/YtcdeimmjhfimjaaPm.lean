/- The memory of a pair: its six fields, its lists of lists, its marks; what an append leaves of them. No condition. -/
import Derived.Test.YtcdeimmjhfimjaaRc
import Derived.Deep.RegionLaw
import Derived.ArgAppend
import Derived.Laws.OwnMore
namespace Go.Proofs.Ytcdeimmjhfimjaa
open Go.RowKit Go.Proofs.Ytcdeimmjhfimjaa.Pp
set_option linter.unusedVariables false

/-- The six fields of a pair. -/
def P6 (w : World) (pg : Nat) (a b c d e f : Value) : Prop := w.heap[pg]? = some (.cells #[a, b, c, d, e, f] 60 (0, 0))
section
variable {w w' : World} {pg : Nat} {a b c d e f : Value}
theorem P6.c0 (h : P6 w pg a b c d e f) : w.cell? ⟨pg, 0, none⟩ = some a := heap_cell h 0
theorem P6.c1 (h : P6 w pg a b c d e f) : w.cell? ⟨pg, 1, none⟩ = some b := heap_cell h 1
theorem P6.c2 (h : P6 w pg a b c d e f) : w.cell? ⟨pg, 2, none⟩ = some c := heap_cell h 2
theorem P6.c3 (h : P6 w pg a b c d e f) : w.cell? ⟨pg, 3, none⟩ = some d := heap_cell h 3
theorem P6.c4 (h : P6 w pg a b c d e f) : w.cell? ⟨pg, 4, none⟩ = some e := heap_cell h 4
theorem P6.c5 (h : P6 w pg a b c d e f) : w.cell? ⟨pg, 5, none⟩ = some f := heap_cell h 5
theorem P6.free (h : P6 w pg a b c d e f) (i : Nat) : w.frozen? ⟨pg, i, none⟩ = false := heap_free h i
theorem P6.set2 (h : P6 w pg a b c d e f) (u : Value) : P6 (w.setCell ⟨pg, 2, none⟩ u) pg a b u d e f := heap_set_same h u
theorem P6.set3 (h : P6 w pg a b c d e f) (u : Value) : P6 (w.setCell ⟨pg, 3, none⟩ u) pg a b c u e f := heap_set_same h u
theorem P6.set4 (h : P6 w pg a b c d e f) (u : Value) : P6 (w.setCell ⟨pg, 4, none⟩ u) pg a b c d u f := heap_set_same h u
theorem P6.set5 (h : P6 w pg a b c d e f) (u : Value) : P6 (w.setCell ⟨pg, 5, none⟩ u) pg a b c d e u := heap_set_same h u
theorem P6.fr {L : List Nat} (h : P6 w pg a b c d e f) (hf : Fr L w w') (hn : pg ∉ L) : P6 w' pg a b c d e f := hf.keeps h hn
theorem P6.below (h : P6 w pg a b c d e f) (hb : Below w.heap.size w w') : P6 w' pg a b c d e f := (hb.block pg (heap_lt h)).trans h
theorem P6.alloc (h : P6 w pg a b c d e f) (o : Obj) : P6 (w.alloc o) pg a b c d e f := (Below.heap_alloc w o pg (heap_lt h)).trans h
end

/-- The block of a list's array, if it has one. -/
def ob : Value → List Nat
  | .slice (some a) _ _ => [a.block]
  | _ => []
theorem ob_mem {v : Value} {b : Nat} : b ∈ ob v ↔ v.ownBlock = some b := by
  unfold ob Value.ownBlock
  split <;> simp [eq_comm]

/-- The list v holds just xs. -/
def Arr (w : World) (E : TypeId) (v : Value) (xs : List Value) : Prop := w.ownsRow 0 E 1 v xs.length xs
section
variable {w w' : World} {E : TypeId} {v : Value} {xs : List Value}
theorem Arr.nil (w : World) (E : TypeId) : Arr w E (.slice none 0 0) [] := ⟨rfl, .inl ⟨rfl, rfl⟩⟩
theorem Arr.form (h : Arr w E v xs) : ∃ A c, v = .slice A xs.length c := by
  rcases h.2 with ⟨hv, h0⟩ | ⟨g, cap, cur, hv, _⟩
  · exact ⟨none, 0, by rw [hv, h0]⟩
  · exact ⟨_, _, hv⟩
theorem Arr.at_ (h : Arr w E v xs) {i : Nat} (hi : i < xs.length) : ∃ g c, v = .slice (some ⟨g, 0, none⟩) xs.length c ∧ w.cell? ⟨g, i, none⟩ = some (xs[i]'hi) := by
  obtain ⟨g, c, hv, _, _⟩ := World.ownsRow.form h (by omega)
  refine ⟨g, c, hv, ?_⟩
  have hc := World.ownsRow.cells h (g := g) (by rw [hv]; rfl) i (xs[i]'hi) (List.getElem?_eq_getElem hi)
  rw [WideShapes.add_plain, Nat.zero_add] at hc
  exact hc
theorem Arr.lt (h : Arr w E v xs) {b : Nat} (hb : b ∈ ob v) : b < w.heap.size := (World.ownsRow.lt h b (ob_mem.1 hb)).2
theorem Arr.blk (h : Arr w E v xs) {b : Nat} (hb : b ∈ ob v) : ∃ cur, w.heap[b]? = some (.cells cur E (0, 0)) := by
  rcases h.2 with ⟨hv, _⟩ | ⟨g, cap, cur, hv, _, hh, _⟩
  · subst hv; cases hb
  · subst hv
    simp [ob] at hb
    subst hb
    exact ⟨cur, hh⟩
theorem Arr.kept (h : Arr w E v xs) (hk : ∀ b, b ∈ ob v → w'.heap[b]? = w.heap[b]?) : Arr w' E v xs := by
  refine ⟨h.1, ?_⟩
  rcases h.2 with hn | ⟨g, cap, cur, hv, hb, hh, rest⟩
  · exact .inl hn
  · exact .inr ⟨g, cap, cur, hv, hb, by rw [hk g (by rw [hv]; simp [ob])]; exact hh, rest⟩
theorem Arr.fr {L : List Nat} (h : Arr w E v xs) (hf : Fr L w w') (hn : ∀ b, b ∈ ob v → b ∉ L) : Arr w' E v xs := h.kept fun b hb => hf.block b (h.lt hb) (hn b hb)
theorem Arr.below (h : Arr w E v xs) (hb : Below w.heap.size w w') : Arr w' E v xs := h.kept fun b hx => hb.block b (h.lt hx)
theorem Arr.alloc (h : Arr w E v xs) (o : Obj) : Arr (w.alloc o) E v xs := h.kept fun b hx => Below.heap_alloc w o b (h.lt hx)
theorem Arr.ne (h : Arr w E v xs) {b : Nat} {cs : Array Value} {t : TypeId} (hb : w.heap[b]? = some (.cells cs t (0, 0))) (ht : t ≠ E) : b ∉ ob v := fun hx => by
  obtain ⟨cur, hc⟩ := h.blk hx
  exact heap_ne hc hb (Ne.symm ht) rfl
theorem Arr.ne' {E' : TypeId} {v' : Value} {xs' : List Value} (h : Arr w E v xs) (h' : Arr w E' v' xs') (ht : E' ≠ E) : ∀ b, b ∈ ob v' → b ∉ ob v := fun b hb => by
  obtain ⟨cur, hc⟩ := h'.blk hb
  exact h.ne hc ht
theorem Arr.far (h : Arr w E v xs) {p : Addr} (hp : p.block ∉ ob v) (u : Value) : Arr (w.setCell p u) E v xs := h.kept fun b hb => heap_set_far (fun e => hp (e ▸ hb)) u
end

theorem info43 : (Try.prog.info? 43).map (fun i => (i.zero, i.size, i.bytes)) = some (some (.slice none 0 0), 1, 24) := by kernel_rfl
theorem info3 : (Try.prog.info? 3).map (fun i => (i.zero, i.size, i.bytes)) = some (some (.int .i64 0), 1, 8) := by kernel_rfl

/-- Append at a plain list of operations: what is appended lies at ad; what the list was it is still, and one or more behind it. -/
theorem wpList_grow {w : World} {ops : Array Oper} {rest : List Oper} {o : Oper} {a : Act} {Q : Exit → Act → World → Prop} (hgd : o.guard = none) (s x : Operand) (t : TypeId)
    (ho : o.op = .call { callee := .builtin .append, args := #[s, x], argTypes := #[t, t] })
    (E : TypeId) (z : Value) (bytes : Nat) (ht : Try.prog.underlying t = some (.slice E)) (hinfo : (Try.prog.info? E).map (fun i => (i.zero, i.size, i.bytes)) = some (some z, 1, bytes)) (hzs : z.cells.size = 1) (hby : bytes ≤ 24)
    (v : Value) (xs : List Value) (hs : a.eval s = v) (hown : Arr w E v xs) (ad : Addr) (m c : Nat) (us : List Value) (hm : us.length = m) (hx : a.eval x = .slice (some ad) m c)
    (hnews : ∀ j u, us[j]? = some u → w.cell? (ad.add j) = some u) (h1 : ∀ u ∈ us, u.oneCell' = true) (hlen : xs.length + m ≤ 1000000) (N : Nat) (hN : xs.length + m = N)
    (h : ∀ A' c' w', Arr w' E (.slice A' N c') (xs ++ us) → Fr (ob v) w w' → (∀ b, b ∈ ob (.slice A' N c') → b ∈ ob v ∨ w.heap.size ≤ b) → wpList Try.prog ops Q rest (a.put o.dst (.slice A' N c')) w') : wpList Try.prog ops Q (o :: rest) a w := by
  obtain ⟨i, hi, hz0, hz1, hz2⟩ := info_parts hinfo
  refine wpList_append_own_at w hgd s x t ho 0 E i z 1 bytes ht hi hz0 hz1 hz2 hzs (by omega) v xs.length xs hs hown ad m c us hx (by omega) hnews h1 (by unfold maxLen; omega) ?_ (Nat.zero_le _) ?_
  · have : (xs.length + m) * bytes ≤ 1000000 * 24 := Nat.mul_le_mul hlen hby
    omega
  · intro v' w' hown' hgr _ hob
    have hA : Arr w' E v' (xs ++ us) := by
      unfold Arr
      rw [List.length_append, hm]
      exact hown'
    obtain ⟨A', c', rfl⟩ := hA.form
    rw [List.length_append, hm, hN] at hA hob ⊢
    refine h A' c' w' hA (Fr.of_grown hgr fun k hk => ob_mem.2 hk) fun b hb => ?_
    rw [ob_mem] at hb ⊢
    rcases hob with e | e
    · exact .inl (e ▸ hb)
    · rw [e] at hb
      injection hb with hb
      exact .inr (by omega)

/-- All pages bear the mark m. -/
def mkd (m : Int) : Nat → Pg := fun _ => ⟨-m, 0, 0⟩
theorem flat_succ (f : Nat → Pg) (n : Nat) : flat f (n + 1) = flat f n ++ [.int .i64 (f n).k, .int .i64 (f n).c, .int .i64 (f n).r] := rfl

/-- Append of a marked page to a marked list: it lies where it lay, or anew. -/
theorem wpList_far {w : World} {ops : Array Oper} {rest : List Oper} {o : Oper} {a : Act} {Q : Exit → Act → World → Prop} (hgd : o.guard = none) (s x : Operand)
    (ho : o.op = .call { callee := .builtin .append, args := #[s, x], argTypes := #[43, 43] })
    (b n cap : Nat) (m : Int) (hs : a.eval s = .slice (some ⟨b, 0, none⟩) n cap) (hP : PgAt w b n cap (mkd m)) (ad : Addr) (c : Nat) (hx : a.eval x = .slice (some ad) 1 c)
    (hnews : ∀ j u, [Value.int .i64 (-m), .int .i64 0, .int .i64 0][j]? = some u → w.cell? (ad.add j) = some u) (hn : n ≤ 100000)
    (h : ∀ b' cap' w', PgAt w' b' (n + 1) cap' (mkd m) → (b' = b ∧ cap' = cap ∧ Fr [b] w w' ∨ w.heap.size ≤ b' ∧ Fr [] w w') → wpList Try.prog ops Q rest (a.put o.dst (.slice (some ⟨b', 0, none⟩) (n + 1) cap')) w') : wpList Try.prog ops Q (o :: rest) a w := by
  obtain ⟨i, hi, hz0, hz1, hz2⟩ := info_parts info47
  have hown := hP.own
  have hone : ∀ u ∈ [Value.int .i64 (-m), .int .i64 0, .int .i64 0], u.oneCell' = true := by
    intro u hu
    simp at hu
    rcases hu with rfl | rfl <;> rfl
  by_cases hfit : n + 1 ≤ cap
  · refine wpList_append_fits w hgd s x 43 ho 0 47 i 3 Try.underlying43 hi hz1 b n cap (flat (mkd m) n) hs hown ad 1 c _ hx rfl hnews hone hfit ?_
    intro w' hown' hgr
    refine h b cap w' (PgAt.of_own (base := 0) ?_) (.inl ⟨rfl, rfl, Fr.of_grown hgr (by simp)⟩)
    rw [flat_succ]
    exact hown'
  · refine wpList_append_grows w hgd s x 43 ho 47 i _ 3 24 Try.underlying43 hi hz0 hz1 hz2 rfl (by omega) (some ⟨b, 0, none⟩) n cap (flat (mkd m) n) hs (by simp) (flat_length _ _) (fun b' hb' j u hu => by injection hb' with hb'; subst hb'; exact hP.news j u hu) ad 1 c _ hx rfl hnews hone (by omega) (by unfold maxLen; omega) (by omega) ?_
    intro v' w' hown' hgr
    obtain ⟨g, cap', rfl, hge, _⟩ := World.ownsRow.form hown' (by omega)
    refine h g cap' w' (PgAt.of_own (base := w.heap.size) ?_) (.inr ⟨hge, Fr.of_grown hgr (by simp)⟩)
    rw [flat_succ]
    exact hown'
end Go.Proofs.Ytcdeimmjhfimjaa
