/- Appends as steps of a region that draws; what looked leaves of a pair. No condition. -/
import Derived.Test.YtcdeimmjhfimjaaLk
import Derived.Deep.AppendLies
namespace Go.Proofs.Ytcdeimmjhfimjaa
open Go.RowKit Go.Proofs.Ytcdeimmjhfimjaa.Pp
set_option linter.unusedVariables false

theorem step_grow {w : World} {ops : Array Oper} {o : Oper} {a : Act} {K : Act → World → Prop} {Q : Exit → Act → World → Prop} {F : Prop} (hgd : o.guard = none) (s x : Operand) (t : TypeId)
    (ho : o.op = .call { callee := .builtin .append, args := #[s, x], argTypes := #[t, t] })
    (E : TypeId) (z : Value) (bytes : Nat) (ht : Try.prog.underlying t = some (.slice E)) (hinfo : (Try.prog.info? E).map (fun i => (i.zero, i.size, i.bytes)) = some (some z, 1, bytes)) (hzs : z.cells.size = 1) (hby : bytes ≤ 24)
    (v : Value) (xs : List Value) (hs : a.eval s = v) (hown : Arr w E v xs) (ad : Addr) (m c : Nat) (us : List Value) (hm : us.length = m) (h0 : 0 < m) (hx : a.eval x = .slice (some ad) m c)
    (hnews : ∀ j u, us[j]? = some u → w.cell? (ad.add j) = some u) (h1 : ∀ u ∈ us, u.oneCell' = true) (hlen : xs.length + m ≤ 1000000) (N : Nat) (hN : xs.length + m = N)
    (h : ∀ g c' w', Arr w' E (.slice (some ⟨g, 0, none⟩) N c') (xs ++ us) → Fr (ob v) w w' → (g ∈ ob v ∨ w.heap.size ≤ g) → K (a.put o.dst (.slice (some ⟨g, 0, none⟩) N c')) w') :
    if Region.wanted o (yielded ops a.tmps) = true then Oper.wp Try.prog o a w K Q else F := by
  obtain ⟨i, hi, hz0, hz1, hz2⟩ := info_parts hinfo
  refine step_append_lies w hgd s x t ho 0 E i z 1 bytes ht hi hz0 hz1 hz2 hzs (by omega) v xs.length xs hs hown ad m c us hx (by omega) hnews h1 h0 (by unfold maxLen; omega) ?_ (Nat.zero_le _) w.heap.size rfl ?_
  · have : (xs.length + m) * bytes ≤ 1000000 * 24 := Nat.mul_le_mul hlen hby
    omega
  · intro g cap w' hown' hgr hg _
    subst hN
    refine h g cap w' ?_ (Fr.of_grown hgr fun k hk => ob_mem.2 hk) ?_
    · unfold Arr
      rw [List.length_append, hm]
      exact hown'
    · rcases hg with hg | hg
      · exact .inl (ob_mem.2 hg)
      · exact .inr (by omega)

/-- Append of a row of pages to nothing: a row anew. -/
theorem step_clone {w : World} {ops : Array Oper} {o : Oper} {a : Act} {K : Act → World → Prop} {Q : Exit → Act → World → Prop} {F : Prop} (hgd : o.guard = none) (x : Operand)
    (ho : o.op = .call { callee := .builtin .append, args := #[.const (.slice none 0 0), x], argTypes := #[43, 43] })
    (b n cap : Nat) (f : Nat → Pg) (hx : a.eval x = .slice (some ⟨b, 0, none⟩) n cap) (hP : PgAt w b n cap f) (h0 : 0 < n) (hn : n ≤ 100000)
    (h : ∀ g c' w', PgAt w' g n c' f → g = w.heap.size → Below w.heap.size w w' → K (a.put o.dst (.slice (some ⟨g, 0, none⟩) n c')) w') :
    if Region.wanted o (yielded ops a.tmps) = true then Oper.wp Try.prog o a w K Q else F := by
  obtain ⟨i, hi, hz0, hz1, hz2⟩ := info_parts info47
  refine step_append_lies w hgd (.const (.slice none 0 0)) x 43 ho 0 47 i _ 3 24 Try.underlying43 hi hz0 hz1 hz2 rfl (by omega) (.slice none 0 0) 0 [] rfl ⟨rfl, .inl ⟨rfl, rfl⟩⟩ ⟨b, 0, none⟩ n cap (flat f n) hx (flat_length _ _) hP.news (flat_one f n) h0 (by unfold maxLen; omega) (by omega) (Nat.zero_le _) w.heap.size rfl ?_
  intro g c' w' hown' hgr hg _
  have e : g = w.heap.size := by
    rcases hg with hg | hg
    · cases hg
    · exact hg
  rw [Nat.zero_add] at hown' ⊢
  rw [List.nil_append] at hown'
  exact h g c' w' (PgAt.of_own hown') e (Fr.of_grown (L := []) hgr (by intro k hk; cases hk)).none
end Go.Proofs.Ytcdeimmjhfimjaa
