/- PagesLowest returns true for every number, script, class and length, and changes nothing that was there; no condition. -/
import Derived.Test.YtcdeimmjhfimjaaRl
import Derived.Test.YtcdeimmjhfimjaaLo
namespace Go.Proofs.Ytcdeimmjhfimjaa.pagesLowest
open Go.ChangeShapes Go.WideShapes Go.ChangeAt Go.RowKit
set_option linter.unusedVariables false

theorem walk (a0 : Int) (w0 : (Lit.int .i64 a0).wf = true) (A1 : Option Addr) (n1 c1 : Nat) (a2 : Int) (w2 : (Lit.int .i64 a2).wf = true) (a3 : Int) (w3 : (Lit.int .i64 a3).wf = true) (w : World) (hc1 : n1 ≤ c1) (hm1 : c1 ≤ maxLen) (hr1 : IntRows w A1 n1 3) :
    Calls Try.prog 5 #[.int .i64 a0, .slice A1 n1 c1, .int .i64 a2, .int .i64 a3] w fun e w' => e = .returned (.bool true) ∧ Below w.heap.size w w' := by
  have b0 := bounds_i64 w0
  have b2 := bounds_i64 w2
  have b3 := bounds_i64 w3
  have hw := within_bd a0 (n := 60) (by omega)
  have hl := within_bd a3 (n := 16) (by omega)
  have hN : 1 + withinV a0 60 = (((1 + withinV a0 60).toNat : Nat) : Int) := by omega
  by_cases h : a3.tmod 2 = 0
  · exact lowest_walk a0 A1 n1 c1 a2 a3 b0.1 b0.2 b2.1 b2.2 b3.1 b3.2 w hc1 hm1 hr1 _ hN 1 (by omega) (by omega) (.inl ⟨h, rfl⟩)
  · exact lowest_walk a0 A1 n1 c1 a2 a3 b0.1 b0.2 b2.1 b2.2 b3.1 b3.2 w hc1 hm1 hr1 _ hN (1 + withinV a3 16).toNat (by omega) (by omega) (.inr ⟨h, by omega⟩)

theorem cells28 : Try.prog.cellsOf 28 = 3 := by kernel_rfl
/-- The script reads behind the call as it read ahead of it. -/
theorem reads40 {H : Type} {enc : TypeId × Value → H} {W W' : World} {v : Value} {d : DataW H} {ps : List MemPlace} {sp : Nat → Bool} (h : DataW.Trod enc Try.prog W 0 (fun _ => true) true 40 v d ps)
    (hb : Below W.heap.size W W') (hlt : ∀ x ∈ ps, x.block < W.heap.size) (hsp : ∀ x ∈ ps, sp x.block = true) : DataW.Trod enc Try.prog W' 0 sp true 40 v d ps :=
  WideElems.Trod_stays (by kernel_rfl) (by kernel_rfl) (of_decide_eq_true (by kernel_rfl)) h (fun x hx => hb.same (hlt x hx)) hsp

set_option maxRecDepth 100000 in
theorem lifted (os : Os) (started : os.Started) (H : Type) (enc : TypeId × Value → H) :
    ReturnsInHanded {} Try.checked os 5 .any (Rows.pagesLowestSpec.pre6 enc Try.prog Try.f5 Rows.pagesLowestRow.domain false) (Rows.pagesLowestSpec.post enc Try.prog Try.f5 false true false false) := by
  refine returnsInHanded_of_change (C := Try.checked) own started (by kernel_rfl) Try.func5
    (ChangeSpec.witness6 (enc := enc) (C := Try.checked) false ⟨#[], #[.int .i64 0, .slice none 0 0, .int .i64 0, .int .i64 0], []⟩ 8 (by kernel_rfl) (by kernel_rfl) (by kernel_rfl) (by kernel_rfl)) ?_
  intro W base args ds gs before hval0 hW hcnd _
  have hval : ∀ (j : Nat) t v, Try.f5.params[j]? = some t → args[j]? = some v → Value.okWide Try.prog W .any base t v := hval0
  have hW' := hW
  have hlt := fun p hp => hW.lt p hp
  obtain ⟨p, q, hA0, hV, rfl, hfz, hnd⟩ := hW
  have hA : DataW.TrodAll enc Try.prog W 0 (fun _ => true) true Try.f5.params.toList args.toList ds p := hA0
  rw [Try.params5] at hA hval
  obtain ⟨v0, vs0, d0, ds0, p0, q0, hargs, rfl, rfl, h0, r0⟩ := trodAll_cons hA
  obtain ⟨v1, vs1, d1, ds1, p1, q1, rfl, rfl, rfl, h1, r1⟩ := trodAll_cons r0
  obtain ⟨v2, vs2, d2, ds2, p2, q2, rfl, rfl, rfl, h2, r2⟩ := trodAll_cons r1
  obtain ⟨v3, vs3, d3, ds3, p3, q3, rfl, rfl, rfl, h3, r3⟩ := trodAll_cons r2
  obtain ⟨rfl, rfl, rfl⟩ := trodAll_nil r3
  obtain rfl : args = #[v0, v1, v2, v3] := by cases args; simp_all
  obtain ⟨rfl, rfl⟩ := trodVars_none hV
  obtain ⟨a0, rfl, rfl, rfl, w0⟩ := open_int Try.underlying3 (hval 0 3 v0 rfl rfl) h0
  obtain ⟨A1, n1, c1, rfl⟩ := okWide_slice Try.underlying40 (hval 1 40 v1 rfl rfl)
  have h1' := h1
  obtain ⟨fuel1, hf1⟩ := h1
  obtain ⟨g1a, g1b, g1c⟩ := open_rows Try.underlying40 Try.underlying28 (by kernel_rfl) cells28 (by decide) (by kernel_rfl) Try.underlying3 hf1
  obtain ⟨a2, rfl, rfl, rfl, w2⟩ := open_int Try.underlying3 (hval 2 3 v2 rfl rfl) h2
  obtain ⟨a3, rfl, rfl, rfl, w3⟩ := open_int Try.underlying3 (hval 3 3 v3 rfl rfl) h3
  clear hA0 hval0
  simp only [List.append_nil, List.nil_append] at hW' hlt
  refine (walk a0 w0 A1 n1 c1 a2 w2 a3 w3 W g1a g1b g1c).mono fun e W' ⟨he, hg⟩ => ?_
  subst he
  exact ⟨_, rfl, post_yes hW' rfl rfl rfl rfl (fun sp hsp => by
    have hh := (trodAll_cons_mk (shut_int Try.underlying3 w0) (trodAll_cons_mk (reads40 h1' hg hlt hsp) (trodAll_cons_mk (shut_int Try.underlying3 w2) (trodAll_cons_mk (shut_int Try.underlying3 w3) trodAll_mk0))))
    simp only [List.append_nil, List.nil_append] at hh
    exact hh) hg⟩

theorem over : Rows.pagesLowestRow.holds Try.pinned (OpenSpec.ofChange Rows.pagesLowestSpec) :=
  OpenClaim.holds_of_wide 5 Try.f5 rfl rfl rfl rfl rfl rfl rfl ⟨rfl, rfl, rfl, rfl, rfl⟩ rfl rfl rfl rfl rfl (by kernel_rfl) Try.func5 (by kernel_rfl)
    (of_decide_eq_true (by kernel_rfl)) (by unfold Func.isWrapper; first | (rw [if_pos (by decide +kernel)]; kernel_rfl) | (rw [if_neg (by decide +kernel)]; exact ⟨rfl, rfl⟩))
    (fun os started H enc _ => lifted os started H enc)

theorem proved : Rows.PagesLowestSaid :=
  over
#print axioms proved
end Go.Proofs.Ytcdeimmjhfimjaa.pagesLowest
