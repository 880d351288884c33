/- alive answers true; busy plays a script on a table. No condition. -/
import Derived.Test.YtcdeimmjhfimjaaWh
namespace Go.Proofs.Ytcdeimmjhfimjaa
open Go.RowKit Go.Proofs.Ytcdeimmjhfimjaa.Pp
set_option linter.unusedVariables false

theorem Fr.onto {L : List Nat} {w w1 w2 : World} (k : Fr L w1 w2) (h : Below w.heap.size w w1) (hL : ∀ x, x ∈ L → w.heap.size ≤ x) : Below w.heap.size w w2 := h.trans (k.below h.size hL)
theorem two_ge {a b B : Nat} (ha : B ≤ a) (hb : B ≤ b) : ∀ x, x ∈ [a, b] → B ≤ x := by
  intro x hx
  simp at hx
  rcases hx with rfl | rfl <;> assumption

theorem alive_any (w : World) : Calls Try.prog 11 #[] w fun e w' => e = .returned (.bool true) ∧ Below w.heap.size w w' := by
  have f1 : firstRun 3 (fun _ => fr0) 1 = some 0 := rfl
  have f2 : firstRun 3 (upd (fun _ => fr0) 0 ⟨1, 2, 0⟩) 2 = some 1 := rfl
  have t1 := takeC_some (c := 2) f1
  have t2 := takeR_some f2
  have F1 := Lib.hid f1
  have F2 := Lib.hid f2
  have T1 := Lib.hid t1
  have T2 := Lib.hid t2
  clear f1 f2 t1 t2
  go_enter Try.func11, Try.ntmps11
  go_wp2_with fail
  refine (new_any 3 (by omega) (by omega) _).mono ?_
  rintro e w1 ⟨tg, g, rfl, hT, ht, hg, hB⟩
  have HT := Lib.hid hT
  have HB := Lib.hid hB
  clear hT hB
  go_wp2_with fail
  refine (takeClass_any (c := 2) HT.out (by omega) (by omega)).mono ?_
  rintro e w2 ⟨rfl, hT, hF⟩
  rw [takeV_some F1.out, takeE_some F1.out]
  rw [T1.out] at hT
  have HT2 := Lib.hid hT
  have HB2 := Lib.hid (hF.onto HB.out (two_ge ht hg))
  clear hT hF
  go_wp2_with fail
  refine (takeRun_any (k := 2) HT2.out (by omega) (by omega)).mono ?_
  rintro e w3 ⟨rfl, hT, hF⟩
  rw [takeV_some F2.out, takeE_some F2.out]
  rw [T2.out] at hT
  obtain ⟨l, hT⟩ := hT
  have HC := Lib.hid (state_in hT 1 (by omega))
  have HB3 := Lib.hid (hF.onto HB2.out (two_ge ht hg))
  clear hT hF
  go_wp2_with fail
  refine HC.out.mono ?_
  rintro e w4 ⟨rfl, hB4⟩
  have e1 : putRun (upd (fun _ => fr0) 0 ⟨1, 2, 0⟩) 1 2 1 = ⟨2, 0, 2⟩ := putRun_head _ _ _
  rw [e1]
  have HB4 := Lib.hid (bthen HB3.out hB4)
  clear hB4 e1
  go_wp2_with fail
  go_ret
  exact ⟨rfl, HB4.out.alloc HB4.out.size _⟩
end Go.Proofs.Ytcdeimmjhfimjaa
