/- PagesNews, walked. No condition. -/
import Derived.Test.YtcdeimmjhfimjaaLc
import Derived.Test.YtcdeimmjhfimjaaAw
import Derived.Test.YtcdeimmjhfimjaaPy
namespace Go.Proofs.Ytcdeimmjhfimjaa
open Go.RowKit Go.Proofs.Ytcdeimmjhfimjaa.Pp
set_option linter.unusedVariables false

set_option maxRecDepth 100000 in
set_option maxHeartbeats 800000 in
theorem news_walk (n : Int) (w : World) : Calls Try.prog 3 #[.int .i64 n] w fun e w' => e = .returned (.bool true) ∧ Below w.heap.size w w' := by
  go_enter Try.func3, Try.ntmps3
  go_wp2_with fail
  refine (made_tot n _).mono ?_
  rintro e w1 (⟨rfl, rfl⟩ | ⟨p, rfl, hp, hB1, hp1⟩)
  · go_wp2_with fail
    refine (alive_any _).mono ?_
    rintro e w3 ⟨rfl, hB⟩
    have HB := Lib.hid hB
    clear hB
    go_wp2_with fail
    go_ret
    exact ⟨rfl, HB.out⟩
  · have HB1 := Lib.hid hB1
    have HP1 := Lib.hid (hp1 id)
    have HLo := Lib.hid hp
    clear hp hB1 hp1
    go_wp2_with fail
    refine (alive_any _).mono ?_
    rintro e w3 ⟨rfl, hB⟩
    have HP3 := Lib.hid (HP1.out.below hB)
    have HB3 := Lib.hid (bthen HB1.out hB)
    have HO3 := Lib.hid (show ∀ b, b < w.heap.size → owx id w.heap.size p b ≠ p from fun b hb => by rw [owx_old hb]; show b ≠ p; have := HLo.out; omega)
    clear hB
    have HC := Lib.hid (looked_11 HP3.out 0 0)
    go_wp2_with fail
    refine HC.out.mono ?_
    rintro e w4 ⟨rfl, hS⟩
    have HP4 := Lib.hid hS.1
    have HB4 := Lib.hid (HB3.out.trans (hS.2.below HB3.out.size HO3.out))
    have HO4 := Lib.hid (show ∀ b, b < w.heap.size → owx (owx id w.heap.size p) w3.heap.size p b ≠ p from fun b hb => by
      rw [owx_old (Nat.lt_of_lt_of_le hb HB3.out.size)]; exact HO3.out b hb)
    clear hS
    have HC2 := Lib.hid (looked_12 HP4.out 0 0)
    go_wp2_with fail
    refine HC2.out.mono ?_
    rintro e w5 ⟨rfl, hS⟩
    have HP5 := Lib.hid hS.1
    have HB5 := Lib.hid (HB4.out.trans (hS.2.below HB4.out.size HO4.out))
    have HO5 := Lib.hid (show ∀ b, b < w.heap.size → owx (owx (owx id w.heap.size p) w3.heap.size p) w4.heap.size p b ≠ p from fun b hb => by
      rw [owx_old (Nat.lt_of_lt_of_le hb HB4.out.size)]; exact HO4.out b hb)
    clear hS
    have HC3 := Lib.hid (apart_any HP5.out)
    go_wp2_with fail
    refine HC3.out.mono ?_
    rintro e w6 ⟨rfl, hS⟩
    have HB6 := Lib.hid (HB5.out.trans (hS.2.below HB5.out.size HO5.out))
    clear hS
    go_wp2_with fail
    go_ret
    exact ⟨rfl, HB6.out⟩
end Go.Proofs.Ytcdeimmjhfimjaa
