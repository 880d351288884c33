/- looked for the kind 11, as plays wants it. No condition. -/
import Derived.Test.YtcdeimmjhfimjaaLk
import Derived.Test.YtcdeimmjhfimjaaPs
namespace Go.Proofs.Ytcdeimmjhfimjaa
open Go.RowKit Go.Proofs.Ytcdeimmjhfimjaa.Pp

theorem look11 : LookC 11 11 := fun w ow pg a k c h1 h2 hP => by
  obtain rfl : k = 11 := by omega
  exact looked_11 hP a c
end Go.Proofs.Ytcdeimmjhfimjaa
