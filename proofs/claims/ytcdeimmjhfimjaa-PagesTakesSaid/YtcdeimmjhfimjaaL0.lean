/- looked for the kind 10, as plays wants it. No condition. -/
import Derived.Test.YtcdeimmjhfimjaaLj
import Derived.Test.YtcdeimmjhfimjaaPs
namespace Go.Proofs.Ytcdeimmjhfimjaa
open Go.RowKit Go.Proofs.Ytcdeimmjhfimjaa.Pp

theorem look10 : LookC 10 10 := fun w ow pg a k c h1 h2 hP => by
  obtain rfl : k = 10 := by omega
  exact looked_10 hP a c
end Go.Proofs.Ytcdeimmjhfimjaa
