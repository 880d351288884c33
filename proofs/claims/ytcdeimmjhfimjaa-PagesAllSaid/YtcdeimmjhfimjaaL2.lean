/- looked for all three kinds, as plays wants it. No condition. -/
import Derived.Test.YtcdeimmjhfimjaaLj
import Derived.Test.YtcdeimmjhfimjaaLc
import Derived.Test.YtcdeimmjhfimjaaPs
namespace Go.Proofs.Ytcdeimmjhfimjaa
open Go.RowKit Go.Proofs.Ytcdeimmjhfimjaa.Pp

theorem lookAll : LookC 10 12 := fun w ow pg a k c h1 h2 hP => by
  by_cases e : k = 10
  · subst e; exact looked_10 hP a c
  · by_cases e2 : k = 11
    · subst e2; exact looked_11 hP a c
    · obtain rfl : k = 12 := by omega
      exact looked_12 hP a c
end Go.Proofs.Ytcdeimmjhfimjaa
