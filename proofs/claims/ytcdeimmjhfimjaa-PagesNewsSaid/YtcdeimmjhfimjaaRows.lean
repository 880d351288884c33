/-
  No cell of these rows narrows 'for every input' (looked for: loops, veiled, ifaces, maps, wideKeys, modest, calm, conditions, laid).
  DERIVED. THE GIVEN ROWS OF THIS SEAT. 7 by the template 'for every input the law returns true; each argument reads behind the call as it read before'; 0 by the template 'total and deterministic' (their statements: YtcdeimmjhfimjaaTotals.lean).
  GIVEN WITH THE SEED: the statements are not yours to turn. If you find one false, say at which input.
  Laid BY PROGRAM, IN A SANDBOX (cutbox-rows.mjs): the forced cells as the released guide's own fill.sh prints them over the translation 600ed2f85d04ccf6… (all of the seat's roots in one cut). By AI agents, Wed Nov 11 2026. No macro, syntax, notation, axiom, sorry.
-/
import Derived.Test.YtcdeimmjhfimjaaChecked
import GoSem.Claim
import GoSem.ClaimJoined
import GoSem.ClaimMapViews
import Derived.JoinedTies
import Derived.KernelRfl
namespace Go.Proofs.Ytcdeimmjhfimjaa
/- THE CELL 'sum', in the pinned program and in every row, IS THE sha256 OF THE DUMP (.gsa) THAT YtcdeimmjhfimjaaProg.lean LOADS. Nothing in Lean hashes anything: it is a label: what it is worth is what the hold of that sum in a sandbox is worth. -/
noncomputable def Try.pinned : Pinned := { name := "ytcdeimmjhfimjaa", sum := "600ed2f85d04ccf68796be5cd1e3335fffab3e4cd1c1c8a205fd21ef4056e681", checked := Try.checked }
namespace Rows
def none {H : Type} : Left H := { results := [], args := [] }

/-- 'hearthlaw7.PagesNews': WHATEVER THE INPUT: true; the input reads as it did. -/
def pagesNewsSpec : ChangeSpec := { name := "pagesNews", fn := fun _ => fun
  | [d] => { results := [.lit (.bool true)], args := [d] }
  | _ => none }
def pagesNewsRow : OpenClaim := { program := "ytcdeimmjhfimjaa", sum := "600ed2f85d04ccf68796be5cd1e3335fffab3e4cd1c1c8a205fd21ef4056e681", func := "hearth/hearthlaw7.PagesNews", spec := "pagesNews", apart := false }
def PagesNewsSaid : Prop := pagesNewsRow.holds Try.pinned (OpenSpec.ofChange pagesNewsSpec)

/-- ITS FALSE NEIGHBOUR: 'it returns false'. Refute it at one input. -/
def pagesNewsWrong : ChangeSpec := { name := "pagesNews", fn := fun _ => fun
  | [d] => { results := [.lit (.bool false)], args := [d] }
  | _ => none }
def PagesNewsWrongFalsely : Prop := pagesNewsRow.holds Try.pinned (OpenSpec.ofChange pagesNewsWrong)

/-- 'hearthlaw7.PagesFills': WHATEVER THE INPUT: true; the input reads as it did. -/
def pagesFillsSpec : ChangeSpec := { name := "pagesFills", fn := fun _ => fun
  | [d1, d2] => { results := [.lit (.bool true)], args := [d1, d2] }
  | _ => none }
def pagesFillsRow : OpenClaim := { program := "ytcdeimmjhfimjaa", sum := "600ed2f85d04ccf68796be5cd1e3335fffab3e4cd1c1c8a205fd21ef4056e681", func := "hearth/hearthlaw7.PagesFills", spec := "pagesFills", apart := false }
def PagesFillsSaid : Prop := pagesFillsRow.holds Try.pinned (OpenSpec.ofChange pagesFillsSpec)

/-- ITS FALSE NEIGHBOUR: 'it returns false'. Refute it at one input. -/
def pagesFillsWrong : ChangeSpec := { name := "pagesFills", fn := fun _ => fun
  | [d1, d2] => { results := [.lit (.bool false)], args := [d1, d2] }
  | _ => none }
def PagesFillsWrongFalsely : Prop := pagesFillsRow.holds Try.pinned (OpenSpec.ofChange pagesFillsWrong)

/-- 'hearthlaw7.PagesLowest': WHATEVER THE INPUT: true; the input reads as it did. -/
def pagesLowestSpec : ChangeSpec := { name := "pagesLowest", fn := fun _ => fun
  | [d1, d2, d3, d4] => { results := [.lit (.bool true)], args := [d1, d2, d3, d4] }
  | _ => none }
def pagesLowestRow : OpenClaim := { program := "ytcdeimmjhfimjaa", sum := "600ed2f85d04ccf68796be5cd1e3335fffab3e4cd1c1c8a205fd21ef4056e681", func := "hearth/hearthlaw7.PagesLowest", spec := "pagesLowest", apart := false }
def PagesLowestSaid : Prop := pagesLowestRow.holds Try.pinned (OpenSpec.ofChange pagesLowestSpec)

/-- ITS FALSE NEIGHBOUR: 'it returns false'. Refute it at one input. -/
def pagesLowestWrong : ChangeSpec := { name := "pagesLowest", fn := fun _ => fun
  | [d1, d2, d3, d4] => { results := [.lit (.bool false)], args := [d1, d2, d3, d4] }
  | _ => none }
def PagesLowestWrongFalsely : Prop := pagesLowestRow.holds Try.pinned (OpenSpec.ofChange pagesLowestWrong)

/-- 'hearthlaw7.PagesGiven': WHATEVER THE INPUT: true; the input reads as it did. -/
def pagesGivenSpec : ChangeSpec := { name := "pagesGiven", fn := fun _ => fun
  | [d1, d2, d3] => { results := [.lit (.bool true)], args := [d1, d2, d3] }
  | _ => none }
def pagesGivenRow : OpenClaim := { program := "ytcdeimmjhfimjaa", sum := "600ed2f85d04ccf68796be5cd1e3335fffab3e4cd1c1c8a205fd21ef4056e681", func := "hearth/hearthlaw7.PagesGiven", spec := "pagesGiven", apart := false }
def PagesGivenSaid : Prop := pagesGivenRow.holds Try.pinned (OpenSpec.ofChange pagesGivenSpec)

/-- ITS FALSE NEIGHBOUR: 'it returns false'. Refute it at one input. -/
def pagesGivenWrong : ChangeSpec := { name := "pagesGiven", fn := fun _ => fun
  | [d1, d2, d3] => { results := [.lit (.bool false)], args := [d1, d2, d3] }
  | _ => none }
def PagesGivenWrongFalsely : Prop := pagesGivenRow.holds Try.pinned (OpenSpec.ofChange pagesGivenWrong)

/-- 'hearthlaw7.PagesTakes': WHATEVER THE INPUT: true; the input reads as it did. -/
def pagesTakesSpec : ChangeSpec := { name := "pagesTakes", fn := fun _ => fun
  | [d1, d2, d3] => { results := [.lit (.bool true)], args := [d1, d2, d3] }
  | _ => none }
def pagesTakesRow : OpenClaim := { program := "ytcdeimmjhfimjaa", sum := "600ed2f85d04ccf68796be5cd1e3335fffab3e4cd1c1c8a205fd21ef4056e681", func := "hearth/hearthlaw7.PagesTakes", spec := "pagesTakes", apart := false }
def PagesTakesSaid : Prop := pagesTakesRow.holds Try.pinned (OpenSpec.ofChange pagesTakesSpec)

/-- ITS FALSE NEIGHBOUR: 'it returns false'. Refute it at one input. -/
def pagesTakesWrong : ChangeSpec := { name := "pagesTakes", fn := fun _ => fun
  | [d1, d2, d3] => { results := [.lit (.bool false)], args := [d1, d2, d3] }
  | _ => none }
def PagesTakesWrongFalsely : Prop := pagesTakesRow.holds Try.pinned (OpenSpec.ofChange pagesTakesWrong)

/-- 'hearthlaw7.PagesCounts': WHATEVER THE INPUT: true; the input reads as it did. -/
def pagesCountsSpec : ChangeSpec := { name := "pagesCounts", fn := fun _ => fun
  | [d1, d2, d3] => { results := [.lit (.bool true)], args := [d1, d2, d3] }
  | _ => none }
def pagesCountsRow : OpenClaim := { program := "ytcdeimmjhfimjaa", sum := "600ed2f85d04ccf68796be5cd1e3335fffab3e4cd1c1c8a205fd21ef4056e681", func := "hearth/hearthlaw7.PagesCounts", spec := "pagesCounts", apart := false }
def PagesCountsSaid : Prop := pagesCountsRow.holds Try.pinned (OpenSpec.ofChange pagesCountsSpec)

/-- ITS FALSE NEIGHBOUR: 'it returns false'. Refute it at one input. -/
def pagesCountsWrong : ChangeSpec := { name := "pagesCounts", fn := fun _ => fun
  | [d1, d2, d3] => { results := [.lit (.bool false)], args := [d1, d2, d3] }
  | _ => none }
def PagesCountsWrongFalsely : Prop := pagesCountsRow.holds Try.pinned (OpenSpec.ofChange pagesCountsWrong)

/-- 'hearthlaw7.PagesAll': WHATEVER THE INPUT: true; the input reads as it did. -/
def pagesAllSpec : ChangeSpec := { name := "pagesAll", fn := fun _ => fun
  | [d1, d2, d3] => { results := [.lit (.bool true)], args := [d1, d2, d3] }
  | _ => none }
def pagesAllRow : OpenClaim := { program := "ytcdeimmjhfimjaa", sum := "600ed2f85d04ccf68796be5cd1e3335fffab3e4cd1c1c8a205fd21ef4056e681", func := "hearth/hearthlaw7.PagesAll", spec := "pagesAll", apart := false }
def PagesAllSaid : Prop := pagesAllRow.holds Try.pinned (OpenSpec.ofChange pagesAllSpec)

/-- ITS FALSE NEIGHBOUR: 'it returns false'. Refute it at one input. -/
def pagesAllWrong : ChangeSpec := { name := "pagesAll", fn := fun _ => fun
  | [d1, d2, d3] => { results := [.lit (.bool false)], args := [d1, d2, d3] }
  | _ => none }
def PagesAllWrongFalsely : Prop := pagesAllRow.holds Try.pinned (OpenSpec.ofChange pagesAllWrong)

/- THE SECOND FORM. 'bulk': how many values and letters a reading holds, each counted each time it is reached (what is shared counts as often as it is met; a slice's spare places count too). A statement '..UptoSaid' is the law's where the arguments, and the package variables that the reading takes, are together of bulk at most 1048576: NARROWER than '..Said'. Prove '..Said' where nothing that the law and all that it calls make is longer than what came in: it says more and counts as full. Else prove '..UptoSaid'. A law counts once. -/
mutual
def uptoBulk {H : Type} : DataW H → Nat
  | .lit (.string bytes) => bytes.length + 1
  | .lit _ => 1
  | .nil => 1
  | .ptr d => uptoBulk d + 1
  | .slice elems spare => uptoBulkAll elems + uptoBulkAll spare + 1
  | .agg parts => uptoBulkAll parts + 1
  | .iface _ d => uptoBulk d + 1
  | .map entries => uptoBulkEntries entries + 1
  | .held _ => 1
def uptoBulkAll {H : Type} : List (DataW H) → Nat
  | [] => 0
  | d :: r => uptoBulk d + uptoBulkAll r
def uptoBulkEntries {H : Type} : List (Lit × DataW H) → Nat
  | [] => 0
  | x :: r => uptoBulkEntry x + uptoBulkEntries r
def uptoBulkEntry {H : Type} : Lit × DataW H → Nat
  | (.string bytes, d) => bytes.length + uptoBulk d + 1
  | (_, d) => uptoBulk d + 1
 end
def uptoSmall : (H : Type) → List (DataW H) → Bool := fun _ ds => decide (uptoBulkAll ds ≤ 1048576)
def OpenSpec.upto (s : _root_.Go.ChangeSpec) : _root_.Go.OpenSpec := { _root_.Go.OpenSpec.ofChange s with cond := some uptoSmall }

/-- 'hearthlaw7.PagesNews', WHERE WHAT IT READS IS OF BULK AT MOST 1048576: true; the input reads as it did. -/
def pagesNewsUptoRow : OpenClaim := { program := "ytcdeimmjhfimjaa", sum := "600ed2f85d04ccf68796be5cd1e3335fffab3e4cd1c1c8a205fd21ef4056e681", func := "hearth/hearthlaw7.PagesNews", spec := "pagesNews", apart := false, narrowed := true }
def PagesNewsUptoSaid : Prop := pagesNewsUptoRow.holds Try.pinned (OpenSpec.upto pagesNewsSpec)

/-- 'hearthlaw7.PagesFills', WHERE WHAT IT READS IS OF BULK AT MOST 1048576: true; the input reads as it did. -/
def pagesFillsUptoRow : OpenClaim := { program := "ytcdeimmjhfimjaa", sum := "600ed2f85d04ccf68796be5cd1e3335fffab3e4cd1c1c8a205fd21ef4056e681", func := "hearth/hearthlaw7.PagesFills", spec := "pagesFills", apart := false, narrowed := true }
def PagesFillsUptoSaid : Prop := pagesFillsUptoRow.holds Try.pinned (OpenSpec.upto pagesFillsSpec)

/-- 'hearthlaw7.PagesLowest', WHERE WHAT IT READS IS OF BULK AT MOST 1048576: true; the input reads as it did. -/
def pagesLowestUptoRow : OpenClaim := { program := "ytcdeimmjhfimjaa", sum := "600ed2f85d04ccf68796be5cd1e3335fffab3e4cd1c1c8a205fd21ef4056e681", func := "hearth/hearthlaw7.PagesLowest", spec := "pagesLowest", apart := false, narrowed := true }
def PagesLowestUptoSaid : Prop := pagesLowestUptoRow.holds Try.pinned (OpenSpec.upto pagesLowestSpec)

/-- 'hearthlaw7.PagesGiven', WHERE WHAT IT READS IS OF BULK AT MOST 1048576: true; the input reads as it did. -/
def pagesGivenUptoRow : OpenClaim := { program := "ytcdeimmjhfimjaa", sum := "600ed2f85d04ccf68796be5cd1e3335fffab3e4cd1c1c8a205fd21ef4056e681", func := "hearth/hearthlaw7.PagesGiven", spec := "pagesGiven", apart := false, narrowed := true }
def PagesGivenUptoSaid : Prop := pagesGivenUptoRow.holds Try.pinned (OpenSpec.upto pagesGivenSpec)

/-- 'hearthlaw7.PagesTakes', WHERE WHAT IT READS IS OF BULK AT MOST 1048576: true; the input reads as it did. -/
def pagesTakesUptoRow : OpenClaim := { program := "ytcdeimmjhfimjaa", sum := "600ed2f85d04ccf68796be5cd1e3335fffab3e4cd1c1c8a205fd21ef4056e681", func := "hearth/hearthlaw7.PagesTakes", spec := "pagesTakes", apart := false, narrowed := true }
def PagesTakesUptoSaid : Prop := pagesTakesUptoRow.holds Try.pinned (OpenSpec.upto pagesTakesSpec)

/-- 'hearthlaw7.PagesCounts', WHERE WHAT IT READS IS OF BULK AT MOST 1048576: true; the input reads as it did. -/
def pagesCountsUptoRow : OpenClaim := { program := "ytcdeimmjhfimjaa", sum := "600ed2f85d04ccf68796be5cd1e3335fffab3e4cd1c1c8a205fd21ef4056e681", func := "hearth/hearthlaw7.PagesCounts", spec := "pagesCounts", apart := false, narrowed := true }
def PagesCountsUptoSaid : Prop := pagesCountsUptoRow.holds Try.pinned (OpenSpec.upto pagesCountsSpec)

/-- 'hearthlaw7.PagesAll', WHERE WHAT IT READS IS OF BULK AT MOST 1048576: true; the input reads as it did. -/
def pagesAllUptoRow : OpenClaim := { program := "ytcdeimmjhfimjaa", sum := "600ed2f85d04ccf68796be5cd1e3335fffab3e4cd1c1c8a205fd21ef4056e681", func := "hearth/hearthlaw7.PagesAll", spec := "pagesAll", apart := false, narrowed := true }
def PagesAllUptoSaid : Prop := pagesAllUptoRow.holds Try.pinned (OpenSpec.upto pagesAllSpec)

end Rows
end Go.Proofs.Ytcdeimmjhfimjaa
