/-
  The document's Scores, Names. Conditions: as stated.
-/
import Derived.Test.YtakhcfemakapbaaDoorRgI
import Derived.Test.YtakhcfemakapbaaDoorRgF
import Derived.BigQuiet
set_option maxRecDepth 100000
set_option linter.unusedSimpArgs false
set_option linter.unusedVariables false
namespace Go.Proofs.YtakhcfemakapbaaDoor.RjE
open Go Go.RowKit Go.Shelf Go.Sort Go.Proofs.YtakhcfemakapbaaDoor.Mem Go.Proofs.YtakhcfemakapbaaDoor.DuA Go.Proofs.YtakhcfemakapbaaDoor.DuM Go.Proofs.YtakhcfemakapbaaDoor.DuN Go.Proofs.YtakhcfemakapbaaDoor.RkA Go.Proofs.YtakhcfemakapbaaDoor.RkC Go.Proofs.YtakhcfemakapbaaDoor.RkB Go.Proofs.YtakhcfemakapbaaDoor.RkE Go.Proofs.YtakhcfemakapbaaDoor.RkF Go.Proofs.YtakhcfemakapbaaDoor.RkI Go.Proofs.YtakhcfemakapbaaDoor.RkM Go.Proofs.YtakhcfemakapbaaDoor.RkP Go.Proofs.YtakhcfemakapbaaDoor.RkR Go.Proofs.YtakhcfemakapbaaDoor.RkS Go.Proofs.YtakhcfemakapbaaDoor.RkU Go.Proofs.YtakhcfemakapbaaDoor.RjB Go.Proofs.YtakhcfemakapbaaDoor.RjD

theorem fil_next {l : List En} {p : En → Bool} {j : Nat} {y : En} (hy : l[j]? = some y) : (l.take (j + 1)).filter p = (l.take j).filter p ++ (if p y = true then [y] else []) := by
  rw [List.take_add_one, hy, List.filter_append]
  simp only [Option.toList_some, List.filter_cons, List.filter_nil]
end Go.Proofs.YtakhcfemakapbaaDoor.RjE
