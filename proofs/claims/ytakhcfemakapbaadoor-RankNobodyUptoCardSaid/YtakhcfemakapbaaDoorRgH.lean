/-
  The document's Set. Conditions: as stated.
  The document's Of. Conditions: as stated.
-/
import Derived.Test.YtakhcfemakapbaaDoorRgG
import Derived.Test.YtakhcfemakapbaaDoorRkN
import Derived.Test.YtakhcfemakapbaaDoorRgD
set_option maxRecDepth 100000
set_option linter.unusedSimpArgs false
set_option linter.unusedVariables false
namespace Go.Proofs.YtakhcfemakapbaaDoor.RjA
open Go Go.RowKit Go.Shelf Go.Proofs.YtakhcfemakapbaaDoor.Mem Go.Proofs.YtakhcfemakapbaaDoor.DuA Go.Proofs.YtakhcfemakapbaaDoor.DuM Go.Proofs.YtakhcfemakapbaaDoor.DuN Go.Proofs.YtakhcfemakapbaaDoor.RkA Go.Proofs.YtakhcfemakapbaaDoor.RkC Go.Proofs.YtakhcfemakapbaaDoor.RkB Go.Proofs.YtakhcfemakapbaaDoor.RkE Go.Proofs.YtakhcfemakapbaaDoor.RkF Go.Proofs.YtakhcfemakapbaaDoor.RkI Go.Proofs.YtakhcfemakapbaaDoor.RkM Go.Proofs.YtakhcfemakapbaaDoor.RkN Go.Proofs.YtakhcfemakapbaaDoor.RkV Go.Proofs.YtakhcfemakapbaaDoor.RkY Go.Proofs.YtakhcfemakapbaaDoor.RkZ

end Go.Proofs.YtakhcfemakapbaaDoor.RjA
set_option maxRecDepth 100000
set_option linter.unusedSimpArgs false
set_option linter.unusedVariables false
namespace Go.Proofs.YtakhcfemakapbaaDoor.RjI
open Go Go.RowKit Go.Shelf Go.Sort Go.Proofs.YtakhcfemakapbaaDoor.Mem Go.Proofs.YtakhcfemakapbaaDoor.DuA Go.Proofs.YtakhcfemakapbaaDoor.DuM Go.Proofs.YtakhcfemakapbaaDoor.DuN Go.Proofs.YtakhcfemakapbaaDoor.RkA Go.Proofs.YtakhcfemakapbaaDoor.RkC Go.Proofs.YtakhcfemakapbaaDoor.RkB Go.Proofs.YtakhcfemakapbaaDoor.RkE Go.Proofs.YtakhcfemakapbaaDoor.RkF Go.Proofs.YtakhcfemakapbaaDoor.RkI Go.Proofs.YtakhcfemakapbaaDoor.RkL Go.Proofs.YtakhcfemakapbaaDoor.RkM Go.Proofs.YtakhcfemakapbaaDoor.RkV Go.Proofs.YtakhcfemakapbaaDoor.RkY Go.Proofs.YtakhcfemakapbaaDoor.RkZ

theorem ofT_len {l : List En} {j : Nat} (hj : j ≤ l.length) (h : ((l.take j).map (·.2)).Nodup) : (ofL (l.take j)).length = j := by
  rw [(of_facts h).2.length_eq, List.length_take]; omega
end Go.Proofs.YtakhcfemakapbaaDoor.RjI
