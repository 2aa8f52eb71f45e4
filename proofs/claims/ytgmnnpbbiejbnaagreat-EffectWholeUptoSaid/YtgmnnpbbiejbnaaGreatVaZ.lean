/-
  The document's bytes of a value. Conditions: as stated.
-/
import Derived.Test.YtgmnnpbbiejbnaaGreatVaU
import Derived.Test.YtgmnnpbbiejbnaaGreatMgE
import Derived.Deep.RegionHeld3
import Derived.Sort.AtCall
set_option maxRecDepth 100000
set_option linter.unusedSimpArgs false
set_option linter.unusedVariables false
namespace Go.Proofs.YtgmnnpbbiejbnaaGreat.VaZ
open Go.RowKit Go.Proofs.YtgmnnpbbiejbnaaGreat.Mem Go.Proofs.YtgmnnpbbiejbnaaGreat.VaA Go.Proofs.YtgmnnpbbiejbnaaGreat.VaB Go.Proofs.YtgmnnpbbiejbnaaGreat.VaC Go.Proofs.YtgmnnpbbiejbnaaGreat.VaE Go.Proofs.YtgmnnpbbiejbnaaGreat.VaH Go.Proofs.YtgmnnpbbiejbnaaGreat.VaI Go.Proofs.YtgmnnpbbiejbnaaGreat.VaU Go.Proofs.YtgmnnpbbiejbnaaGreat.VaW Go.Proofs.YtgmnnpbbiejbnaaGreat.VaD

end Go.Proofs.YtgmnnpbbiejbnaaGreat.VaZ
