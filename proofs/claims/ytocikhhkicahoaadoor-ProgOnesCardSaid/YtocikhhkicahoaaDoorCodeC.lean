/- Programs one behind the other. No condition. -/
import Derived.Test.YtocikhhkicahoaaDoorCodeB

set_option linter.unusedSimpArgs false
set_option linter.unusedVariables false
set_option linter.defProp false
section
namespace Go.Proofs.YtocikhhkicahoaaDoor.N2
open Go Go.Abs Go.Proofs.Unis Go.Proofs.Norm
set_option maxRecDepth 100000


end Go.Proofs.YtocikhhkicahoaaDoor.N2
end
