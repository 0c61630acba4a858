/- The document's Of for types. -/
import Derived.Test.YtcbdeoekehkbiaaTyOfW
import Derived.Test.YtcbdeoekehkbiaaRefTy
namespace Go.Proofs.Ytcbdeoekehkbiaa
open Go.RowKit
set_option linter.unusedVariables false
set_option linter.unusedSimpArgs false

end Go.Proofs.Ytcbdeoekehkbiaa
