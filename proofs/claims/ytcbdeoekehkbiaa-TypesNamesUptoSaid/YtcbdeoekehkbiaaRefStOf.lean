/- The document's Of. -/
import Derived.Test.YtcbdeoekehkbiaaStOf
namespace Go.Proofs.Ytcbdeoekehkbiaa
open Go.RowKit
set_option linter.unusedVariables false

end Go.Proofs.Ytcbdeoekehkbiaa
