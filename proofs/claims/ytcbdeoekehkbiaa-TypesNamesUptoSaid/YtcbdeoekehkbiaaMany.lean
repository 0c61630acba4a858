/- The document's count of parts; what may be worked out, as plain data; exprs.Check and the document's. -/
import Derived.Test.YtcbdeoekehkbiaaParts
namespace Go.Proofs.Ytcbdeoekehkbiaa
open Go.RowKit
set_option linter.unusedVariables false

end Go.Proofs.Ytcbdeoekehkbiaa
