/- The document's of answers the plain answer. -/
import Derived.Test.YtcbdeoekehkbiaaOfW
namespace Go.Proofs.Ytcbdeoekehkbiaa
open Go.RowKit
set_option linter.unusedVariables false

theorem ruleP_19 {l : List Int} (h1 : l.length = 1) (hb : ∀ y, y ∈ l → 0 ≤ y ∧ y ≤ 100000) : ruleP 19 l = maxL l + 1 := by
  match l, h1 with
  | [x], _ =>
    have := hb x (by simp)
    show x + 1 = max 0 x + 1
    omega
end Go.Proofs.Ytcbdeoekehkbiaa
