/- A twin that nobody has touched is told as left. -/
import Derived.Test.YtcbdeoekehkbiaaSize
import Derived.BigQuiet
import Derived.Deep.QuietTactic
import Derived.Deep.RegionHeld3
namespace Go.Proofs.Ytcbdeoekehkbiaa
open Go.RowKit
set_option linter.unusedVariables false
def RetT (w : World) (e : Ending) (w' : World) : Prop := e = .returned (.bool true) ∧ Ext w w'
theorem spare_same : (spareS.toList == [115, 112, 97, 114, 101]) = true := by decide +kernel
theorem flMark_at (j : Nat) (c : Value) (h : flMark[j]? = some c) {d : Value} (e : flMark[j]? = some d) : c = d := by rw [h] at e; simpa using e
end Go.Proofs.Ytcbdeoekehkbiaa
