/- The walks in the form that the rows ask. -/
import Derived.Test.YtpkeclkfgfkddaaOpen
import Derived.Test.YtpkeclkfgfkddaaLeaveW
namespace Go.Proofs.Ytpkeclkfgfkddaa
open Go.RowKit
set_option linter.unusedVariables false
theorem leave_walk (st se : Int) (a : Option Addr) (len cap : Nat) (xs : Nat → Act5) (w : World) (h0 : (Lit.int .u8 st).wf = true) (h1 : (Lit.int .u8 se).wf = true) (hx : Acts w a len xs) :
    Calls Try.prog 4 #[.int .u8 st, .int .u8 se, .slice a len cap] w fun e w' => e = .returned (.bool true) ∧ Below w.heap.size w w' :=
  (leave_any st se a len cap xs w (wf_u8 h0) (wf_u8 h1) hx).mono fun e w' ⟨h1, h2⟩ => ⟨h1, h2.below (Nat.le_refl _) (fun _ h => h.elim)⟩
end Go.Proofs.Ytpkeclkfgfkddaa
