/- The laws' guards: great; answers of two. -/
import Derived.Test.YtcbdeoekehkbiaaTyChk
import Derived.Test.YtcbdeoekehkbiaaTwinP
namespace Go.Proofs.Ytcbdeoekehkbiaa
open Go.RowKit
set_option linter.unusedVariables false
set_option maxHeartbeats 1000000 in
theorem tyGreat_any (p : PrD) (cs : Array Value) (w : World) (h : RdPr w 0 false p cs) : Calls Try.prog 29 #[.agg cs] w (RetB w) := by
  have hp := fun w' (e : Ext w w') => progSize_any p cs w' (h.ext e)
  obtain ⟨ai, ci, af, cf, ao, co, rfl⟩ := pr_form h
  clear h
  go_enter Try.func29, Try.ntmps29
  go_wp2_with fail
  all_goals first
    | (go_ret; exact ⟨_, rfl, (Chg.refl _ _).alloc _⟩)
    | (refine (hp _ ((Chg.refl _ _).alloc _)).mono ?_
       rintro e w1 ⟨m, rfl, e1⟩
       go_wp2_with fail
       go_ret
       exact ⟨_, rfl, ((Chg.refl _ _).alloc _).trans e1⟩)
/-- types.Of, answer given. -/
theorem tyOf_is (p : PrD) (x : Ex) (cs : Array Value) (v : Value) (a b : Int) (w : World) (h : RdPr w 0 false p cs) (hv : RdExV w 0 false x.args v) (hnm : x.name.size ≤ maxLen) (hq : tyP p x = (a, b)) :
    Calls Try.prog 30 #[.agg cs, .agg #[.int .u8 x.op, .int .i64 x.n, .string x.name, v]] w fun e w' => e = .returned (.tuple #[.int .u8 a, .int .i64 b]) ∧ Ext w w' := by
  have := tyOf_any p x cs v w h hv hnm
  rw [hq] at this
  exact this
end Go.Proofs.Ytcbdeoekehkbiaa

