/- The laws' guards: great; answers of two. -/
import Derived.Test.YtcbdeoekehkbiaaStChk
import Derived.Test.YtcbdeoekehkbiaaTwinP
namespace Go.Proofs.Ytcbdeoekehkbiaa
open Go.RowKit
set_option linter.unusedVariables false
set_option maxHeartbeats 1000000 in
theorem stGreat_any (p : PrD) (cs : Array Value) (w : World) (h : RdPr w 0 false p cs) : Calls Try.prog 18 #[.agg cs] w (RetB w) := by
  have hp := fun w' (e : Ext w w') => progSize_any p cs w' (h.ext e)
  obtain ⟨ai, ci, af, cf, ao, co, rfl⟩ := pr_form h
  clear h
  go_enter Try.func18, Try.ntmps18
  go_wp2_with fail
  all_goals first
    | (go_ret; exact ⟨_, rfl, (Chg.refl _ _).alloc _⟩)
    | (refine (hp _ ((Chg.refl _ _).alloc _)).mono ?_
       rintro e w1 ⟨m, rfl, e1⟩
       go_wp2_with fail
       go_ret
       exact ⟨_, rfl, ((Chg.refl _ _).alloc _).trans e1⟩)
/-- starts.Of, answer given. -/
theorem stOf_is (p : PrD) (x : Ex) (cs : Array Value) (v : Value) (a b : Int) (w : World) (h : RdPr w 0 false p cs) (hv : RdExV w 0 false x.args v) (hnm : x.name.size ≤ maxLen) (hq : stP p x = (a, b)) :
    Calls Try.prog 20 #[.agg cs, .agg #[.int .u8 x.op, .int .i64 x.n, .string x.name, v]] w fun e w' => e = .returned (.tuple #[.int .i64 a, .int .i64 b]) ∧ Ext w w' := by
  have := stOf_any p x cs v w h hv hnm
  rw [hq] at this
  exact this
end Go.Proofs.Ytcbdeoekehkbiaa
