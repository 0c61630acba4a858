/- Whether a program is great: some answer. -/
import Derived.Test.YtgdlocjocjamgaaSize
namespace Go.Proofs.Ytgdlocjocjamgaa
open Go.RowKit
set_option linter.unusedVariables false
theorem great_any (p : PrD) (cs : Array Value) (w : World) (h : RdPr w 0 false p cs) : Calls Try.prog 9 #[.agg cs] w (RetB w) := by
  have hp := fun w' (e : Ext w w') => progSize_any p cs w' (h.ext e)
  obtain ⟨vi, vf, vo, rfl, _, hi, hf, ho⟩ := h
  obtain ⟨ai, ci, rfl, _⟩ := hi
  obtain ⟨af, cf, rfl, _⟩ := hf
  obtain ⟨ao, co, rfl, _⟩ := ho
  go_enter Try.func9, Try.ntmps9
  go_wp2_with fail
  all_goals first
    | (go_ret; exact ⟨_, rfl, (Chg.refl _ _).alloc _⟩)
    | (refine (hp _ ((Chg.refl _ _).alloc _)).mono ?_
       rintro e w1 ⟨m, rfl, e1⟩
       go_wp2_with fail
       go_ret
       exact ⟨_, rfl, ((Chg.refl _ _).alloc _).trans e1⟩)
theorem beyond_one (n : Int) (b : Nat) (c : Nat) (w : World) (h : w.cell? ⟨b, 0, none⟩ = some (.int .i64 n)) : Calls Try.prog 10 #[.slice (some ⟨b, 0, none⟩) 1 c] w (RetB w) := by
  go_enter Try.func10, Try.ntmps10
  go_wp2
  refine wp_loop_rounds 2 ?_
  rw [rounds_succ]
  go_wp2
  · go_ret
    exact ⟨_, rfl, Chg.refl _ _⟩
  · rw [rounds_succ]
    go_wp2
    go_ret
    exact ⟨_, rfl, Chg.refl _ _⟩
end Go.Proofs.Ytgdlocjocjamgaa
