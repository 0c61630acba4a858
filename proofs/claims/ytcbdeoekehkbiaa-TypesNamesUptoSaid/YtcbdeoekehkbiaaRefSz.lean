/- The document's size and Check. -/
import Derived.Test.YtcbdeoekehkbiaaChk
namespace Go.Proofs.Ytcbdeoekehkbiaa
open Go.RowKit
set_option linter.unusedVariables false

set_option maxHeartbeats 1000000 in
/-- exprs.Check. -/
theorem exCheck_any (x : Ex) (v : Value) (w : World) (hv : RdExV w 0 false x.args v) (hnm : x.name.size ≤ maxLen) :
    Calls Try.prog 21 #[.agg #[.int .u8 x.op, .int .i64 x.n, .string x.name, v]] w fun e w' => e = .returned (.bool (okE 32 200 x)) ∧ Ext w w' := by
  have hc := fun W B (hE : Ext w W) (hB : w.heap.size ≤ B) (hb : Boxed W B 3 (.int .i64 200)) => check_any x v w W B 200 32 hv hnm hE hB hb (by omega) (by omega) (by omega)
  obtain ⟨a, cap, rfl, _⟩ := hv.form
  have hc' : ∀ W B, Ext w W → w.heap.size ≤ B → Boxed W B 3 (.int .i64 200) → Calls Try.prog 38 #[.agg #[.int .u8 x.op, .int .i64 x.n, .string x.name, .slice a x.args.length cap], .pointer (some ⟨B, 0, none⟩), .int .i64 32] W (RetChk W B x 32 200) := hc
  have HC := Lib.hid hc'
  clear hc hc' hv
  have hb := Boxed.new (w.alloc (.cells #[.int .u8 x.op, .int .i64 x.n, .string x.name, .slice a x.args.length cap] 25)) 3 (.int .i64 200)
  rw [World.size_alloc] at hb
  have HB := Lib.hid hb
  generalize hr : okE 32 200 x = r
  have hE0 : Ext w ((w.alloc (.cells #[.int .u8 x.op, .int .i64 x.n, .string x.name, .slice a x.args.length cap] 25)).alloc (.cells #[.int .i64 200] 3)) := ((Chg.refl _ _).alloc _).alloc _
  clear hb
  go_enter Try.func21, Try.ntmps21
  go_wp2_with fail
  refine (HC.out _ _ hE0 (by omega) HB.out).mono ?_
  rintro e w1 ⟨m', he, _, _, hC⟩
  rw [hr] at he
  subst he
  have E1 : Ext w w1 := Ext.then hE0 hC (fun b hb => by omega)
  go_wp2_with fail
  go_ret
  exact ⟨rfl, E1⟩
def RetSz (w : World) (x : Ex) (d : Nat) (m : Int) (e : Ending) (w' : World) : Prop := e = .returned (.int .i64 (if okE d m x = true then (nodesE x : Int) else -1)) ∧ Ext w w'
theorem retSz {w w' : World} {x : Ex} {d : Nat} {m n : Int} {b : Bool} (h : okE d m x = b) (ht : b = true → n = nodesE x) (hf : b = false → n = -1) (hE : Ext w w') : RetSz w x d m (.returned (.int .i64 n)) w' := by
  subst h
  refine ⟨?_, hE⟩
  cases hb : okE d m x
  · rw [hf hb]; simp
  · rw [ht hb]; simp
theorem nodesE_pos (x : Ex) : 1 ≤ nodesE x := by cases x; simp only [nodesE]; omega
end Go.Proofs.Ytcbdeoekehkbiaa
