/- What a name is: the plain answer; the document's walk. -/
import Derived.Test.YtcbdeoekehkbiaaLeft
namespace Go.Proofs.Ytcbdeoekehkbiaa
open Go.RowKit
set_option linter.unusedVariables false

/-- The first flow of the name, counted from i. -/
def findFl (s : ByteArray) : Nat → List FlD → Int × Int × Int × Bool
  | _, [] => (0, 0, 0, false)
  | i, x :: r => if x.name = s then (x.st, x.ty, (i : Int), true) else findFl s (i + 1) r
/-- The first that comes from without, else the first flow. -/
def findP (s : ByteArray) (fl : List FlD) : List InD → Int × Int × Int × Bool
  | [] => findFl s 0 fl
  | x :: r => if x.name = s then (x.st, x.ty, -1, true) else findP s fl r
def fourV (q : Int × Int × Int × Bool) : Value := .tuple #[.int .i64 q.1, .int .u8 q.2.1, .int .i64 q.2.2.1, .bool q.2.2.2]
theorem findP_at {s : ByteArray} {fl : List FlD} {l : List InD} {k : Nat} {x : InD} (h : l[k]? = some x) : findP s fl (l.drop k) = if x.name = s then (x.st, x.ty, -1, true) else findP s fl (l.drop (k + 1)) := by
  obtain ⟨hk, rfl⟩ := List.getElem?_eq_some_iff.1 h
  rw [List.drop_eq_getElem_cons hk, findP]
theorem findFl_at {s : ByteArray} {l : List FlD} {k : Nat} {x : FlD} (h : l[k]? = some x) : findFl s k (l.drop k) = if x.name = s then (x.st, x.ty, (k : Int), true) else findFl s (k + 1) (l.drop (k + 1)) := by
  obtain ⟨hk, rfl⟩ := List.getElem?_eq_some_iff.1 h
  rw [List.drop_eq_getElem_cons hk, findFl]
theorem str_eq {a b : ByteArray} : (a.toList == b.toList) = true ↔ a = b := by
  rw [beq_iff_eq, ByteArray.toList_eq, ByteArray.toList_eq, Array.toList_inj]
  exact ⟨fun h => by cases a; cases b; cases h; rfl, fun h => by rw [h]⟩
theorem str_ne {a b : ByteArray} (h : (a.toList == b.toList) = false) : ¬ a = b := fun e => by rw [str_eq.2 e] at h; cases h
theorem results_four {fn : Func} {t u v x : Tmp} (h : fn.results = #[.tmp t, .tmp u, .tmp v, .tmp x]) (tmps : Array Value) (P : Program) (w : World) :
    (results fn tmps).run P w = .ok (.tuple #[tmps.getD t undef, tmps.getD u undef, tmps.getD v undef, tmps.getD x undef]) w := by
  simp [results, h]
def progC (p : PrD) (ai af ao : Option Addr) (ci cf co : Nat) : Array Value := #[.int .i64 p.st, .slice ai p.ins.length ci, .slice af p.flows.length cf, .slice ao p.outs.length co]
def RetFind (w : World) (p : PrD) (s : ByteArray) (e : Ending) (w' : World) : Prop := e = .returned (fourV (findP s p.flows p.ins)) ∧ Ext w w'
end Go.Proofs.Ytcbdeoekehkbiaa
