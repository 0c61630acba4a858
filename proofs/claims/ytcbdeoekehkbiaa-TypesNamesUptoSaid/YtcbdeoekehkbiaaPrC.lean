/- progs.Check and the document's are the same plain answer. -/
import Derived.Test.YtcbdeoekehkbiaaHas
namespace Go.Proofs.Ytcbdeoekehkbiaa
open Go.RowKit
set_option linter.unusedVariables false
set_option linter.unusedSimpArgs false

set_option maxHeartbeats 2000000 in
theorem prCheck_any (p : PrD) (cs : Array Value) (w : World) (h : RdPr w 0 false p cs) : Calls Try.prog 39 #[.agg cs] w (RetV (progP p) w) := by
  obtain ⟨vi, vf, vo, rfl, hst, hi, hf, ho⟩ := h
  obtain ⟨ai, ci, rfl, ri⟩ := hi
  obtain ⟨af, cf, rfl, rf⟩ := hf
  obtain ⟨ao, co, rfl, ro⟩ := ho
  have hi : RdInV w 0 false p.ins (.slice ai p.ins.length ci) := ⟨_, _, rfl, ri⟩
  have hf : RdFlV w 0 false p.flows (.slice af p.flows.length cf) := ⟨_, _, rfl, rf⟩
  have ho : RdStrV w 0 false p.outs (.slice ao p.outs.length co) := ⟨_, _, rfl, ro⟩
  have n1 : p.ins.length ≤ 9000000000000000000 := by have := ri.1; unfold fitsR at this; omega
  have n2 : p.flows.length ≤ 9000000000000000000 := by have := rf.1; unfold fitsR at this; omega
  have n3 : p.outs.length ≤ 9000000000000000000 := by have := ro.1; unfold fitsR at this; omega
  clear ri rf ro
  have hP : progP p = (decide (1 ≤ p.st) && decide (p.st ≤ 8) && decide (p.ins.length ≤ 64) && decide (p.flows.length ≤ 128) && decide (p.outs.length ≤ p.ins.length + p.flows.length) && !(p.ins.any (inBad p.st)) && !(p.flows.any (flBad p.st)) && !(p.outs.any fun s => !nameP s)) := rfl
  have HP := Lib.hid hP
  clear hP
  have e0 : Ext w (w.alloc (.cells #[.int .i64 p.st, .slice ai p.ins.length ci, .slice af p.flows.length cf, .slice ao p.outs.length co] 36)) := (Chg.refl _ _).alloc _
  have xb : (w.alloc (.cells #[.int .i64 p.st, .slice ai p.ins.length ci, .slice af p.flows.length cf, .slice ao p.outs.length co] 36)).heap[w.heap.size]? = some (.cells #[.int .i64 p.st, .slice ai p.ins.length ci, .slice af p.flows.length cf, .slice ao p.outs.length co] 36 (0, 0)) := heap_alloc_new _ _
  have x0 := blk_cell xb 0
  have x1 := blk_cell xb 1
  have x2 := blk_cell xb 2
  have x3 := blk_cell xb 3
  simp only [List.getElem?_toArray, List.getElem?_cons_zero, List.getElem?_cons_succ] at x0 x1 x2 x3
  go_enter Try.func39, Try.ntmps39
  by_cases h1 : 1 ≤ p.st
  case neg =>
    go_wp2_with fail
    go_ret
    exact retV (by rw [HP.out, show decide (1 ≤ p.st) = false from decide_eq_false (by omega)]; simp only [Bool.false_and, Bool.and_false]) e0
  have h1' : ¬ p.st < 1 := by omega
  by_cases h2 : p.st ≤ 8
  case neg =>
    have h2' : 8 < p.st := by omega
    go_wp2_with fail
    go_ret
    exact retV (by rw [HP.out, show decide (p.st ≤ 8) = false from decide_eq_false (by omega)]; simp only [Bool.false_and, Bool.and_false]) e0
  have h2' : ¬ 8 < p.st := by omega
  by_cases h3 : p.ins.length ≤ 64
  case neg =>
    have h3' : (64 : Int) < (p.ins.length : Int) := by omega
    go_wp2_with fail
    go_ret
    exact retV (by rw [HP.out, show decide (p.ins.length ≤ 64) = false from decide_eq_false (by omega)]; simp only [Bool.false_and, Bool.and_false]) e0
  have h3' : ¬ (64 : Int) < (p.ins.length : Int) := by omega
  by_cases h4 : p.flows.length ≤ 128
  case neg =>
    have h4' : (128 : Int) < (p.flows.length : Int) := by omega
    go_wp2_with fail
    go_ret
    exact retV (by rw [HP.out, show decide (p.flows.length ≤ 128) = false from decide_eq_false (by omega)]; simp only [Bool.false_and, Bool.and_false]) e0
  have h4' : ¬ (128 : Int) < (p.flows.length : Int) := by omega
  by_cases h5 : p.outs.length ≤ p.ins.length + p.flows.length
  case neg =>
    have h5' : (p.ins.length : Int) + (p.flows.length : Int) < (p.outs.length : Int) := by omega
    go_wp2_with fail
    go_ret
    exact retV (by rw [HP.out, show decide (p.outs.length ≤ p.ins.length + p.flows.length) = false from decide_eq_false (by omega)]; simp only [Bool.false_and, Bool.and_false]) e0
  have h5' : ¬ (p.ins.length : Int) + (p.flows.length : Int) < (p.outs.length : Int) := by omega
  have HP2 : Hid (progP p = (!(p.ins.any (inBad p.st)) && !(p.flows.any (flBad p.st)) && !(p.outs.any fun s => !nameP s))) := by
    show _ = _
    rw [HP.out]
    simp only [h1, h2, h3, h4, h5, decide_true, Bool.true_and]
  clear HP
  have hiw := hi.ext e0
  have HF := Lib.hid hf
  have HO := Lib.hid ho
  clear hi hf ho h1 h2 h3 h4 h5
  go_wp2_with fail
  generalize (w.alloc (.cells #[.int .i64 p.st, .slice ai p.ins.length ci, .slice af p.flows.length cf, .slice ao p.outs.length co] 36)) = W0 at *
  refine (hasI_any p.ins _ p.st _ _ hiw x0).mono ?_
  rintro e w1 ⟨rfl, hE1⟩
  have E1 := e0.trans hE1
  have xb1 := Ext.heap hE1 xb
  clear x0 x1 x2 x3 hiw xb
  have x0 := blk_cell xb1 0
  have x1 := blk_cell xb1 1
  have x2 := blk_cell xb1 2
  have x3 := blk_cell xb1 3
  simp only [List.getElem?_toArray, List.getElem?_cons_zero, List.getElem?_cons_succ] at x0 x1 x2 x3
  generalize p.ins.any (inBad p.st) = b1 at *
  cases b1
  case true =>
    go_wp2_with fail
    go_ret
    exact retV (by rw [HP2.out]; rfl) E1
  have hfw := HF.out.ext E1
  go_wp2_with fail
  refine (hasF_any p.flows _ p.st _ _ hfw x0).mono ?_
  rintro e w2 ⟨rfl, hE2⟩
  have E2 := E1.trans hE2
  have xb2 := Ext.heap hE2 xb1
  clear x0 x1 x2 x3 hfw xb1
  have x3 := blk_cell xb2 3
  simp only [List.getElem?_toArray, List.getElem?_cons_zero, List.getElem?_cons_succ] at x3
  generalize p.flows.any (flBad p.st) = b2 at *
  cases b2
  case true =>
    go_wp2_with fail
    go_ret
    exact retV (by rw [HP2.out]; rfl) E2
  have how := HO.out.ext E2
  go_wp2_with fail
  refine (hasS_any p.outs _ _ how).mono ?_
  rintro e w3 ⟨rfl, hE3⟩
  generalize (p.outs.any fun s => !nameP s) = b3 at *
  go_wp2_with fail
  go_ret
  exact retV (by rw [HP2.out]; rfl) (E2.trans hE3)

end Go.Proofs.Ytcbdeoekehkbiaa
