/- progs.Check and the document's are the same plain answer. -/
import Derived.Test.YtjdficgejjkaoaaHas
namespace Go.Proofs.Ytjdficgejjkaoaa
open Go.RowKit
set_option linter.unusedVariables false
set_option linter.unusedSimpArgs false

set_option maxHeartbeats 2000000 in
theorem prCheck_any (p : PrD) (cs : Array Value) (w : World) (h : RdPr w 0 false p cs) : Calls Try.prog 47 #[.agg cs] w (RetV (progP p) w) := by
  obtain ⟨vi, vf, vo, rfl, hst, hi, hf, ho⟩ := h
  obtain ⟨ai, ci, rfl, ri⟩ := hi
  obtain ⟨af, cf, rfl, rf⟩ := hf
  obtain ⟨ao, co, rfl, ro⟩ := ho
  have hi : RdInV w 0 false p.ins (.slice ai p.ins.length ci) := ⟨_, _, rfl, ri⟩
  have hf : RdFlV w 0 false p.flows (.slice af p.flows.length cf) := ⟨_, _, rfl, rf⟩
  have ho : RdStrV w 0 false p.outs (.slice ao p.outs.length co) := ⟨_, _, rfl, ro⟩
  have n1 : p.ins.length ≤ 9000000000000000000 := by have := ri.1; unfold fitsR at this; omega
  have n2 : p.flows.length ≤ 9000000000000000000 := by have := rf.1; unfold fitsR at this; omega
  have n3 : p.outs.length ≤ 9000000000000000000 := by have := ro.1; unfold fitsR at this; omega
  clear ri rf ro
  have hP : progP p = (decide (1 ≤ p.st) && decide (p.st ≤ 8) && decide (p.ins.length ≤ 64) && decide (p.flows.length ≤ 128) && decide (p.outs.length ≤ p.ins.length + p.flows.length) && !(p.ins.any (inBad p.st)) && !(p.flows.any (flBad p.st)) && !(p.outs.any fun s => !nameP s)) := rfl
  have HP := Lib.hid hP
  clear hP
  have e0 : Ext w (w.alloc (.cells #[.int .i64 p.st, .slice ai p.ins.length ci, .slice af p.flows.length cf, .slice ao p.outs.length co] 26)) := (Chg.refl _ _).alloc _
  have xb : (w.alloc (.cells #[.int .i64 p.st, .slice ai p.ins.length ci, .slice af p.flows.length cf, .slice ao p.outs.length co] 26)).heap[w.heap.size]? = some (.cells #[.int .i64 p.st, .slice ai p.ins.length ci, .slice af p.flows.length cf, .slice ao p.outs.length co] 26 (0, 0)) := heap_alloc_new _ _
  have x0 := blk_cell xb 0
  have x1 := blk_cell xb 1
  have x2 := blk_cell xb 2
  have x3 := blk_cell xb 3
  simp only [List.getElem?_toArray, List.getElem?_cons_zero, List.getElem?_cons_succ] at x0 x1 x2 x3
  go_enter Try.func47, Try.ntmps47
  by_cases h1 : 1 ≤ p.st
  case neg =>
    go_wp2_with fail
    go_ret
    exact retV (by rw [HP.out, show decide (1 ≤ p.st) = false from decide_eq_false (by omega)]; simp only [Bool.false_and, Bool.and_false]) e0
  have h1' : ¬ p.st < 1 := by omega
  by_cases h2 : p.st ≤ 8
  case neg =>
    have h2' : 8 < p.st := by omega
    go_wp2_with fail
    go_ret
    exact retV (by rw [HP.out, show decide (p.st ≤ 8) = false from decide_eq_false (by omega)]; simp only [Bool.false_and, Bool.and_false]) e0
  have h2' : ¬ 8 < p.st := by omega
  by_cases h3 : p.ins.length ≤ 64
  case neg =>
    have h3' : (64 : Int) < (p.ins.length : Int) := by omega
    go_wp2_with fail
    go_ret
    exact retV (by rw [HP.out, show decide (p.ins.length ≤ 64) = false from decide_eq_false (by omega)]; simp only [Bool.false_and, Bool.and_false]) e0
  have h3' : ¬ (64 : Int) < (p.ins.length : Int) := by omega
  by_cases h4 : p.flows.length ≤ 128
  case neg =>
    have h4' : (128 : Int) < (p.flows.length : Int) := by omega
    go_wp2_with fail
    go_ret
    exact retV (by rw [HP.out, show decide (p.flows.length ≤ 128) = false from decide_eq_false (by omega)]; simp only [Bool.false_and, Bool.and_false]) e0
  have h4' : ¬ (128 : Int) < (p.flows.length : Int) := by omega
  by_cases h5 : p.outs.length ≤ p.ins.length + p.flows.length
  case neg =>
    have h5' : (p.ins.length : Int) + (p.flows.length : Int) < (p.outs.length : Int) := by omega
    go_wp2_with fail
    go_ret
    exact retV (by rw [HP.out, show decide (p.outs.length ≤ p.ins.length + p.flows.length) = false from decide_eq_false (by omega)]; simp only [Bool.false_and, Bool.and_false]) e0
  have h5' : ¬ (p.ins.length : Int) + (p.flows.length : Int) < (p.outs.length : Int) := by omega
  have HP2 : Hid (progP p = (!(p.ins.any (inBad p.st)) && !(p.flows.any (flBad p.st)) && !(p.outs.any fun s => !nameP s))) := by
    show _ = _
    rw [HP.out]
    simp only [h1, h2, h3, h4, h5, decide_true, Bool.true_and]
  clear HP
  have hiw := hi.ext e0
  have HF := Lib.hid hf
  have HO := Lib.hid ho
  clear hi hf ho h1 h2 h3 h4 h5
  go_wp2_with fail
  generalize (w.alloc (.cells #[.int .i64 p.st, .slice ai p.ins.length ci, .slice af p.flows.length cf, .slice ao p.outs.length co] 26)) = W0 at *
  refine (hasI_any p.ins _ p.st _ _ hiw x0).mono ?_
  rintro e w1 ⟨rfl, hE1⟩
  have E1 := e0.trans hE1
  have xb1 := Ext.heap hE1 xb
  clear x0 x1 x2 x3 hiw xb
  have x0 := blk_cell xb1 0
  have x1 := blk_cell xb1 1
  have x2 := blk_cell xb1 2
  have x3 := blk_cell xb1 3
  simp only [List.getElem?_toArray, List.getElem?_cons_zero, List.getElem?_cons_succ] at x0 x1 x2 x3
  generalize p.ins.any (inBad p.st) = b1 at *
  cases b1
  case true =>
    go_wp2_with fail
    go_ret
    exact retV (by rw [HP2.out]; rfl) E1
  have hfw := HF.out.ext E1
  go_wp2_with fail
  refine (hasF_any p.flows _ p.st _ _ hfw x0).mono ?_
  rintro e w2 ⟨rfl, hE2⟩
  have E2 := E1.trans hE2
  have xb2 := Ext.heap hE2 xb1
  clear x0 x1 x2 x3 hfw xb1
  have x3 := blk_cell xb2 3
  simp only [List.getElem?_toArray, List.getElem?_cons_zero, List.getElem?_cons_succ] at x3
  generalize p.flows.any (flBad p.st) = b2 at *
  cases b2
  case true =>
    go_wp2_with fail
    go_ret
    exact retV (by rw [HP2.out]; rfl) E2
  have how := HO.out.ext E2
  go_wp2_with fail
  refine (hasS_any p.outs _ _ how).mono ?_
  rintro e w3 ⟨rfl, hE3⟩
  generalize (p.outs.any fun s => !nameP s) = b3 at *
  go_wp2_with fail
  go_ret
  exact retV (by rw [HP2.out]; rfl) (E2.trans hE3)

set_option maxHeartbeats 2000000 in
theorem refPrCheck_any (p : PrD) (cs : Array Value) (w : World) (h : RdPr w 0 false p cs) : Calls Try.prog 67 #[.agg cs] w (RetV (progP p) w) := by
  obtain ⟨vi, vf, vo, rfl, hst, hi, hf, ho⟩ := h
  obtain ⟨ai, ci, rfl, ri⟩ := hi
  obtain ⟨af, cf, rfl, rf⟩ := hf
  obtain ⟨ao, co, rfl, ro⟩ := ho
  have hi : RdInV w 0 false p.ins (.slice ai p.ins.length ci) := ⟨_, _, rfl, ri⟩
  have hf : RdFlV w 0 false p.flows (.slice af p.flows.length cf) := ⟨_, _, rfl, rf⟩
  have ho : RdStrV w 0 false p.outs (.slice ao p.outs.length co) := ⟨_, _, rfl, ro⟩
  have n1 : p.ins.length ≤ 9000000000000000000 := by have := ri.1; unfold fitsR at this; omega
  have n2 : p.flows.length ≤ 9000000000000000000 := by have := rf.1; unfold fitsR at this; omega
  have n3 : p.outs.length ≤ 9000000000000000000 := by have := ro.1; unfold fitsR at this; omega
  clear ri rf ro
  have hP : progP p = (decide (1 ≤ p.st) && decide (p.st ≤ 8) && decide (p.ins.length ≤ 64) && decide (p.flows.length ≤ 128) && decide (p.outs.length ≤ p.ins.length + p.flows.length) && !(p.ins.any (inBad p.st)) && !(p.flows.any (flBad p.st)) && !(p.outs.any fun s => !nameP s)) := rfl
  have HP := Lib.hid hP
  clear hP
  have e0 : Ext w (w.alloc (.cells #[.int .i64 p.st, .slice ai p.ins.length ci, .slice af p.flows.length cf, .slice ao p.outs.length co] 26)) := (Chg.refl _ _).alloc _
  have xb : (w.alloc (.cells #[.int .i64 p.st, .slice ai p.ins.length ci, .slice af p.flows.length cf, .slice ao p.outs.length co] 26)).heap[w.heap.size]? = some (.cells #[.int .i64 p.st, .slice ai p.ins.length ci, .slice af p.flows.length cf, .slice ao p.outs.length co] 26 (0, 0)) := heap_alloc_new _ _
  have x0 := blk_cell xb 0
  have x1 := blk_cell xb 1
  have x2 := blk_cell xb 2
  have x3 := blk_cell xb 3
  simp only [List.getElem?_toArray, List.getElem?_cons_zero, List.getElem?_cons_succ] at x0 x1 x2 x3
  go_enter Try.func67, Try.ntmps67
  by_cases h1 : 1 ≤ p.st
  case neg =>
    go_wp2_with fail
    go_ret
    exact retV (by rw [HP.out, show decide (1 ≤ p.st) = false from decide_eq_false (by omega)]; simp only [Bool.false_and, Bool.and_false]) e0
  have h1' : ¬ p.st < 1 := by omega
  by_cases h2 : p.st ≤ 8
  case neg =>
    have h2' : 8 < p.st := by omega
    go_wp2_with fail
    go_ret
    exact retV (by rw [HP.out, show decide (p.st ≤ 8) = false from decide_eq_false (by omega)]; simp only [Bool.false_and, Bool.and_false]) e0
  have h2' : ¬ 8 < p.st := by omega
  by_cases h3 : p.ins.length ≤ 64
  case neg =>
    have h3' : (64 : Int) < (p.ins.length : Int) := by omega
    go_wp2_with fail
    go_ret
    exact retV (by rw [HP.out, show decide (p.ins.length ≤ 64) = false from decide_eq_false (by omega)]; simp only [Bool.false_and, Bool.and_false]) e0
  have h3' : ¬ (64 : Int) < (p.ins.length : Int) := by omega
  by_cases h4 : p.flows.length ≤ 128
  case neg =>
    have h4' : (128 : Int) < (p.flows.length : Int) := by omega
    go_wp2_with fail
    go_ret
    exact retV (by rw [HP.out, show decide (p.flows.length ≤ 128) = false from decide_eq_false (by omega)]; simp only [Bool.false_and, Bool.and_false]) e0
  have h4' : ¬ (128 : Int) < (p.flows.length : Int) := by omega
  by_cases h5 : p.outs.length ≤ p.ins.length + p.flows.length
  case neg =>
    have h5' : (p.ins.length : Int) + (p.flows.length : Int) < (p.outs.length : Int) := by omega
    go_wp2_with fail
    go_ret
    exact retV (by rw [HP.out, show decide (p.outs.length ≤ p.ins.length + p.flows.length) = false from decide_eq_false (by omega)]; simp only [Bool.false_and, Bool.and_false]) e0
  have h5' : ¬ (p.ins.length : Int) + (p.flows.length : Int) < (p.outs.length : Int) := by omega
  have HP2 : Hid (progP p = (!(p.ins.any (inBad p.st)) && !(p.flows.any (flBad p.st)) && !(p.outs.any fun s => !nameP s))) := by
    show _ = _
    rw [HP.out]
    simp only [h1, h2, h3, h4, h5, decide_true, Bool.true_and]
  clear HP
  have HF := Lib.hid hf
  have HO := Lib.hid ho
  have HI := Lib.hid hi
  clear hi hf ho h1 h2 h3 h4 h5
  go_wp2_with fail
  generalize (w.alloc (.cells #[.int .i64 p.st, .slice ai p.ins.length ci, .slice af p.flows.length cf, .slice ao p.outs.length co] 26)) = W0 at *
  go_loopw [3] (fun i wr => ∃ k : Nat, k ≤ p.ins.length ∧ i = .int .i64 k ∧ (p.ins.any (inBad p.st)) = ((p.ins.drop k).any (inBad p.st)) ∧ Ext w wr ∧ wr.heap[w.heap.size]? = some (.cells #[.int .i64 p.st, .slice ai p.ins.length ci, .slice af p.flows.length cf, .slice ao p.outs.length co] 26 (0, 0))) (fun i _ => p.ins.length - (intOf i).toNat)
  case atStart => exact ⟨0, Nat.zero_le _, rfl, rfl, e0, xb⟩
  case round =>
    clear e0 xb x0 x1 x2 x3
    obtain ⟨k, hk, rfl, hEq, hX, xb⟩ := hrel
    have x0 := blk_cell xb 0
    have x1 := blk_cell xb 1
    have x2 := blk_cell xb 2
    have x3 := blk_cell xb 3
    simp only [List.getElem?_toArray, List.getElem?_cons_zero, List.getElem?_cons_succ] at x0 x1 x2 x3
    have HE := Lib.hid hEq
    clear hEq
    by_cases hlt : k < p.ins.length
    · have hx : p.ins[k]? = some p.ins[k] := List.getElem?_eq_getElem hlt
      have q1 : (k : Int) < (p.ins.length : Int) := by omega
      have HS := Lib.hid (anyG_at (f := inBad p.st) hx)
      obtain ⟨_, _, e, _, _, _, hr, _⟩ := HI.out.ext hX
      simp only [Value.slice.injEq, true_and] at e
      obtain ⟨rfl, rfl⟩ := e
      obtain ⟨hnm, _, _, b, o, rfl, _, hlt2, c0, c1, c2⟩ := hr k _ hx
      generalize p.ins[k] = y at *
      have hcall := refIs_one p.st (.slice (some ⟨b, o, none⟩) p.ins.length ci) (.slice af p.flows.length cf) (.slice ao p.outs.length co) y.name y.ty y.st hnm (wr.alloc (.cells #[.string y.name, .int .u8 y.ty, .int .i64 y.st] 59)) ⟨_, _, _, rfl⟩ ⟨_, _, _, rfl⟩ ⟨_, _, _, rfl⟩
      have HC := Lib.hid hcall
      have hX1 : Ext w (wr.alloc (.cells #[.string y.name, .int .u8 y.ty, .int .i64 y.st] 59)) := hX.alloc _
      have xb1 := Ext.heap (show Ext wr (wr.alloc (.cells #[.string y.name, .int .u8 y.ty, .int .i64 y.st] 59)) from (Chg.refl _ _).alloc _) xb
      clear hr hx hcall
      have z0 := blk_cell xb1 0
      have z1 := blk_cell xb1 1
      have z2 := blk_cell xb1 2
      have z3 := blk_cell xb1 3
      simp only [List.getElem?_toArray, List.getElem?_cons_zero, List.getElem?_cons_succ] at z0 z1 z2 z3
      go_wp2_with fail
      clear z0 z1 z2 z3
      refine HC.out.mono ?_
      rintro e w1 ⟨he, hE1⟩
      have hX2 := hX1.trans hE1
      have xb2 := Ext.heap hE1 xb1
      cases hb : mayP p.st y.name y.ty y.st
      · rw [hb] at he
        subst he
        have H2 : Hid ((p.ins.any (inBad p.st)) = true) := by
          show _ = _
          rw [HE.out, HS.out, inBad, hb]; rfl
        go_wp2_with fail
        go_ret
        exact retV (by rw [HP2.out, H2.out]; rfl) hX2
      · rw [hb] at he
        subst he
        have H2 : Hid ((p.ins.any (inBad p.st)) = ((p.ins.drop (k + 1)).any (inBad p.st))) := by
          show _ = _
          rw [HE.out, HS.out, inBad, hb]; rfl
        clear hX hX1 hE1 xb xb1
        go_wp2_with fail
        go_roundw
        case rel => exact ⟨k + 1, by omega, by go_num, H2.out, hX2, xb2⟩
        case measure => simp [intOf]; omega
    · obtain rfl : k = p.ins.length := by omega
      have H2 := Lib.hid (HE.out.trans (show ((p.ins.drop p.ins.length).any (inBad p.st)) = false by rw [List.drop_length]; rfl))
      have HP3 : Hid (progP p = (!(p.flows.any (flBad p.st)) && !(p.outs.any fun s => !nameP s))) := by
        show _ = _
        rw [HP2.out, H2.out]; rfl
      clear HP2 H2 HE
      go_wp2_with fail
      obtain ⟨wo, rfl⟩ : ∃ wo : World, wo = wr := ⟨_, rfl⟩
      go_loopw [5] (fun i wr => ∃ k : Nat, k ≤ p.flows.length ∧ i = .int .i64 k ∧ (p.flows.any (flBad p.st)) = ((p.flows.drop k).any (flBad p.st)) ∧ Ext w wr ∧ wr.heap[w.heap.size]? = some (.cells #[.int .i64 p.st, .slice ai p.ins.length ci, .slice af p.flows.length cf, .slice ao p.outs.length co] 26 (0, 0))) (fun i _ => p.flows.length - (intOf i).toNat)
      case atStart => exact ⟨0, Nat.zero_le _, rfl, rfl, hX, xb⟩
      case round =>
        clear hX xb x0 x1 x2 x3
        obtain ⟨k, hk, rfl, hEq, hX, xb⟩ := hrel
        have x0 := blk_cell xb 0
        have x1 := blk_cell xb 1
        have x2 := blk_cell xb 2
        have x3 := blk_cell xb 3
        simp only [List.getElem?_toArray, List.getElem?_cons_zero, List.getElem?_cons_succ] at x0 x1 x2 x3
        have HE := Lib.hid hEq
        clear hEq
        by_cases hlt : k < p.flows.length
        · have hx : p.flows[k]? = some p.flows[k] := List.getElem?_eq_getElem hlt
          have q1 : (k : Int) < (p.flows.length : Int) := by omega
          have HS := Lib.hid (anyG_at (f := flBad p.st) hx)
          obtain ⟨_, _, e, _, _, _, hr, _⟩ := HF.out.ext hX
          simp only [Value.slice.injEq, true_and] at e
          obtain ⟨rfl, rfl⟩ := e
          obtain ⟨hnm, _, _, hdf, b, o, rfl, _, hlt2, c0, c1, c2, c3, _, _, hbn, v, hvx, c4, c5, c6, c7⟩ := hr k _ hx
          generalize p.flows[k] = y at *
          have hK := fun (W : World) (hE : Ext wr W) => refCheck_any y.body v W (hvx.ext hE) hbn
          obtain ⟨va, vc, rfl, _⟩ := hvx.form
          have hcall := refIs_one p.st (.slice ai p.ins.length ci) (.slice (some ⟨b, o, none⟩) p.flows.length cf) (.slice ao p.outs.length co) y.name y.ty y.st hnm (wr.alloc (.cells #[.string y.name, .int .u8 y.ty, .int .i64 y.st, .int .i64 y.df, .int .u8 y.body.op, .int .i64 y.body.n, .string y.body.name, .slice va y.body.args.length vc] 55)) ⟨_, _, _, rfl⟩ ⟨_, _, _, rfl⟩ ⟨_, _, _, rfl⟩
          have HC := Lib.hid hcall
          have HK := Lib.hid hK
          have hAl : Ext wr (wr.alloc (.cells #[.string y.name, .int .u8 y.ty, .int .i64 y.st, .int .i64 y.df, .int .u8 y.body.op, .int .i64 y.body.n, .string y.body.name, .slice va y.body.args.length vc] 55)) := (Chg.refl _ _).alloc _
          have xb1 := Ext.heap hAl xb
          have fb1 : (wr.alloc (.cells #[.string y.name, .int .u8 y.ty, .int .i64 y.st, .int .i64 y.df, .int .u8 y.body.op, .int .i64 y.body.n, .string y.body.name, .slice va y.body.args.length vc] 55)).heap[wr.heap.size]? = some (.cells #[.string y.name, .int .u8 y.ty, .int .i64 y.st, .int .i64 y.df, .int .u8 y.body.op, .int .i64 y.body.n, .string y.body.name, .slice va y.body.args.length vc] 55 (0, 0)) := heap_alloc_new _ _
          clear hr hx hcall hvx hK
          have z0 := blk_cell xb1 0
          have z1 := blk_cell xb1 1
          have z2 := blk_cell xb1 2
          have z3 := blk_cell xb1 3
          simp only [List.getElem?_toArray, List.getElem?_cons_zero, List.getElem?_cons_succ] at z0 z1 z2 z3
          go_wp2_with fail
          clear z0 z1 z2 z3
          generalize (wr.alloc (.cells #[.string y.name, .int .u8 y.ty, .int .i64 y.st, .int .i64 y.df, .int .u8 y.body.op, .int .i64 y.body.n, .string y.body.name, .slice va y.body.args.length vc] 55)) = W1 at *
          refine HC.out.mono ?_
          rintro e w1 ⟨he, hE1⟩
          have hX1 := hAl.trans hE1
          have hX2 := hX.trans hX1
          have xb2 := Ext.heap hE1 xb1
          have fb2 := Ext.heap hE1 fb1
          clear x0 x1 x2 x3
          have f3 := blk_cell fb2 3
          have f4 := blk_cell fb2 4
          have f5 := blk_cell fb2 5
          have f6 := blk_cell fb2 6
          have f7 := blk_cell fb2 7
          simp only [List.getElem?_toArray, List.getElem?_cons_zero, List.getElem?_cons_succ] at f3 f4 f5 f6 f7
          have HFB : Hid (flBad p.st y = (!mayP p.st y.name y.ty y.st || decide (y.df = -9223372036854775808) || !okE 32 200 y.body)) := Lib.hid rfl
          cases hb : mayP p.st y.name y.ty y.st
          · rw [hb] at he
            subst he
            have H2 : Hid ((p.flows.any (flBad p.st)) = true) := by
              show _ = _
              rw [HE.out, HS.out, HFB.out, hb]; rfl
            go_wp2_with fail
            go_ret
            exact retV (by rw [HP3.out, H2.out]; rfl) hX2
          rw [hb] at he
          subst he
          by_cases hd : y.df < -9223372036854775807
          · have hd2 : y.df = -9223372036854775808 := by unfold isI64 at hdf; omega
            have H2 : Hid ((p.flows.any (flBad p.st)) = true) := by
              show _ = _
              rw [HE.out, HS.out, HFB.out, hb, decide_eq_true hd2]; rfl
            clear hd2
            go_wp2_with fail
            go_ret
            exact retV (by rw [HP3.out, H2.out]; rfl) hX2
          have HD : Hid (decide (y.df = -9223372036854775808) = false) := by
            show _ = _
            exact decide_eq_false (by omega)
          go_wp2_with fail
          refine (HK.out _ hX1).mono ?_
          rintro e w2 ⟨he, hE2⟩
          have hX3 := hX2.trans hE2
          have xb3 := Ext.heap hE2 xb2
          cases hok : okE 32 200 y.body
          · rw [hok] at he
            subst he
            have H2 : Hid ((p.flows.any (flBad p.st)) = true) := by
              show _ = _
              rw [HE.out, HS.out, HFB.out, hb, HD.out, hok]; rfl
            go_wp2_with fail
            go_ret
            exact retV (by rw [HP3.out, H2.out]; rfl) hX3
          · rw [hok] at he
            subst he
            have H2 : Hid ((p.flows.any (flBad p.st)) = ((p.flows.drop (k + 1)).any (flBad p.st))) := by
              show _ = _
              rw [HE.out, HS.out, HFB.out, hb, HD.out, hok]; rfl
            clear hX hX1 hX2 hE1 hE2 xb xb1 xb2 fb1 fb2 f3 f4 f5 f6 f7 hAl
            go_wp2_with fail
            go_roundw
            case rel => exact ⟨k + 1, by omega, by go_num, H2.out, hX3, xb3⟩
            case measure => simp [intOf]; omega
        · obtain rfl : k = p.flows.length := by omega
          have H2 := Lib.hid (HE.out.trans (show ((p.flows.drop p.flows.length).any (flBad p.st)) = false by rw [List.drop_length]; rfl))
          have HP4 : Hid (progP p = !(p.outs.any fun s => !nameP s)) := by
            show _ = _
            rw [HP3.out, H2.out]; rfl
          clear HP3 H2 HE
          go_wp2_with fail
          obtain ⟨wo2, rfl⟩ : ∃ wo : World, wo = wr := ⟨_, rfl⟩
          go_loopw [7] (fun i wr => ∃ k : Nat, k ≤ p.outs.length ∧ i = .int .i64 k ∧ (p.outs.any fun s => !nameP s) = ((p.outs.drop k).any fun s => !nameP s) ∧ Ext w wr ∧ wr.heap[w.heap.size]? = some (.cells #[.int .i64 p.st, .slice ai p.ins.length ci, .slice af p.flows.length cf, .slice ao p.outs.length co] 26 (0, 0))) (fun i _ => p.outs.length - (intOf i).toNat)
          case atStart => exact ⟨0, Nat.zero_le _, rfl, rfl, hX, xb⟩
          case round =>
            clear hX xb x0 x1 x2 x3
            obtain ⟨k, hk, rfl, hEq, hX, xb⟩ := hrel
            have x3 := blk_cell xb 3
            simp only [List.getElem?_toArray, List.getElem?_cons_zero, List.getElem?_cons_succ] at x3
            have HE := Lib.hid hEq
            clear hEq
            by_cases hlt : k < p.outs.length
            · have hx : p.outs[k]? = some p.outs[k] := List.getElem?_eq_getElem hlt
              have q1 : (k : Int) < (p.outs.length : Int) := by omega
              have HS := Lib.hid (anyG_at (f := fun s => !nameP s) hx)
              obtain ⟨_, _, e, _, _, _, hr, _⟩ := HO.out.ext hX
              simp only [Value.slice.injEq, true_and] at e
              obtain ⟨rfl, rfl⟩ := e
              obtain ⟨hnm, b, o, rfl, _, hlt2, c0⟩ := hr k _ hx
              generalize p.outs[k] = y at *
              have HC := Lib.hid (refName_one y hnm wr)
              clear hr hx
              go_wp2_with fail
              refine HC.out.mono ?_
              rintro e w1 ⟨he, hE1⟩
              have hX2 := hX.trans hE1
              have xb2 := Ext.heap hE1 xb
              cases hb : nameP y
              · rw [hb] at he
                subst he
                have H2 : Hid ((p.outs.any fun s => !nameP s) = true) := by
                  show _ = _
                  rw [HE.out, HS.out, hb]; rfl
                go_wp2_with fail
                go_ret
                exact retV (by rw [HP4.out, H2.out]; rfl) hX2
              · rw [hb] at he
                subst he
                have H2 : Hid ((p.outs.any fun s => !nameP s) = ((p.outs.drop (k + 1)).any fun s => !nameP s)) := by
                  show _ = _
                  rw [HE.out, HS.out, hb]; rfl
                clear hX hE1 xb
                go_wp2_with fail
                go_roundw
                case rel => exact ⟨k + 1, by omega, by go_num, H2.out, hX2, xb2⟩
                case measure => simp [intOf]; omega
            · obtain rfl : k = p.outs.length := by omega
              have H2 := Lib.hid (HE.out.trans (show ((p.outs.drop p.outs.length).any fun s => !nameP s) = false by rw [List.drop_length]; rfl))
              go_wp2_with fail
              go_ret
              exact retV (by rw [HP4.out, H2.out]; rfl) hX

end Go.Proofs.Ytjdficgejjkaoaa
