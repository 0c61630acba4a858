/- TypesOf answers true. -/
import Derived.Test.YtgfidgbkklideaaRefTyOf
import Derived.Test.YtgfidgbkklideaaLeft
import Derived.Test.YtgfidgbkklideaaTwinP
namespace Go.Proofs.Ytgfidgbkklideaa
open Go.RowKit
set_option linter.unusedVariables false
theorem pr_lower_typesOf {w : World} {lo lo' : Nat} {t : Bool} {p : PrD} {cs : Array Value} (h : RdPr w lo t p cs) (hl : lo' ≤ lo) : RdPr w lo' t p cs := by
  obtain ⟨vi, vf, vo, rfl, h1, h2, h3, h4⟩ := h
  exact ⟨vi, vf, vo, rfl, h1, h2.lower hl, h3.lower hl, h4.lower hl⟩
set_option maxHeartbeats 1000000 in
theorem typesOfGreat (p : PrD) (cs : Array Value) (w : World) (h : RdPr w 0 false p cs) : Calls Try.prog 15 #[.agg cs] w (RetB w) := by
  have hp := fun w' (e : Ext w w') => progSize_any p cs w' (h.ext e)
  obtain ⟨ai, ci, af, cf, ao, co, rfl⟩ := pr_form h
  clear h
  go_enter Try.func15, Try.ntmps15
  go_wp2_with fail
  all_goals first
    | (go_ret; exact ⟨_, rfl, (Chg.refl _ _).alloc _⟩)
    | (refine (hp _ ((Chg.refl _ _).alloc _)).mono ?_
       rintro e w1 ⟨m, rfl, e1⟩
       go_wp2_with fail
       go_ret
       exact ⟨_, rfl, ((Chg.refl _ _).alloc _).trans e1⟩)
set_option maxRecDepth 100000 in
set_option maxHeartbeats 4000000 in
theorem typesOf_any (p : PrD) (cs : Array Value) (x : Ex) (cx : Array Value) (w : World) (h : RdPr w 0 false p cs) (hx : RdEx w 0 false x cx.toList) : Calls Try.prog 4 #[.agg cs, .agg cx] w (RetT w) := by
  obtain ⟨v, hnm, hv, rfl⟩ : ∃ v, x.name.size ≤ maxLen ∧ RdExV w 0 false x.args v ∧ cx = #[.int .u8 x.op, .int .i64 x.n, .string x.name, v] := by
    obtain ⟨op, n, nm, args⟩ := x
    obtain ⟨v, e, _, _, h3, h4⟩ := hx.open
    exact ⟨v, h3, h4, by obtain ⟨l⟩ := cx; have e2 : l = [.int .u8 op, .int .i64 n, .string nm, v] := e; subst e2; rfl⟩
  clear hx
  have HP := Lib.hid h
  have HV := Lib.hid hv
  obtain ⟨ai, ci, af, cf, ao, co, rfl⟩ := pr_form h
  obtain ⟨a, cap, rfl, _⟩ := hv.form
  clear h hv
  have E0 : Ext w ((w.alloc (.cells #[.int .i64 p.st, .slice ai p.ins.length ci, .slice af p.flows.length cf, .slice ao p.outs.length co] 26)).alloc (.cells #[.int .u8 x.op, .int .i64 x.n, .string x.name, .slice a x.args.length cap] 30)) := ((Chg.refl _ _).alloc _).alloc _
  have BX := heap_alloc_new (w.alloc (.cells #[.int .i64 p.st, .slice ai p.ins.length ci, .slice af p.flows.length cf, .slice ao p.outs.length co] 26)) (.cells #[.int .u8 x.op, .int .i64 x.n, .string x.name, .slice a x.args.length cap] 30)
  rw [World.size_alloc] at BX
  have BP := Ext.heap ((Chg.refl (fun _ => False) (w.alloc (.cells #[.int .i64 p.st, .slice ai p.ins.length ci, .slice af p.flows.length cf, .slice ao p.outs.length co] 26))).alloc (.cells #[.int .u8 x.op, .int .i64 x.n, .string x.name, .slice a x.args.length cap] 30)) (heap_alloc_new w (.cells #[.int .i64 p.st, .slice ai p.ins.length ci, .slice af p.flows.length cf, .slice ao p.outs.length co] 26))
  have HG := Lib.hid (typesOfGreat p _ _ (HP.out.ext E0))
  go_enter Try.func4, Try.ntmps4
  go_wp2_with fail
  refine HG.out.mono ?_
  rintro e w1 ⟨b, rfl, E1⟩
  have F1 := E0.trans E1
  have BX1 := Ext.heap E1 BX
  have BP1 := Ext.heap E1 BP
  clear HG E0 E1 BX BP
  cases b
  case true =>
    go_wp2_with fail
    go_ret
    exact ⟨rfl, F1⟩
  have x0 := blk_cell BX1 0
  have x1 := blk_cell BX1 1
  have x2 := blk_cell BX1 2
  have x3 := blk_cell BX1 3
  simp only [List.getElem?_toArray, List.getElem?_cons_zero, List.getElem?_cons_succ] at x0 x1 x2 x3
  have HZ := Lib.hid (exprSize_any x _ w1 (HV.out.ext F1))
  go_wp2_with fail
  refine HZ.out.mono ?_
  rintro e w2 ⟨m, rfl, E2⟩
  have F2 := F1.trans E2
  have BX2 := Ext.heap E2 BX1
  have BP2 := Ext.heap E2 BP1
  clear HZ E2 BX1 BP1 x0 x1 x2 x3 F1
  by_cases hm : 20000 < m
  · go_wp2_with fail
    go_ret
    exact ⟨rfl, F2⟩
  have y0 := blk_cell BP2 0
  have y1 := blk_cell BP2 1
  have y2 := blk_cell BP2 2
  have y3 := blk_cell BP2 3
  simp only [List.getElem?_toArray, List.getElem?_cons_zero, List.getElem?_cons_succ] at y0 y1 y2 y3
  have HT := Lib.hid (twinProg_any p _ w2 (HP.out.ext F2))
  go_wp2_with fail
  refine HT.out.mono ?_
  rintro e w3 ⟨vi, vf, vo, ps, rfl, ht⟩
  have hr := ht.rd (HP.out.ext F2)
  have E3 := ht.ext
  obtain ⟨_, _, _, e, _, ⟨ti, di, rfl, _⟩, ⟨tf, df, rfl, _⟩, ⟨to_, do_, rfl, _⟩⟩ := id hr
  simp only [Array.mk.injEq, List.cons.injEq, true_and, and_true] at e
  obtain ⟨rfl, rfl, rfl⟩ := e
  have HR := Lib.hid (show RdPr w3 w2.heap.size true p #[.int .i64 p.st, .slice ti p.ins.length di, .slice tf p.flows.length df, .slice to_ p.outs.length do_] from hr)
  have F3 := F2.trans E3
  have BX3 := Ext.heap E3 BX2
  have BP3 := Ext.heap E3 BP2
  clear ht hr HT y0 y1 y2 y3 BX2 BP2 E3 F2 hm
  have K3 : Ext w3 (w3.alloc (.cells #[.int .i64 p.st, .slice ti p.ins.length di, .slice tf p.flows.length df, .slice to_ p.outs.length do_] 26)) := (Chg.refl _ _).alloc _
  have BT3 := heap_alloc_new w3 (.cells #[.int .i64 p.st, .slice ti p.ins.length di, .slice tf p.flows.length df, .slice to_ p.outs.length do_] 26)
  have BX4 := Ext.heap K3 BX3
  have BP4 := Ext.heap K3 BP3
  have F4 := F3.trans K3
  have R4 := Lib.hid (HR.out.ext K3)
  have x0 := blk_cell BX4 0
  have x1 := blk_cell BX4 1
  have x2 := blk_cell BX4 2
  have x3 := blk_cell BX4 3
  simp only [List.getElem?_toArray, List.getElem?_cons_zero, List.getElem?_cons_succ] at x0 x1 x2 x3
  have HU := Lib.hid (twinExpr_any x _ _ (HV.out.ext F4))
  go_wp2_with fail
  refine HU.out.mono ?_
  rintro e w5 ⟨vu, rfl, hvu, E5⟩
  have F5 := F4.trans E5
  have BX5 := Ext.heap E5 BX4
  have BP5 := Ext.heap E5 BP4
  have BT5 := Ext.heap E5 BT3
  have R5 := Lib.hid (R4.out.ext E5)
  obtain ⟨au, cu, rfl, _⟩ := hvu.form
  have K5 : Ext w5 (w5.alloc (.cells #[.int .u8 x.op, .int .i64 x.n, .string x.name, .slice au x.args.length cu] 30)) := (Chg.refl _ _).alloc _
  have BU6 := heap_alloc_new w5 (.cells #[.int .u8 x.op, .int .i64 x.n, .string x.name, .slice au x.args.length cu] 30)
  have BX6 := Ext.heap K5 BX5
  have BP6 := Ext.heap K5 BP5
  have BT6 := Ext.heap K5 BT5
  have F6 := F5.trans K5
  have R6 := Lib.hid (R5.out.ext K5)
  have U6 := Lib.hid (hvu.ext K5)
  clear hvu HU HR R4 R5 x0 x1 x2 x3 K3 K5 E5 F3 F4 F5 BX3 BP3 BT3 BX4 BP4 BX5 BP5 BT5
  have t0 := blk_cell BT6 0
  have t1 := blk_cell BT6 1
  have t2 := blk_cell BT6 2
  have t3 := blk_cell BT6 3
  simp only [List.getElem?_toArray, List.getElem?_cons_zero, List.getElem?_cons_succ] at t0 t1 t2 t3
  have HO := Lib.hid (tyOf_any p x _ _ _ (pr_lower_typesOf R6.out.plain (Nat.zero_le _)) (U6.out.plain.lower (Nat.zero_le _)) hnm)
  go_wp2_with fail
  refine HO.out.mono ?_
  rintro e w7 ⟨rfl, E7⟩
  have F7 := F6.trans E7
  have BX7 := Ext.heap E7 BX6
  have BP7 := Ext.heap E7 BP6
  have BT7 := Ext.heap E7 BT6
  have BU7 := Ext.heap E7 BU6
  have R7 := Lib.hid (R6.out.ext E7)
  have U7 := Lib.hid (U6.out.ext E7)
  have HO2 := Lib.hid (refTyOf_any p x _ _ _ (HP.out.ext F7) (HV.out.ext F7) hnm)
  clear HO t0 t1 t2 t3 BX6 BP6 BT6 BU6 R6 U6 F6 E7
  generalize tyP p x = q at *
  obtain ⟨qa, qb⟩ := q
  have y0 := blk_cell BP7 0
  have y1 := blk_cell BP7 1
  have y2 := blk_cell BP7 2
  have y3 := blk_cell BP7 3
  have x0 := blk_cell BX7 0
  have x1 := blk_cell BX7 1
  have x2 := blk_cell BX7 2
  have x3 := blk_cell BX7 3
  simp only [List.getElem?_toArray, List.getElem?_cons_zero, List.getElem?_cons_succ] at x0 x1 x2 x3 y0 y1 y2 y3
  dsimp only
  go_wp2_with fail
  refine HO2.out.mono ?_
  rintro e w8 ⟨rfl, E8⟩
  have F8 := F7.trans E8
  have BX8 := Ext.heap E8 BX7
  have BP8 := Ext.heap E8 BP7
  have BT8 := Ext.heap E8 BT7
  have BU8 := Ext.heap E8 BU7
  have HL := Lib.hid (leftProg_any p _ _ _ (R7.out.ext E8) (HP.out.ext F8))
  have U8 := Lib.hid (U7.out.ext E8)
  clear HO2 y0 y1 y2 y3 x0 x1 x2 x3 BX7 BP7 BT7 BU7 R7 U7 F7 E8
  have y0 := blk_cell BP8 0
  have y1 := blk_cell BP8 1
  have y2 := blk_cell BP8 2
  have y3 := blk_cell BP8 3
  have t0 := blk_cell BT8 0
  have t1 := blk_cell BT8 1
  have t2 := blk_cell BT8 2
  have t3 := blk_cell BT8 3
  simp only [List.getElem?_toArray, List.getElem?_cons_zero, List.getElem?_cons_succ] at t0 t1 t2 t3 y0 y1 y2 y3
  dsimp only
  go_wp2_with fail
  refine HL.out.mono ?_
  rintro e w9 ⟨rfl, E9⟩
  have F9 := F8.trans E9
  have BX9 := Ext.heap E9 BX8
  have BU9 := Ext.heap E9 BU8
  have HM := Lib.hid (leftExpr_any x _ _ _ _ _ (U8.out.ext E9) (HV.out.ext F9))
  clear HL y0 y1 y2 y3 t0 t1 t2 t3 BX8 BP8 BT8 BU8 F8 E9 U8
  have x0 := blk_cell BX9 0
  have x1 := blk_cell BX9 1
  have x2 := blk_cell BX9 2
  have x3 := blk_cell BX9 3
  have u0 := blk_cell BU9 0
  have u1 := blk_cell BU9 1
  have u2 := blk_cell BU9 2
  have u3 := blk_cell BU9 3
  simp only [List.getElem?_toArray, List.getElem?_cons_zero, List.getElem?_cons_succ] at x0 x1 x2 x3 u0 u1 u2 u3
  go_wp2_with fail
  refine HM.out.mono ?_
  rintro e wa ⟨rfl, Ea⟩
  go_wp2_with fail
  go_ret
  exact ⟨rfl, F9.trans Ea⟩
end Go.Proofs.Ytgfidgbkklideaa

