/- StartsLess answers true. -/
import Derived.Test.YtcbdeoekehkbiaaStAlive
import Derived.Test.YtcbdeoekehkbiaaStGreat
import Derived.Test.YtcbdeoekehkbiaaStChg
namespace Go.Proofs.Ytcbdeoekehkbiaa
open Go.RowKit
set_option linter.unusedVariables false
set_option linter.unusedSimpArgs false

set_option maxRecDepth 100000 in
set_option maxHeartbeats 8000000 in
theorem startsLess_any (p : PrD) (cs : Array Value) (x : Ex) (cx : Array Value) (way : Int) (w : World) (h : RdPr w 0 false p cs) (hx : RdEx w 0 false x cx.toList) (hway : isU8 way) : Calls Try.prog 5 #[.agg cs, .agg cx, .int .u8 way] w (RetT w) := by
  obtain ⟨v, hop, hn, hnm, hv, rfl⟩ : ∃ v, isU8 x.op ∧ isI64 x.n ∧ x.name.size ≤ maxLen ∧ RdExV w 0 false x.args v ∧ cx = #[.int .u8 x.op, .int .i64 x.n, .string x.name, v] := by
    obtain ⟨op, n, nm, args⟩ := x
    obtain ⟨v, e, h1, h2, h3, h4⟩ := hx.open
    exact ⟨v, h1, h2, h3, h4, by obtain ⟨l⟩ := cx; have e2 : l = [.int .u8 op, .int .i64 n, .string nm, v] := e; subst e2; rfl⟩
  clear hx
  have HP := Lib.hid h
  have HV := Lib.hid hv
  obtain ⟨a, cap, rfl, _⟩ := hv.form
  clear hv
  obtain ⟨ai, ci, af, cf, ao, co, rfl⟩ := pr_form h
  clear h
  have HA := Lib.hid stAlive_any
  go_enter Try.func5, Try.ntmps5
  go_wp2_with fail
  have e0 := (Chg.refl (fun _ => False) w).alloc (.cells #[.int .i64 p.st, .slice ai p.ins.length ci, .slice af p.flows.length cf, .slice ao p.outs.length co] 36)
  have bP := heap_alloc_new w (.cells #[.int .i64 p.st, .slice ai p.ins.length ci, .slice af p.flows.length cf, .slice ao p.outs.length co] 36)
  have bX := heap_alloc_new (w.alloc (.cells #[.int .i64 p.st, .slice ai p.ins.length ci, .slice af p.flows.length cf, .slice ao p.outs.length co] 36)) (.cells #[.int .u8 x.op, .int .i64 x.n, .string x.name, .slice a x.args.length cap] 25)
  rw [World.size_alloc] at bX
  have e1 := (Chg.refl (fun _ => False) (w.alloc (.cells #[.int .i64 p.st, .slice ai p.ins.length ci, .slice af p.flows.length cf, .slice ao p.outs.length co] 36))).alloc (.cells #[.int .u8 x.op, .int .i64 x.n, .string x.name, .slice a x.args.length cap] 25)
  have bP := Ext.heap e1 bP
  have e0 := e0.trans e1
  clear e1
  generalize ((w.alloc (.cells #[.int .i64 p.st, .slice ai p.ins.length ci, .slice af p.flows.length cf, .slice ao p.outs.length co] 36)).alloc (.cells #[.int .u8 x.op, .int .i64 x.n, .string x.name, .slice a x.args.length cap] 25)) = W0 at *
  have y0 : ∀ X, Ext W0 X → X.cell? ⟨w.heap.size, 0, none⟩ = some (.int .i64 p.st) := fun X hX => (blk_cell (Ext.heap hX bP) 0).trans rfl
  have y1 : ∀ X, Ext W0 X → X.cell? ⟨w.heap.size, 1, none⟩ = some (.slice ai p.ins.length ci) := fun X hX => (blk_cell (Ext.heap hX bP) 1).trans rfl
  have y2 : ∀ X, Ext W0 X → X.cell? ⟨w.heap.size, 2, none⟩ = some (.slice af p.flows.length cf) := fun X hX => (blk_cell (Ext.heap hX bP) 2).trans rfl
  have y3 : ∀ X, Ext W0 X → X.cell? ⟨w.heap.size, 3, none⟩ = some (.slice ao p.outs.length co) := fun X hX => (blk_cell (Ext.heap hX bP) 3).trans rfl
  have x0 : ∀ X, Ext W0 X → X.cell? ⟨w.heap.size + 1, 0, none⟩ = some (.int .u8 x.op) := fun X hX => (blk_cell (Ext.heap hX bX) 0).trans rfl
  have x1 : ∀ X, Ext W0 X → X.cell? ⟨w.heap.size + 1, 1, none⟩ = some (.int .i64 x.n) := fun X hX => (blk_cell (Ext.heap hX bX) 1).trans rfl
  have x2 : ∀ X, Ext W0 X → X.cell? ⟨w.heap.size + 1, 2, none⟩ = some (.string x.name) := fun X hX => (blk_cell (Ext.heap hX bX) 2).trans rfl
  have x3 : ∀ X, Ext W0 X → X.cell? ⟨w.heap.size + 1, 3, none⟩ = some (.slice a x.args.length cap) := fun X hX => (blk_cell (Ext.heap hX bX) 3).trans rfl
  have ed : ∀ X, Ext W0 X → Ext W0 X.drew := fun X hX => hX.drew
  have ea : ∀ X o, Ext W0 X → Ext W0 (X.alloc o) := fun X o hX => hX.alloc o
  refine (HA.out _).mono ?_
  rintro e w1 ⟨rfl, E1⟩
  have HG := Lib.hid (stGreat_any p _ _ (HP.out.ext (e0.trans E1)))
  go_wp2_with fail
  refine HG.out.mono ?_
  rintro e w2 ⟨b, rfl, E2'⟩
  have F2 := E1.trans E2'
  clear HG E2' E1
  cases b
  case true =>
    go_wp2_with fail
    refine (HA.out _).mono ?_
    rintro e w3 ⟨rfl, E3⟩
    go_wp2_with fail
    go_ret
    exact ⟨rfl, (e0.trans F2).trans E3⟩
  have HZ := Lib.hid (exprSize_any x _ w2 (HV.out.ext (e0.trans F2)))
  go_wp2_with fail
  refine HZ.out.mono ?_
  rintro e w3 ⟨m, rfl, E3⟩
  have F3 := F2.trans E3
  clear HZ E3 F2
  by_cases hm : 20000 < m
  · go_wp2_with fail
    refine (HA.out _).mono ?_
    rintro e w4 ⟨rfl, E4⟩
    go_wp2_with fail
    go_ret
    exact ⟨rfl, (e0.trans F3).trans E4⟩
  clear HA
  obtain ⟨k, rfl⟩ : ∃ k : Nat, way = k := ⟨_, (Int.toNat_of_nonneg hway.1).symm⟩
  have hk8 : k < 2 ^ 8 ∧ k ≤ 255 := by obtain ⟨_, h⟩ := hway; omega
  have HL := Lib.hid (fun (h : (stP p x).2 = 0) => st_less (p := p) (x := x) 8 k h)
  have HO := Lib.hid (stOf_any p x _ _ w3 (HP.out.ext (e0.trans F3)) (HV.out.ext (e0.trans F3)) hnm)
  have HX := Lib.hid (⟨_, rfl, hop, hn, hnm, HV.out⟩ : ExA w x (.agg #[.int .u8 x.op, .int .i64 x.n, .string x.name, .slice a x.args.length cap]))
  generalize hq : stP p x = q at *
  clear hq
  obtain ⟨qa, qb⟩ := q
  simp only at HL HO
  go_wp2_with fail
  refine HO.out.mono ?_
  rintro e w4 ⟨rfl, E4⟩
  have F4 := F3.trans E4
  clear HO E4
  by_cases hb : qb = 0
  case neg =>
    have b1 : (qb != 0) = true := by simpa using hb
    go_wp2_with fail
    go_ret
    exact ⟨rfl, e0.trans F4⟩
  subst hb
  obtain ⟨h1, h2, h3⟩ := HL.out rfl
  have hce := fun (X : World) (hX : Ext w X) => changed_any 8 x _ k w X hk8.1 hk8.2 hX HX.out
  have HCE := Lib.hid hce
  have HOF := Lib.hid (fun (cs : Array Value) (v : Value) (X : World) (h : RdPr X 0 false p cs) (hv : RdExV X 0 false (chgE 8 x k).args v) (hm : (chgE 8 x k).name.size ≤ maxLen) => stOf_any p (chgE 8 x k) cs v X h hv hm)
  generalize hy : chgE 8 x k = y at *
  generalize hr : stP p y = r at *
  clear hr hce hy HL
  obtain ⟨ra, rb⟩ := r
  simp only at h1 h2 h3 HOF
  subst h1
  have ED : Ext W0 w4.drew := F4.drew
  have hwr : IntKind.i64.wrap (k : Int) = (k : Int) := by rw [IntKind.wrap_i64] <;> omega
  go_wp2_with fail
  go_region_held3 (fun X => Ext W0 X) (first | assumption)
    (first
      | (go_at_call 22; refine (HCE.out _ (e0.trans ED)).mono ?_; rintro e w7 ⟨u, rfl, E7, hu⟩; have F7 := ED.trans E7; obtain ⟨ua, rfl, _, _, yn, yv⟩ := hu w7 (Chg.refl _ _); have YV := Lib.hid yv; obtain ⟨uo, uc, rfl, _⟩ := yv.form; clear yv hu)
      | (go_at_call 20; refine (HOF.out _ _ _ (HP.out.ext (e0.trans F7)) YV.out yn).mono ?_; rintro e w8 ⟨rfl, E8⟩; have F8 := F7.trans E8))
  have c1 : ¬ qa < ra := by omega
  have c2 : ¬ ra < 0 := by omega
  go_wp2_with fail
  go_ret
  exact ⟨rfl, e0.trans F8⟩
end Go.Proofs.Ytcbdeoekehkbiaa
