/- What is proved: for every input the law TypesChanged returns true and leaves its arguments as they were. No condition. -/
import Derived.Test.YtcbdeoekehkbiaaTyAlive
import Derived.Test.YtcbdeoekehkbiaaTyGreat
import Derived.Test.YtcbdeoekehkbiaaTyChg
import Derived.Test.YtcbdeoekehkbiaaOpenP
import Derived.OpenShut
import Derived.ShutString
import Derived.ChangeOld
import Derived.ChangeMaps5
namespace Go.Proofs.Ytcbdeoekehkbiaa
open Go.RowKit
set_option linter.unusedVariables false
set_option linter.unusedSimpArgs false

set_option maxRecDepth 100000 in
set_option maxHeartbeats 8000000 in
theorem typesChanged_any (p : PrD) (cs : Array Value) (x : Ex) (cx : Array Value) (way : Int) (w : World) (h : RdPr w 0 false p cs) (hx : RdEx w 0 false x cx.toList) (hway : isU8 way) : Calls Try.prog 9 #[.agg cs, .agg cx, .int .u8 way] w (RetT w) := by
  obtain ⟨v, hop, hn, hnm, hv, rfl⟩ : ∃ v, isU8 x.op ∧ isI64 x.n ∧ x.name.size ≤ maxLen ∧ RdExV w 0 false x.args v ∧ cx = #[.int .u8 x.op, .int .i64 x.n, .string x.name, v] := by
    obtain ⟨op, n, nm, args⟩ := x
    obtain ⟨v, e, h1, h2, h3, h4⟩ := hx.open
    exact ⟨v, h1, h2, h3, h4, by obtain ⟨l⟩ := cx; have e2 : l = [.int .u8 op, .int .i64 n, .string nm, v] := e; subst e2; rfl⟩
  clear hx
  have HP := Lib.hid h
  have HV := Lib.hid hv
  obtain ⟨a, cap, rfl, _⟩ := hv.form
  clear hv
  obtain ⟨ai, ci, af, cf, ao, co, rfl⟩ := pr_form h
  clear h
  have HA := Lib.hid tyAlive_any
  go_enter Try.func9, Try.ntmps9
  go_wp2_with fail
  have e0 := (Chg.refl (fun _ => False) w).alloc (.cells #[.int .i64 p.st, .slice ai p.ins.length ci, .slice af p.flows.length cf, .slice ao p.outs.length co] 36)
  have bP := heap_alloc_new w (.cells #[.int .i64 p.st, .slice ai p.ins.length ci, .slice af p.flows.length cf, .slice ao p.outs.length co] 36)
  have bX := heap_alloc_new (w.alloc (.cells #[.int .i64 p.st, .slice ai p.ins.length ci, .slice af p.flows.length cf, .slice ao p.outs.length co] 36)) (.cells #[.int .u8 x.op, .int .i64 x.n, .string x.name, .slice a x.args.length cap] 25)
  rw [World.size_alloc] at bX
  have e1 := (Chg.refl (fun _ => False) (w.alloc (.cells #[.int .i64 p.st, .slice ai p.ins.length ci, .slice af p.flows.length cf, .slice ao p.outs.length co] 36))).alloc (.cells #[.int .u8 x.op, .int .i64 x.n, .string x.name, .slice a x.args.length cap] 25)
  have bP := Ext.heap e1 bP
  have e0 := e0.trans e1
  clear e1
  generalize ((w.alloc (.cells #[.int .i64 p.st, .slice ai p.ins.length ci, .slice af p.flows.length cf, .slice ao p.outs.length co] 36)).alloc (.cells #[.int .u8 x.op, .int .i64 x.n, .string x.name, .slice a x.args.length cap] 25)) = W0 at *
  have y0 : ∀ X, Ext W0 X → X.cell? ⟨w.heap.size, 0, none⟩ = some (.int .i64 p.st) := fun X hX => (blk_cell (Ext.heap hX bP) 0).trans rfl
  have y1 : ∀ X, Ext W0 X → X.cell? ⟨w.heap.size, 1, none⟩ = some (.slice ai p.ins.length ci) := fun X hX => (blk_cell (Ext.heap hX bP) 1).trans rfl
  have y2 : ∀ X, Ext W0 X → X.cell? ⟨w.heap.size, 2, none⟩ = some (.slice af p.flows.length cf) := fun X hX => (blk_cell (Ext.heap hX bP) 2).trans rfl
  have y3 : ∀ X, Ext W0 X → X.cell? ⟨w.heap.size, 3, none⟩ = some (.slice ao p.outs.length co) := fun X hX => (blk_cell (Ext.heap hX bP) 3).trans rfl
  have x0 : ∀ X, Ext W0 X → X.cell? ⟨w.heap.size + 1, 0, none⟩ = some (.int .u8 x.op) := fun X hX => (blk_cell (Ext.heap hX bX) 0).trans rfl
  have x1 : ∀ X, Ext W0 X → X.cell? ⟨w.heap.size + 1, 1, none⟩ = some (.int .i64 x.n) := fun X hX => (blk_cell (Ext.heap hX bX) 1).trans rfl
  have x2 : ∀ X, Ext W0 X → X.cell? ⟨w.heap.size + 1, 2, none⟩ = some (.string x.name) := fun X hX => (blk_cell (Ext.heap hX bX) 2).trans rfl
  have x3 : ∀ X, Ext W0 X → X.cell? ⟨w.heap.size + 1, 3, none⟩ = some (.slice a x.args.length cap) := fun X hX => (blk_cell (Ext.heap hX bX) 3).trans rfl
  have ed : ∀ X, Ext W0 X → Ext W0 X.drew := fun X hX => hX.drew
  have ea : ∀ X o, Ext W0 X → Ext W0 (X.alloc o) := fun X o hX => hX.alloc o
  refine (HA.out _).mono ?_
  rintro e w1 ⟨rfl, E1⟩
  have HG := Lib.hid (tyGreat_any p _ _ (HP.out.ext (e0.trans E1)))
  go_wp2_with fail
  refine HG.out.mono ?_
  rintro e w2 ⟨b, rfl, E2'⟩
  have F2 := E1.trans E2'
  clear HG E2' E1
  cases b
  case true =>
    go_wp2_with fail
    refine (HA.out _).mono ?_
    rintro e w3 ⟨rfl, E3⟩
    go_wp2_with fail
    go_ret
    exact ⟨rfl, (e0.trans F2).trans E3⟩
  have HZ := Lib.hid (exprSize_any x _ w2 (HV.out.ext (e0.trans F2)))
  go_wp2_with fail
  refine HZ.out.mono ?_
  rintro e w3 ⟨m, rfl, E3⟩
  have F3 := F2.trans E3
  clear HZ E3 F2
  by_cases hm : 20000 < m
  · go_wp2_with fail
    refine (HA.out _).mono ?_
    rintro e w4 ⟨rfl, E4⟩
    go_wp2_with fail
    go_ret
    exact ⟨rfl, (e0.trans F3).trans E4⟩
  clear HA
  obtain ⟨k, rfl⟩ : ∃ k : Nat, way = k := ⟨_, (Int.toNat_of_nonneg hway.1).symm⟩
  have hk8 : k < 2 ^ 8 ∧ k ≤ 255 := by obtain ⟨_, h⟩ := hway; omega
  have HL := Lib.hid (fun (h : (tyP p x).2 = 0) => ty_chg (tys_of HP.out) (x := x) 8 k h)
  have HO := Lib.hid (tyOf_any p x _ _ w3 (HP.out.ext (e0.trans F3)) (HV.out.ext (e0.trans F3)) hnm)
  have HX := Lib.hid (⟨_, rfl, hop, hn, hnm, HV.out⟩ : ExA w x (.agg #[.int .u8 x.op, .int .i64 x.n, .string x.name, .slice a x.args.length cap]))
  generalize hq : tyP p x = q at *
  clear hq
  obtain ⟨qa, qb⟩ := q
  unfold RetTO at HO
  simp only at HL HO
  go_wp2_with fail
  refine HO.out.mono ?_
  rintro e w4 ⟨rfl, E4⟩
  have F4 := F3.trans E4
  clear HO E4
  by_cases hb : qb = 0
  case neg =>
    have b1 : (qb != 0) = true := by simpa using hb
    go_wp2_with fail
    go_ret
    exact ⟨rfl, e0.trans F4⟩
  subst hb
  obtain ⟨h1, h2⟩ := HL.out rfl
  have hce := changedT_any p 8 _ x _ k w w4 hk8.1 hk8.2 (e0.trans F4) HP.out HX.out
  have HOF := Lib.hid (fun (cs : Array Value) (v : Value) (X : World) (h : RdPr X 0 false p cs) (hv : RdExV X 0 false (chgT p 8 x k).1.args v) (hm : (chgT p 8 x k).1.name.size ≤ maxLen) => tyOf_is p (chgT p 8 x k).1 cs v _ _ X h hv hm h2)
  generalize hy : chgT p 8 x k = yq at *
  obtain ⟨y, yb⟩ := yq
  simp only at h1 h2 hce HOF
  subst h1
  have HCE := Lib.hid hce
  have hk255 := hk8.2
  clear hce hy HL h2 hk8
  have hkw0 : (0 : Int) ≤ (k : Int) := by omega
  have hkw1 : (k : Int) ≤ 255 := by omega
  go_wp2_with fail
  refine HCE.out.mono ?_
  rintro e w5 ⟨u, rfl, E5, hu⟩
  have F5 := F4.trans E5
  obtain ⟨ua, rfl, yo, yn, ym, yv⟩ := hu w5 (Chg.refl _ _)
  have YV := Lib.hid yv
  obtain ⟨uo, uc, rfl, _⟩ := yv.form
  clear hu yv HCE E5
  go_wp2_with fail
  generalize hV : w5.alloc _ = V
  obtain ⟨sV, bV, eV⟩ := chain1 hV
  have FV := F5.trans eV
  clear hV sV
  have hself : (qa == qa) = true := by simp
  refine (HOF.out _ _ _ (HP.out.ext (e0.trans FV)) (YV.out.ext eV) ym).mono ?_
  rintro e w6 ⟨rfl, E6⟩
  go_wp2_with fail
  go_ret
  exact ⟨rfl, (e0.trans FV).trans E6⟩
end Go.Proofs.Ytcbdeoekehkbiaa
namespace Go.Proofs.Ytcbdeoekehkbiaa.rowTypesChanged
open Go.ChangeShapes Go.WideShapes Go.ChangeAt Go.RowKit Go.ChangeMaps
set_option linter.unusedVariables false
theorem own : ownKnob Try.prog.godebug = none := by kernel_rfl
theorem laidOut : laidOutB Try.prog = true := by kernel_rfl
set_option maxHeartbeats 4000000 in
set_option maxRecDepth 100000 in
theorem lifted (os : Os) (started : os.Started) (H : Type) (enc : TypeId × Value → H) :
    ReturnsInHanded {} Try.checked os 9 .any (Rows.typesChangedSpec.pre6 enc Try.prog Try.f9 Rows.typesChangedRow.domain false) (Rows.typesChangedSpec.post enc Try.prog Try.f9 false true false false) := by
  refine returnsInHanded_of_change_sized (C := Try.checked) own started (by kernel_rfl) Try.func9
    (ChangeSpec.witness6 (enc := enc) (C := Try.checked) false ⟨#[], #[.agg #[.int .i64 0, .slice none 0 0, .slice none 0 0, .slice none 0 0], .agg #[.int .u8 0, .int .i64 0, .string ⟨#[]⟩, .slice none 0 0], .int .u8 0], []⟩ 8 (by kernel_rfl) (by kernel_rfl) (by kernel_rfl) (by kernel_rfl)) ?_
  intro W base args ds gs before hval0 hW hcnd hsz0 _
  have hval : ∀ (j : Nat) t v, Try.f9.params[j]? = some t → args[j]? = some v → Value.okWide Try.prog W .any base t v := hval0
  have hsz : (DataW.weightsEach Try.prog (Try.f9.params.toList ++ Rows.typesChangedSpec.plain.varTypes Try.prog) (ds ++ gs)).all (· ≤ reachBytes) = true := hsz0
  have hW' := hW
  obtain ⟨p, q, hA0, hV, rfl, hfz, hnd⟩ := hW
  have hA : DataW.TrodAll enc Try.prog W 0 (fun _ => true) true Try.f9.params.toList args.toList ds p := hA0
  rw [Try.params9] at hA hval hsz
  obtain ⟨v0, vs0, d0, ds0, p0, q0, hargs, rfl, rfl, h0, r0⟩ := trodAll_cons hA
  obtain ⟨v1, vs1, d1, ds1, p1, q1, rfl, rfl, rfl, h1, r1⟩ := trodAll_cons r0
  obtain ⟨v2, vs2, d2, ds2, p2, q2, rfl, rfl, rfl, h2, r2⟩ := trodAll_cons r1
  obtain ⟨rfl, rfl, rfl⟩ := trodAll_nil r2
  obtain rfl : args = #[v0, v1, v2] := by cases args; simp_all
  obtain ⟨rfl, rfl⟩ := trodVars_none hV
  have k0 := h0
  have lt0 : ∀ x ∈ p0, x.block < W.heap.size := by obtain ⟨m, hm⟩ := k0; exact DataW.trod_lt m _ _ _ hm
  have l0 : Lite Try.prog 36 d0 := fun n hn => by simpa using List.all_eq_true.1 hsz n (DataW.weights_mem_each (j := 0) (t := 36) (d := d0) rfl rfl n hn)
  obtain ⟨pd0, cs0, rfl, hx0⟩ := pr_open (agg_of Try.underlying36 (hval 0 36 v0 rfl rfl)) h0 l0
  have k1 := h1
  have lt1 : ∀ x ∈ p1, x.block < W.heap.size := by obtain ⟨m, hm⟩ := k1; exact DataW.trod_lt m _ _ _ hm
  have l1 : Lite Try.prog 25 d1 := fun n hn => by simpa using List.all_eq_true.1 hsz n (DataW.weights_mem_each (j := 1) (t := 25) (d := d1) rfl rfl n hn)
  obtain ⟨pd1, cs1, rfl, hx1⟩ := exv_open (agg_of Try.underlying25 (hval 1 25 v1 rfl rfl)) h1 l1
  obtain ⟨a2, rfl, rfl, rfl, w2⟩ := open_int Try.underlying5 (hval 2 5 v2 rfl rfl) h2
  clear hA0 hval0 hsz0
  refine (typesChanged_any pd0 cs0 pd1 cs1 a2 W hx0 hx1 (wf_u8 w2)).mono fun e W' ⟨he, ext⟩ => ?_
  subst he
  have bel := Ext.below ext
  exact ⟨_, rfl, _, _, _, [], _, [], hW', trodAll_mk1 (shut_bool Try.underlying4 _),
    (trodAll_cons_mk (Below.trod laidOut (by kernel_rfl) (of_decide_eq_true (by kernel_rfl)) k0 bel lt0) (trodAll_cons_mk (Below.trod laidOut (by kernel_rfl) (of_decide_eq_true (by kernel_rfl)) k1 bel lt1) (trodAll_cons_mk (shut_int Try.underlying5 w2) trodAll_mk0))), rfl, bel.frame _, fun h => by cases h⟩
theorem over : Rows.typesChangedRow.holds Try.pinned (OpenSpec.ofChange Rows.typesChangedSpec) :=
  OpenClaim.holds_of_wide 9 Try.f9 rfl rfl rfl rfl rfl rfl rfl ⟨rfl, rfl, rfl, rfl, rfl⟩ rfl rfl rfl rfl rfl (by kernel_rfl) Try.func9 (by kernel_rfl)
    (of_decide_eq_true (by kernel_rfl)) (by unfold Func.isWrapper; first | (rw [if_pos (by decide +kernel)]; kernel_rfl) | (rw [if_neg (by decide +kernel)]; exact ⟨rfl, rfl⟩))
    (fun os started H enc _ => lifted os started H enc)
theorem proved : Rows.TypesChangedSaid := over
#print axioms proved
end Go.Proofs.Ytcbdeoekehkbiaa.rowTypesChanged


