/- TypesChecks answers true. -/
import Derived.Test.YtgfidgbkklideaaTyChk
import Derived.Test.YtgfidgbkklideaaLeft
import Derived.Test.YtgfidgbkklideaaTwinP
import Derived.Deep.RegionHeld3
namespace Go.Proofs.Ytgfidgbkklideaa
open Go.RowKit
set_option linter.unusedVariables false
set_option linter.unusedSimpArgs false
theorem pr_form_typesChecks {w : World} {lo : Nat} {t : Bool} {p : PrD} {cs : Array Value} (h : RdPr w lo t p cs) : ∃ ai ci af cf ao co, cs = #[.int .i64 p.st, .slice ai p.ins.length ci, .slice af p.flows.length cf, .slice ao p.outs.length co] := by
  obtain ⟨vi, vf, vo, rfl, _, ⟨ai, ci, rfl, _⟩, ⟨af, cf, rfl, _⟩, ⟨ao, co, rfl, _⟩⟩ := h
  exact ⟨ai, ci, af, cf, ao, co, rfl⟩
theorem pr_lower_typesChecks {w : World} {lo lo' : Nat} {t : Bool} {p : PrD} {cs : Array Value} (h : RdPr w lo t p cs) (hl : lo' ≤ lo) : RdPr w lo' t p cs := by
  obtain ⟨vi, vf, vo, rfl, h1, h2, h3, h4⟩ := h
  exact ⟨vi, vf, vo, rfl, h1, h2.lower hl, h3.lower hl, h4.lower hl⟩
set_option maxHeartbeats 1000000 in
theorem typesChecksGreat (p : PrD) (cs : Array Value) (w : World) (h : RdPr w 0 false p cs) : Calls Try.prog 15 #[.agg cs] w (RetB w) := by
  have hp := fun w' (e : Ext w w') => progSize_any p cs w' (h.ext e)
  obtain ⟨ai, ci, af, cf, ao, co, rfl⟩ := pr_form_typesChecks h
  clear h
  go_enter Try.func15, Try.ntmps15
  go_wp2_with fail
  all_goals first
    | (go_ret; exact ⟨_, rfl, (Chg.refl _ _).alloc _⟩)
    | (refine (hp _ ((Chg.refl _ _).alloc _)).mono ?_
       rintro e w1 ⟨m, rfl, e1⟩
       go_wp2_with fail
       go_ret
       exact ⟨_, rfl, ((Chg.refl _ _).alloc _).trans e1⟩)
set_option maxRecDepth 100000 in
set_option maxHeartbeats 4000000 in
theorem typesChecks_any (p : PrD) (cs : Array Value) (w : World) (h : RdPr w 0 false p cs) : Calls Try.prog 6 #[.agg cs] w (RetT w) := by
  have HP := Lib.hid h
  obtain ⟨ai, ci, af, cf, ao, co, rfl⟩ := pr_form_typesChecks h
  clear h
  have E0 : Ext w (w.alloc (.cells #[.int .i64 p.st, .slice ai p.ins.length ci, .slice af p.flows.length cf, .slice ao p.outs.length co] 26)) := (Chg.refl _ _).alloc _
  have BP := heap_alloc_new w (.cells #[.int .i64 p.st, .slice ai p.ins.length ci, .slice af p.flows.length cf, .slice ao p.outs.length co] 26)
  have HG := Lib.hid (typesChecksGreat p _ _ (HP.out.ext E0))
  go_enter Try.func6, Try.ntmps6
  go_wp2_with fail
  refine HG.out.mono ?_
  rintro e w1 ⟨b, rfl, E1⟩
  have F1 := E0.trans E1
  have BP1 := Ext.heap E1 BP
  clear HG E0 E1 BP
  cases b
  case true =>
    go_wp2_with fail
    go_ret
    exact ⟨rfl, F1⟩
  have y0 := blk_cell BP1 0
  have y1 := blk_cell BP1 1
  have y2 := blk_cell BP1 2
  have y3 := blk_cell BP1 3
  simp only [List.getElem?_toArray, List.getElem?_cons_zero, List.getElem?_cons_succ] at y0 y1 y2 y3
  have HT := Lib.hid (twinProg_any p _ w1 (HP.out.ext F1))
  go_wp2_with fail
  refine HT.out.mono ?_
  rintro e w3 ⟨vi, vf, vo, ps, rfl, ht⟩
  have hr := ht.rd (HP.out.ext F1)
  have E3 := ht.ext
  obtain ⟨_, _, _, e, _, ⟨ti, di, rfl, _⟩, ⟨tf, df, rfl, _⟩, ⟨to_, do_, rfl, _⟩⟩ := id hr
  simp only [Array.mk.injEq, List.cons.injEq, true_and, and_true] at e
  obtain ⟨rfl, rfl, rfl⟩ := e
  have HR := Lib.hid (show RdPr w3 w1.heap.size true p #[.int .i64 p.st, .slice ti p.ins.length di, .slice tf p.flows.length df, .slice to_ p.outs.length do_] from hr)
  have F3 := F1.trans E3
  have BP3 := Ext.heap E3 BP1
  clear ht hr HT y0 y1 y2 y3 BP1 E3 F1
  have K3 : Ext w3 (w3.alloc (.cells #[.int .i64 p.st, .slice ti p.ins.length di, .slice tf p.flows.length df, .slice to_ p.outs.length do_] 26)) := (Chg.refl _ _).alloc _
  have BT4 := heap_alloc_new w3 (.cells #[.int .i64 p.st, .slice ti p.ins.length di, .slice tf p.flows.length df, .slice to_ p.outs.length do_] 26)
  have BP4 := Ext.heap K3 BP3
  have F4 := F3.trans K3
  have R4 := Lib.hid (HR.out.ext K3)
  go_wp2_with fail
  generalize (w3.alloc (.cells #[.int .i64 p.st, .slice ti p.ins.length di, .slice tf p.flows.length df, .slice to_ p.outs.length do_] 26)) = W4 at *
  generalize w3.heap.size = B at *
  have y0 := blk_cell BP4 0
  have y1 := blk_cell BP4 1
  have y2 := blk_cell BP4 2
  have y3 := blk_cell BP4 3
  have t0 := blk_cell BT4 0
  have t1 := blk_cell BT4 1
  have t2 := blk_cell BT4 2
  have t3 := blk_cell BT4 3
  simp only [List.getElem?_toArray, List.getElem?_cons_zero, List.getElem?_cons_succ] at t0 t1 t2 t3 y0 y1 y2 y3
  have S0 : W4.drew.cell? ⟨w.heap.size, 0, none⟩ = some (.int .i64 p.st) ∧ W4.drew.cell? ⟨w.heap.size, 1, none⟩ = some (.slice ai p.ins.length ci) ∧ W4.drew.cell? ⟨w.heap.size, 2, none⟩ = some (.slice af p.flows.length cf) ∧ W4.drew.cell? ⟨w.heap.size, 3, none⟩ = some (.slice ao p.outs.length co) ∧ W4.drew.cell? ⟨B, 0, none⟩ = some (.int .i64 p.st) ∧ W4.drew.cell? ⟨B, 1, none⟩ = some (.slice ti p.ins.length di) ∧ W4.drew.cell? ⟨B, 2, none⟩ = some (.slice tf p.flows.length df) ∧ W4.drew.cell? ⟨B, 3, none⟩ = some (.slice to_ p.outs.length do_) := ⟨y0, y1, y2, y3, t0, t1, t2, t3⟩
  have SE : ∀ X X' : World, (X.cell? ⟨w.heap.size, 0, none⟩ = some (.int .i64 p.st) ∧ X.cell? ⟨w.heap.size, 1, none⟩ = some (.slice ai p.ins.length ci) ∧ X.cell? ⟨w.heap.size, 2, none⟩ = some (.slice af p.flows.length cf) ∧ X.cell? ⟨w.heap.size, 3, none⟩ = some (.slice ao p.outs.length co) ∧ X.cell? ⟨B, 0, none⟩ = some (.int .i64 p.st) ∧ X.cell? ⟨B, 1, none⟩ = some (.slice ti p.ins.length di) ∧ X.cell? ⟨B, 2, none⟩ = some (.slice tf p.flows.length df) ∧ X.cell? ⟨B, 3, none⟩ = some (.slice to_ p.outs.length do_)) → Ext X X' → (X'.cell? ⟨w.heap.size, 0, none⟩ = some (.int .i64 p.st) ∧ X'.cell? ⟨w.heap.size, 1, none⟩ = some (.slice ai p.ins.length ci) ∧ X'.cell? ⟨w.heap.size, 2, none⟩ = some (.slice af p.flows.length cf) ∧ X'.cell? ⟨w.heap.size, 3, none⟩ = some (.slice ao p.outs.length co) ∧ X'.cell? ⟨B, 0, none⟩ = some (.int .i64 p.st) ∧ X'.cell? ⟨B, 1, none⟩ = some (.slice ti p.ins.length di) ∧ X'.cell? ⟨B, 2, none⟩ = some (.slice tf p.flows.length df) ∧ X'.cell? ⟨B, 3, none⟩ = some (.slice to_ p.outs.length do_)) := fun X X' h e => ⟨Ext.cell e h.1, Ext.cell e h.2.1, Ext.cell e h.2.2.1, Ext.cell e h.2.2.2.1, Ext.cell e h.2.2.2.2.1, Ext.cell e h.2.2.2.2.2.1, Ext.cell e h.2.2.2.2.2.2.1, Ext.cell e h.2.2.2.2.2.2.2⟩
  have R4d : RdPr W4.drew w1.heap.size true p #[.int .i64 p.st, .slice ti p.ins.length di, .slice tf p.flows.length df, .slice to_ p.outs.length do_] := R4.out.ext (Chg.refl _ _).drew
  have P4d : RdPr W4.drew 0 false p #[.int .i64 p.st, .slice ai p.ins.length ci, .slice af p.flows.length cf, .slice ao p.outs.length co] := HP.out.ext F4.drew
  have HC1 := Lib.hid (tyCheck_any p _ W4.drew (pr_lower_typesChecks R4d.plain (Nat.zero_le _)))
  have HC2 := Lib.hid (fun (X : World) (hX : Ext W4.drew X) => refTyCheck_any p _ X (P4d.ext hX))
  have HC3 := Lib.hid (fun (X : World) (hX : Ext W4.drew X) => leftProg_any p _ _ X (R4d.ext hX) (P4d.ext hX))
  unfold RetE at HC1 HC2
  generalize typesP p = q at *
  have hqq : (q == q) = true := by simp
  clear y0 y1 y2 y3 t0 t1 t2 t3 R4d P4d K3 BP3 F3 HR
  go_region_held3 (fun X => X.cell? ⟨w.heap.size, 0, none⟩ = some (.int .i64 p.st) ∧ X.cell? ⟨w.heap.size, 1, none⟩ = some (.slice ai p.ins.length ci) ∧ X.cell? ⟨w.heap.size, 2, none⟩ = some (.slice af p.flows.length cf) ∧ X.cell? ⟨w.heap.size, 3, none⟩ = some (.slice ao p.outs.length co) ∧ X.cell? ⟨B, 0, none⟩ = some (.int .i64 p.st) ∧ X.cell? ⟨B, 1, none⟩ = some (.slice ti p.ins.length di) ∧ X.cell? ⟨B, 2, none⟩ = some (.slice tf p.flows.length df) ∧ X.cell? ⟨B, 3, none⟩ = some (.slice to_ p.outs.length do_))
    (first | (with_reducible exact S0) | (with_reducible exact S5) | (with_reducible exact S6) | (with_reducible exact S7))
    (first
      | (go_at_call 20; refine HC1.out.mono ?_; rintro e w5 ⟨rfl, E5⟩; have S5 := SE _ _ S0 E5)
      | (go_at_call 21; refine (HC2.out _ E5).mono ?_; rintro e w6 ⟨rfl, E6⟩; have S6 := SE _ _ S5 E6)
      | (go_at_call 13; refine (HC3.out _ (E5.trans E6)).mono ?_; rintro e w7 ⟨rfl, E7⟩; have S7 := SE _ _ S6 E7))
  go_wp2_with fail
  go_ret
  exact ⟨rfl, ((F4.drew.trans E5).trans E6).trans E7⟩
end Go.Proofs.Ytgfidgbkklideaa

