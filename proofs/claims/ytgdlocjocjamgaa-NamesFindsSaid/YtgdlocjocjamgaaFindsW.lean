/- NamesFinds answers true. -/
import Derived.Test.YtgdlocjocjamgaaFindN
import Derived.Test.YtgdlocjocjamgaaTwinP
namespace Go.Proofs.Ytgdlocjocjamgaa
open Go.RowKit
set_option linter.unusedVariables false
theorem RdPr.lower {w : World} {lo lo' : Nat} {t : Bool} {p : PrD} {cs : Array Value} (h : RdPr w lo t p cs) (hl : lo' ≤ lo) : RdPr w lo' t p cs := by
  obtain ⟨vi, vf, vo, rfl, h1, h2, h3, h4⟩ := h
  exact ⟨vi, vf, vo, rfl, h1, h2.lower hl, h3.lower hl, h4.lower hl⟩
theorem RdPr.form {w : World} {lo : Nat} {t : Bool} {p : PrD} {cs : Array Value} (h : RdPr w lo t p cs) : ∃ ai ci af cf ao co, cs = progC p ai af ao ci cf co := by
  obtain ⟨vi, vf, vo, rfl, _, ⟨ai, ci, rfl, _⟩, ⟨af, cf, rfl, _⟩, ⟨ao, co, rfl, _⟩⟩ := h
  exact ⟨ai, ci, af, cf, ao, co, rfl⟩
theorem progC_cells {w : World} {b : Nat} {p : PrD} {ai af ao : Option Addr} {ci cf co : Nat} (h : w.heap[b]? = some (.cells (progC p ai af ao ci cf co) 26 (0, 0))) : w.cell? ⟨b, 0, none⟩ = some (.int .i64 p.st) ∧
    w.cell? ⟨b, 1, none⟩ = some (.slice ai p.ins.length ci) ∧ w.cell? ⟨b, 2, none⟩ = some (.slice af p.flows.length cf) ∧ w.cell? ⟨b, 3, none⟩ = some (.slice ao p.outs.length co) := ⟨blk_cell h 0, blk_cell h 1, blk_cell h 2, blk_cell h 3⟩
set_option maxRecDepth 100000 in
set_option maxHeartbeats 4000000 in
theorem namesFinds_any (p : PrD) (cs : Array Value) (s : ByteArray) (w : World) (h : RdPr w 0 false p cs) (hs : s.size ≤ maxLen) : Calls Try.prog 3 #[.agg cs, .string s] w (RetT w) := by
  have hfind : ∀ (cs : Array Value) (w : World), RdPr w 0 false p cs → Calls Try.prog 12 #[.agg cs, .string s] w (RetFind w p s) := fun cs w h => find_any p s cs w h
  obtain ⟨ai, ci, af, cf, ao, co, rfl⟩ := h.form
  have h0 : RdPr w 0 false p (progC p ai af ao ci cf co) := h
  have HP := Lib.hid h0
  clear h h0
  unfold progC
  go_enter Try.func3, Try.ntmps3
  go_wp2_with fail
  have e0 : Ext w (w.alloc (.cells (progC p ai af ao ci cf co) 26)) := (Chg.refl _ _).alloc _
  have bp : (w.alloc (.cells (progC p ai af ao ci cf co) 26)).heap[w.heap.size]? = some (.cells (progC p ai af ao ci cf co) 26 (0, 0)) := heap_alloc_new _ _
  refine (great_any p _ _ (HP.out.ext e0)).mono ?_
  rintro e w1 ⟨b, rfl, e1⟩
  have E1 := e0.trans e1
  have bp1 := Ext.heap e1 bp
  clear e0 bp e1
  cases b
  · go_wp2_with fail
    refine (beyond_one _ _ _ _ (World.cell?_alloc_new _ _ _ _)).mono ?_
    rintro e w2 ⟨b, rfl, e2⟩
    have E2 : Ext w w2 := (E1.alloc _).trans e2
    have bp2 := Ext.heap e2 (Ext.heap ((Chg.refl _ _).alloc _) bp1)
    clear E1 bp1 e2
    cases b
    · obtain ⟨r0, r1, r2, r3⟩ := progC_cells bp2
      go_wp2_with fail
      refine (twinProg_any p _ _ (HP.out.ext E2)).mono ?_
      rintro e w3 ⟨vi, vf, vo, ps, rfl, ht⟩
      have hr := ht.rd (HP.out.ext E2)
      have he3 := ht.ext
      obtain ⟨_, _, _, e, _, ⟨ti, di, rfl, _⟩, ⟨tf, df, rfl, _⟩, ⟨to_, do_, rfl, _⟩⟩ := id hr
      simp only [Array.mk.injEq, List.cons.injEq, true_and, and_true] at e
      obtain ⟨rfl, rfl, rfl⟩ := e
      have E3 : Ext w w3 := E2.trans he3
      have bp3 := Ext.heap he3 bp2
      have HR := Lib.hid (show RdPr w3 w2.heap.size true p (progC p ti tf to_ di df do_) from hr)
      clear ht hr he3 E2 bp2 r0 r1 r2 r3
      have bt : (w3.alloc (.cells (progC p ti tf to_ di df do_) 26)).heap[w3.heap.size]? = some (.cells (progC p ti tf to_ di df do_) 26 (0, 0)) := heap_alloc_new _ _
      have e4 : Ext w3 (w3.alloc (.cells (progC p ti tf to_ di df do_) 26)) := (Chg.refl _ _).alloc _
      have bp4 := Ext.heap e4 bp3
      obtain ⟨r0, r1, r2, r3⟩ := progC_cells bp4
      obtain ⟨u0, u1, u2, u3⟩ := progC_cells bt
      go_wp2_with fail
      refine (hfind _ _ ((HR.out.plain.lower (Nat.zero_le _)).ext e4)).mono ?_
      rintro e w5 ⟨rfl, e5⟩
      have E5 : Ext w w5 := (E3.trans e4).trans e5
      have bp5 := Ext.heap e5 bp4
      have bt5 := Ext.heap e5 bt
      have hf : ∀ w', Ext w w' → Calls Try.prog 13 #[.agg (progC p ai af ao ci cf co), .string s] w' (RetFind w' p s) := fun w' e => refFind_any p s _ w' (HP.out.ext e)
      unfold RetFind at hf
      generalize findP s p.flows p.ins = q at *
      obtain ⟨qa, qb, qc, qd⟩ := q
      have HF := Lib.hid hf
      clear hf
      unfold fourV
      clear r0 r1 r2 r3 u0 u1 u2 u3 bp3 bp4 bt
      obtain ⟨r0, r1, r2, r3⟩ := progC_cells bp5
      dsimp only
      go_wp2_with fail
      refine (HF.out _ E5).mono ?_
      rintro e w6 ⟨rfl, e6⟩
      have E6 : Ext w w6 := E5.trans e6
      have bp6 := Ext.heap e6 bp5
      have bt6 := Ext.heap e6 bt5
      unfold fourV
      dsimp only
      clear r0 r1 r2 r3
      obtain ⟨r0, r1, r2, r3⟩ := progC_cells bp6
      obtain ⟨u0, u1, u2, u3⟩ := progC_cells bt6
      go_wp2_with fail
      refine (leftProg_any p _ _ _ (HR.out.ext ((e4.trans e5).trans e6)) (HP.out.ext E6)).mono ?_
      rintro e w7 ⟨rfl, e7⟩
      go_wp2_with fail
      go_ret
      exact ⟨rfl, E6.trans e7⟩
    · go_wp2_with fail
      go_ret
      exact ⟨rfl, E2⟩
  · go_wp2_with fail
    go_ret
    exact ⟨rfl, E1⟩
end Go.Proofs.Ytgdlocjocjamgaa
