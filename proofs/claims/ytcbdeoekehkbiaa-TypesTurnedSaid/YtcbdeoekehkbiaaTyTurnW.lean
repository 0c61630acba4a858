/- TypesTurned answers true. -/
import Derived.Test.YtcbdeoekehkbiaaTyAlive
import Derived.Test.YtcbdeoekehkbiaaTyGreat
import Derived.Test.YtcbdeoekehkbiaaTyTurnP
import Derived.Deep.Cut
namespace Go.Proofs.Ytcbdeoekehkbiaa
open Go.RowKit
set_option linter.unusedVariables false
set_option linter.unusedSimpArgs false

/-- After so many rounds: the flows from behind, at station 1. -/
def TurnSt (p : PrD) (w : World) (i : Nat) (ps : List (FlD × Value)) : Prop := ps.length = p.flows.length ∧ ∀ (j : Nat) (x : FlD), j < i → p.flows[p.flows.length - 1 - j]? = some x → ∃ u, ps[j]? = some (stF x, u) ∧ RdExV w 0 false x.body.args u
set_option maxRecDepth 100000 in
set_option maxHeartbeats 8000000 in
theorem typesTurned_any (p : PrD) (cs : Array Value) (w : World) (h : RdPr w 0 false p cs) : Calls Try.prog 12 #[.agg cs] w (RetT w) := by
  have HP := Lib.hid h
  obtain ⟨ai, ci, af, cf, ao, co, rfl⟩ := pr_form h
  clear h
  have HA := Lib.hid tyAlive_any
  go_enter Try.func12, Try.ntmps12
  go_wp2_with fail
  have e0 := (Chg.refl (fun _ => False) w).alloc (.cells #[.int .i64 p.st, .slice ai p.ins.length ci, .slice af p.flows.length cf, .slice ao p.outs.length co] 36)
  have bP := heap_alloc_new w (.cells #[.int .i64 p.st, .slice ai p.ins.length ci, .slice af p.flows.length cf, .slice ao p.outs.length co] 36)
  generalize (w.alloc (.cells #[.int .i64 p.st, .slice ai p.ins.length ci, .slice af p.flows.length cf, .slice ao p.outs.length co] 36)) = W0 at *
  have y0 : ∀ X, Ext W0 X → X.cell? ⟨w.heap.size, 0, none⟩ = some (.int .i64 p.st) := fun X hX => (blk_cell (Ext.heap hX bP) 0).trans rfl
  have y1 : ∀ X, Ext W0 X → X.cell? ⟨w.heap.size, 1, none⟩ = some (.slice ai p.ins.length ci) := fun X hX => (blk_cell (Ext.heap hX bP) 1).trans rfl
  have y2 : ∀ X, Ext W0 X → X.cell? ⟨w.heap.size, 2, none⟩ = some (.slice af p.flows.length cf) := fun X hX => (blk_cell (Ext.heap hX bP) 2).trans rfl
  have y3 : ∀ X, Ext W0 X → X.cell? ⟨w.heap.size, 3, none⟩ = some (.slice ao p.outs.length co) := fun X hX => (blk_cell (Ext.heap hX bP) 3).trans rfl
  have ed : ∀ X, Ext W0 X → Ext W0 X.drew := fun X hX => hX.drew
  have ea : ∀ X o, Ext W0 X → Ext W0 (X.alloc o) := fun X o hX => hX.alloc o
  refine (HA.out _).mono ?_
  rintro e w1 ⟨rfl, E1⟩
  have HG := Lib.hid (tyGreat_any p _ _ (HP.out.ext (e0.trans E1)))
  go_wp2_with fail
  refine HG.out.mono ?_
  rintro e w2 ⟨b, rfl, E2'⟩
  have F2 := E1.trans E2'
  clear HG E2' E1
  cases b
  case true =>
    go_wp2_with fail
    refine (HA.out _).mono ?_
    rintro e w3 ⟨rfl, E3⟩
    go_wp2_with fail
    go_ret
    exact ⟨rfl, (e0.trans F2).trans E3⟩
  clear HA
  have F3 := F2
  clear F2
  have HC := Lib.hid (tyCheck_any p _ _ (HP.out.ext (e0.trans F3)))
  go_wp2_with fail
  refine HC.out.mono ?_
  rintro e w3 ⟨rfl, E3'⟩
  have F4 := F3.trans E3'
  clear HC E3' F3
  by_cases hn : typesP p = 1
  case pos =>
    have bn : (typesP p == 1) = true := by simpa using hn
    generalize typesP p = n at *
    clear hn
    go_wp2_with fail
    go_ret
    exact ⟨rfl, e0.trans F4⟩
  have bn : (typesP p == 1) = false := by simpa using hn
  have HN := Lib.hid hn
  clear hn
  have HQT := Lib.hid (turnS_types HN.out)
  have HT := Lib.hid (twinProg_any p _ w3 (HP.out.ext (e0.trans F4)))
  have HCK := Lib.hid (fun (cs : Array Value) (X : World) (h : RdPr X 0 false (turnS p) cs) => tyCheck_any (turnS p) cs X h)
  have hTE := HQT.out
  generalize typesP (turnS p) = nq at *
  subst hTE
  generalize typesP p = n at *
  clear HN HQT
  go_wp2_with fail
  refine HT.out.mono ?_
  rintro e w4 ⟨vi, vf, vo, qs, rfl, ht⟩
  obtain ⟨ti, di, rfl, _⟩ : ∃ ti di, vi = .slice ti p.ins.length di ∧ True := by obtain ⟨g, _, h, _⟩ := ht.ins.block; exact ⟨_, _, h, trivial⟩
  obtain ⟨to_, do_, rfl, _⟩ : ∃ ti di, vo = .slice ti p.outs.length di ∧ True := by obtain ⟨g, _, h, _⟩ := ht.outs.block; exact ⟨_, _, h, trivial⟩
  obtain ⟨g, cur0, rfl, hg0, hgb, hgs⟩ := ht.flows.block
  have HTW := Lib.hid ht
  have hqs : qs.length = p.flows.length := by rw [← ht.fst, List.length_map]
  have hsh := TwRow.short ht.flows
  rw [← hqs, take_flat flP_len, hqs] at hsh
  obtain ⟨cur, hcur, hsz, hrow, hc1, hc2, hgb2⟩ := RowOf.own (r := []) (ps := qs) flP_len (by simpa using hsh)
  have F5 := F4.trans ht.ext
  clear ht HT hgb hgs hsh cur0
  have hgw : g < w4.heap.size := lt_of_block hcur
  go_upto_region 7 with (fail)
  generalize hV : w4.alloc _ = V
  obtain ⟨sV, bV, eV⟩ := chain1 hV
  clear hV
  generalize hQ : w4.heap.size = Q at *
  have HQ := Lib.hid hQ
  clear hQ
  have F6 := F5.trans eV
  have hcurV := Ext.heap eV hcur
  have ec : ∀ X, Chg (fun q => q = g) V X → Ext W0 X := fun X h => Ext.then F6 h (fun b hb => by have := F4.size; omega)
  have hQg : Q ≠ g := by have := HQ.out; omega
  have z0 : ∀ X, Chg (fun q => q = g) V X → X.cell? ⟨Q, 0, none⟩ = some (.int .i64 p.st) := fun X hX => (blk_cell (hX.heap bV hQg) 0).trans rfl
  have z1 : ∀ X, Chg (fun q => q = g) V X → X.cell? ⟨Q, 1, none⟩ = some (.slice ti p.ins.length di) := fun X hX => (blk_cell (hX.heap bV hQg) 1).trans rfl
  have z2 : ∀ X, Chg (fun q => q = g) V X → X.cell? ⟨Q, 2, none⟩ = some (.slice (some ⟨g, 0, none⟩) p.flows.length (p.flows.length + 1)) := fun X hX => (blk_cell (hX.heap bV hQg) 2).trans rfl
  have z3 : ∀ X, Chg (fun q => q = g) V X → X.cell? ⟨Q, 3, none⟩ = some (.slice to_ p.outs.length do_) := fun X hX => (blk_cell (hX.heap bV hQg) 3).trans rfl
  obtain ⟨_, _, _, eqh, hst, hi, hf, ho⟩ := HP.out
  simp only [Array.mk.injEq, List.cons.injEq, and_true, true_and] at eqh
  obtain ⟨rfl, rfl, rfl⟩ := eqh
  have HF := Lib.hid hf
  have HI := Lib.hid hi
  have HO := Lib.hid ho
  have h96 : p.flows.length * 96 ≤ 140737488351232 := by obtain ⟨_, _, _, h, _⟩ := hf.form; exact h
  have n1 : p.flows.length ≤ 9000000000000000000 := by omega
  have HCV := Lib.hid hcurV
  have hts : TurnSt p w 0 qs := ⟨hqs, fun j x hj => absurd hj (Nat.not_lt_zero _)⟩
  clear hf hi ho hqs hcur
  go_wp2_with fail
  go_loopw [6] (fun iv wr => ∃ (i : Nat) (cur : Array Value) (ps : List (FlD × Value)), i ≤ p.flows.length ∧ iv = .int .i64 i ∧ wr.heap[g]? = some (.cells cur 50 (0, 0)) ∧ cur.size = (p.flows.length + 1) * 8 ∧ RowOf flP 8 cur ps ∧ TurnSt p w i ps ∧ Chg (fun q => q = g) V wr) (fun i _ => p.flows.length - (intOf i).toNat)
  case atStart => exact ⟨0, cur, qs, Nat.zero_le _, rfl, hcurV, hsz, hrow, hts, Chg.refl _ _⟩
  case round =>
    clear hcurV hsz hrow hts
    obtain ⟨i, cur, ps, hi, rfl, hcur, hsz, hrow, hts, rC⟩ := hrel
    by_cases hlt : i < p.flows.length
    · have hx : p.flows[p.flows.length - 1 - i]? = some p.flows[p.flows.length - 1 - i] := List.getElem?_eq_getElem (by omega)
      have q1 : (i : Int) < (p.flows.length : Int) := by omega
      obtain ⟨_, _, e, _, _, _, hr, _⟩ := HF.out
      simp only [Value.slice.injEq, true_and] at e
      obtain ⟨rfl, rfl⟩ := e
      obtain ⟨_, _, _, _, b, o, rfl, _, _, c0, c1, c2, c3, _, _, _, v, hvx, c4, c5, c6, c7⟩ := hr _ _ hx
      obtain ⟨va, vc, rfl, _⟩ := hvx.form
      have HX := Lib.hid hx
      have m1 : (0 : Int) ≤ (p.flows.length : Int) - 1 - (i : Int) := by omega
      have m2 : (p.flows.length : Int) - 1 - (i : Int) < (p.flows.length : Int) := by omega
      have m3 : ((p.flows.length : Int) - 1 - (i : Int)).toNat = p.flows.length - 1 - i := by omega
      have m4 : IntKind.i64.wrap ((p.flows.length : Int) - 1) = (p.flows.length : Int) - 1 := by rw [IntKind.wrap_i64] <;> omega
      have m5 : IntKind.i64.wrap ((p.flows.length : Int) - 1 - (i : Int)) = (p.flows.length : Int) - 1 - (i : Int) := by rw [IntKind.wrap_i64] <;> omega
      generalize p.flows[p.flows.length - 1 - i] = x at *
      have rE := ec _ rC
      have d0 := Ext.cell (e0.trans rE) c0
      have d1 := Ext.cell (e0.trans rE) c1
      have d2 := Ext.cell (e0.trans rE) c2
      have d3 := Ext.cell (e0.trans rE) c3
      have d4 := Ext.cell (e0.trans rE) c4
      have d5 := Ext.cell (e0.trans rE) c5
      have d6 := Ext.cell (e0.trans rE) c6
      have d7 := Ext.cell (e0.trans rE) c7
      have yy2 := y2 wr rE
      have zz2 := z2 wr rC
      have hu : ∀ c, c < 8 → ∃ u, wr.cell? ⟨g, i * 8 + c, none⟩ = some u := fun c hc => by
        have h8 : i * 8 + c < cur.size := by omega
        exact ⟨cur[i * 8 + c], (blk_cell hcur _).trans (Array.getElem?_eq_getElem h8)⟩
      obtain ⟨u0, t0⟩ := hu 0 (by omega)
      obtain ⟨u1, t1⟩ := hu 1 (by omega)
      obtain ⟨u2, t2⟩ := hu 2 (by omega)
      obtain ⟨u3, t3⟩ := hu 3 (by omega)
      obtain ⟨u4, t4⟩ := hu 4 (by omega)
      obtain ⟨u5, t5⟩ := hu 5 (by omega)
      obtain ⟨u6, t6⟩ := hu 6 (by omega)
      obtain ⟨u7, t7⟩ := hu 7 (by omega)
      rw [Nat.add_zero] at t0
      have hfz : ∀ j, wr.frozen? ⟨g, j, none⟩ = false := fun j => blk_free hcur j
      have f0 := hfz (i * 8)
      have f1 := hfz (i * 8 + 1)
      have f2 := hfz (i * 8 + 2)
      have f3 := hfz (i * 8 + 3)
      have f4 := hfz (i * 8 + 4)
      have f5 := hfz (i * 8 + 5)
      have f6 := hfz (i * 8 + 6)
      have f7 := hfz (i * 8 + 7)
      have HVX := Lib.hid hvx
      have C8 := chg_set8 wr g (i * 8) (.string x.name) (.int .u8 x.ty) (.int .i64 x.st) (.int .i64 x.df) (.int .u8 x.body.op) (.int .i64 x.body.n) (.string x.body.name) (.slice va x.body.args.length vc)
      have G8 := blk_set8 hcur (i * 8) (.string x.name) (.int .u8 x.ty) (.int .i64 x.st) (.int .i64 x.df) (.int .u8 x.body.op) (.int .i64 x.body.n) (.string x.body.name) (.slice va x.body.args.length vc)
      have HC8 := Lib.hid (rC.trans C8)
      have HG8 := Lib.hid G8
      clear hr hx hu hfz hvx c0 c1 c2 c3 c4 c5 c6 c7 C8 G8
      have HY2 := Lib.hid y2
      have HZ2 := Lib.hid z2
      clear y0 y1 y2 y3 z0 z1 z2 z3
      go_wp2_with fail
      go_region
      generalize hW8 : ((((((((wr.setCell ⟨g, i * 8, none⟩ (.string x.name)).setCell ⟨g, i * 8 + 1, none⟩ (.int .u8 x.ty)).setCell ⟨g, i * 8 + 2, none⟩ (.int .i64 x.st)).setCell ⟨g, i * 8 + 3, none⟩ (.int .i64 x.df)).setCell ⟨g, i * 8 + 4, none⟩ (.int .u8 x.body.op)).setCell ⟨g, i * 8 + 4 + 1, none⟩ (.int .i64 x.body.n)).setCell ⟨g, i * 8 + 4 + 2, none⟩ (.string x.body.name)).setCell ⟨g, i * 8 + 4 + 3, none⟩ (.slice va x.body.args.length vc)) = W8
      have CW : Chg (fun q => q = g) V W8.drew := (show Chg (fun q => q = g) V W8 by rw [← hW8]; exact HC8.out).drew
      have GW : W8.drew.heap[g]? = some (.cells (set8 cur (i * 8) (.string x.name) (.int .u8 x.ty) (.int .i64 x.st) (.int .i64 x.df) (.int .u8 x.body.op) (.int .i64 x.body.n) (.string x.body.name) (.slice va x.body.args.length vc)) 50 (0, 0)) := by
        rw [drew_heap, ← hW8]
        exact HG8.out
      have RW := hrow.set8 (k := i) (q := (x, .slice va x.body.args.length vc)) (by rw [hts.1]; exact hlt) (by omega) (v0 := .string x.name) (v1 := .int .u8 x.ty) (v2 := .int .i64 x.st) (v3 := .int .i64 x.df) (v4 := .int .u8 x.body.op) (v5 := .int .i64 x.body.n) (v6 := .string x.body.name) (v7 := .slice va x.body.args.length vc) rfl
      have SW := set8_size cur (i * 8) (.string x.name) (.int .u8 x.ty) (.int .i64 x.st) (.int .i64 x.df) (.int .u8 x.body.op) (.int .i64 x.body.n) (.string x.body.name) (.slice va x.body.args.length vc)
      generalize set8 cur (i * 8) (.string x.name) (.int .u8 x.ty) (.int .i64 x.st) (.int .i64 x.df) (.int .u8 x.body.op) (.int .i64 x.body.n) (.string x.body.name) (.slice va x.body.args.length vc) = cur8 at *
      generalize W8.drew = W9 at *
      have hz := HZ2.out W9 CW
      have hg2 : W9.cell? ⟨g, i * 8 + 2, none⟩ = some (.int .i64 x.st) := by
        rw [blk_cell GW, RW i (x, .slice va x.body.args.length vc) (by rw [List.getElem?_set_self (by rw [hts.1]; exact hlt)]) 2 (by omega)]
        rfl
      have hfr := blk_free GW (i * 8 + 2)
      have RX := RW.set (j := 2) (x' := (stF x, .slice va x.body.args.length vc)) (u := .int .i64 1) (by rw [List.getElem?_set_self (by rw [hts.1]; exact hlt)]) (by omega) (by omega) (fun c hc hne => by
        match c, hc, hne with
        | 0, _, _ => rfl
        | 1, _, _ => rfl
        | 2, _, hne => exact absurd rfl hne
        | 3, _, _ => rfl
        | 4, _, _ => rfl
        | 5, _, _ => rfl
        | 6, _, _ => rfl
        | 7, _, _ => rfl
        | n + 8, hc, _ => omega) rfl
      rw [List.set_set] at RX
      have GX := blk_set GW (i * 8 + 2) (.int .i64 1)
      have CX := CW.setCell ⟨g, i * 8 + 2, none⟩ (.int .i64 1) (.inl (Eq.refl g))
      have TX : TurnSt p w (i + 1) (ps.set i (stF x, .slice va x.body.args.length vc)) := ⟨by rw [List.length_set]; exact hts.1, fun j z hj hz => by
        by_cases hji : j = i
        · subst hji
          have hxz : x = z := by have := HX.out; rw [hz] at this; simpa using this.symm
          subst hxz
          exact ⟨_, List.getElem?_set_self (by rw [hts.1]; exact hlt), HVX.out⟩
        · obtain ⟨u, hu1, hu2⟩ := hts.2 j z (by omega) hz
          exact ⟨u, by rw [List.getElem?_set_ne (fun e => hji e.symm)]; exact hu1, hu2⟩⟩
      have SX : (cur8.setIfInBounds (i * 8 + 2) (.int .i64 1)).size = (p.flows.length + 1) * 8 := by rw [Array.size_setIfInBounds]; omega
      have H1 := Lib.hid RX
      have H2 := Lib.hid GX
      have H3 := Lib.hid CX
      have H4 := Lib.hid TX
      have H5 := Lib.hid SX
      clear RX GX CX TX SX RW GW CW SW hW8 HC8 HG8 d0 d1 d2 d3 d4 d5 d6 d7 t0 t1 t2 t3 t4 t5 t6 t7 f0 f1 f2 f3 f4 f5 f6 f7 yy2 zz2 hcur hrow hts m1 m2 m3 m4 m5
      go_wp2_with fail
      go_roundw
      case rel => exact ⟨i + 1, _, _, by omega, by go_num, H2.out, H5.out, H1.out, H4.out, H3.out⟩
      case measure => simp [intOf]; omega
    · obtain rfl : i = p.flows.length := by omega
      have hfst : ps.map (·.1) = p.flows.reverse.map stF := by
        obtain ⟨hl, hj⟩ := hts
        apply List.ext_getElem?
        intro j
        rw [List.getElem?_map, List.getElem?_map]
        by_cases hlt2 : j < p.flows.length
        · have hx : p.flows[p.flows.length - 1 - j]? = some p.flows[p.flows.length - 1 - j] := List.getElem?_eq_getElem (by omega)
          obtain ⟨u, hu, _⟩ := hj j _ hlt2 hx
          rw [hu, List.getElem?_reverse hlt2, hx]
          rfl
        · rw [List.getElem?_eq_none (by omega), List.getElem?_eq_none (by simp; omega)]
          rfl
      have HRQ : Hid (RdPr wr 0 false (turnS p) #[.int .i64 p.st, .slice ti p.ins.length di, .slice (some ⟨g, 0, none⟩) p.flows.length (p.flows.length + 1), .slice to_ p.outs.length do_]) := by
        show RdPr _ _ _ _ _
        obtain ⟨_, _, _, i1, _, _, i4, _⟩ := HI.out
        obtain ⟨_, _, _, o1, _, _, o4, _⟩ := HO.out
        have r1 := TwIn.rd ((HTW.out.ins.lift (Chg.refl _ _) eV).other HCV.out (by decide) rC hg0) (fun i x hx => by obtain ⟨a, b, c, _⟩ := i4 i x hx; exact ⟨a, b, c⟩) i1
        have r3 := TwStr.rd ((HTW.out.outs.lift (Chg.refl _ _) eV).other HCV.out (by decide) rC hg0) (fun x hx => by obtain ⟨i, hi, rfl⟩ := List.getElem_of_mem hx; exact (o4 i _ (List.getElem?_eq_getElem hi)).1) o1
        obtain ⟨hbl, hbj⟩ := hts
        have r2 := hrow.rdFl (w0 := w) (cap := p.flows.length + 1) hcur (e0.trans (ec _ rC)) (fun q hq => by
          obtain ⟨j, hj, rfl⟩ := List.getElem_of_mem hq
          have hj' : j < p.flows.length := by omega
          have hx : p.flows[p.flows.length - 1 - j]? = some p.flows[p.flows.length - 1 - j] := List.getElem?_eq_getElem (by omega)
          obtain ⟨u, hu1, hu2⟩ := hbj j _ hj' hx
          rw [List.getElem?_eq_getElem hj] at hu1
          simp only [Option.some.injEq] at hu1
          rw [hu1]
          obtain ⟨f1, f2, f3, f4, f5, f6, f7⟩ := HF.out.fine hx
          exact ⟨⟨f1, f2, by simp [stF, isI64], f4, f5, f6, f7⟩, hu2⟩) (by omega) (by unfold maxLen; omega) (by rw [hbl]; unfold fitsR; omega)
        rw [hfst, hbl] at r2
        exact ⟨_, _, _, rfl, hst, r1.plain.lower (Nat.zero_le _), r2, r3.plain.lower (Nat.zero_le _)⟩
      have q0 := z0 wr rC
      have q1 := z1 wr rC
      have q2 := z2 wr rC
      have q3 := z3 wr rC
      have hself : (n == n) = true := by simp
      clear hfst hrow hts hcur
      go_wp2_with fail
      refine (HCK.out _ _ HRQ.out).mono ?_
      rintro e w8 ⟨rfl, E8⟩
      go_wp2_with fail
      go_ret
      exact ⟨rfl, (e0.trans (ec _ rC)).trans E8⟩
end Go.Proofs.Ytcbdeoekehkbiaa
