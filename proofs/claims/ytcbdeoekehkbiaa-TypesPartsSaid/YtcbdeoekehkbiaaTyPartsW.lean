/- TypesParts answers true. -/
import Derived.Test.YtcbdeoekehkbiaaTyAlive
import Derived.Test.YtcbdeoekehkbiaaTyGreat
import Derived.Test.YtcbdeoekehkbiaaTyNms
import Derived.Deep.RegionHeld3
import Derived.Deep.Cut
import Derived.Deep.QuietTactic
import Derived.BigQuiet
namespace Go.Proofs.Ytcbdeoekehkbiaa
open Go.RowKit
set_option linter.unusedVariables false
set_option linter.unusedSimpArgs false

set_option maxRecDepth 100000 in
set_option maxHeartbeats 8000000 in
theorem typesParts_any (p : PrD) (cs : Array Value) (x : Ex) (cx : Array Value) (w : World) (h : RdPr w 0 false p cs) (hx : RdEx w 0 false x cx.toList) : Calls Try.prog 8 #[.agg cs, .agg cx] w (RetT w) := by
  obtain ⟨v, hop, hn, hnm, hv, rfl⟩ : ∃ v, isU8 x.op ∧ isI64 x.n ∧ x.name.size ≤ maxLen ∧ RdExV w 0 false x.args v ∧ cx = #[.int .u8 x.op, .int .i64 x.n, .string x.name, v] := by
    obtain ⟨op, n, nm, args⟩ := x
    obtain ⟨v, e, h1, h2, h3, h4⟩ := hx.open
    exact ⟨v, h1, h2, h3, h4, by obtain ⟨l⟩ := cx; have e2 : l = [.int .u8 op, .int .i64 n, .string nm, v] := e; subst e2; rfl⟩
  clear hx
  have HP := Lib.hid h
  have HV := Lib.hid hv
  obtain ⟨a, cap, rfl, _⟩ := hv.form
  clear hv
  obtain ⟨ai, ci, af, cf, ao, co, rfl⟩ := pr_form h
  clear h
  have HA := Lib.hid tyAlive_any
  go_enter Try.func8, Try.ntmps8
  go_wp2_with fail
  have e0 := (Chg.refl (fun _ => False) w).alloc (.cells #[.int .i64 p.st, .slice ai p.ins.length ci, .slice af p.flows.length cf, .slice ao p.outs.length co] 36)
  have bP := heap_alloc_new w (.cells #[.int .i64 p.st, .slice ai p.ins.length ci, .slice af p.flows.length cf, .slice ao p.outs.length co] 36)
  have bX := heap_alloc_new (w.alloc (.cells #[.int .i64 p.st, .slice ai p.ins.length ci, .slice af p.flows.length cf, .slice ao p.outs.length co] 36)) (.cells #[.int .u8 x.op, .int .i64 x.n, .string x.name, .slice a x.args.length cap] 25)
  rw [World.size_alloc] at bX
  have e1 := (Chg.refl (fun _ => False) (w.alloc (.cells #[.int .i64 p.st, .slice ai p.ins.length ci, .slice af p.flows.length cf, .slice ao p.outs.length co] 36))).alloc (.cells #[.int .u8 x.op, .int .i64 x.n, .string x.name, .slice a x.args.length cap] 25)
  have bP := Ext.heap e1 bP
  have e0 := e0.trans e1
  clear e1
  generalize ((w.alloc (.cells #[.int .i64 p.st, .slice ai p.ins.length ci, .slice af p.flows.length cf, .slice ao p.outs.length co] 36)).alloc (.cells #[.int .u8 x.op, .int .i64 x.n, .string x.name, .slice a x.args.length cap] 25)) = W0 at *
  have y0 : ∀ X, Ext W0 X → X.cell? ⟨w.heap.size, 0, none⟩ = some (.int .i64 p.st) := fun X hX => (blk_cell (Ext.heap hX bP) 0).trans rfl
  have y1 : ∀ X, Ext W0 X → X.cell? ⟨w.heap.size, 1, none⟩ = some (.slice ai p.ins.length ci) := fun X hX => (blk_cell (Ext.heap hX bP) 1).trans rfl
  have y2 : ∀ X, Ext W0 X → X.cell? ⟨w.heap.size, 2, none⟩ = some (.slice af p.flows.length cf) := fun X hX => (blk_cell (Ext.heap hX bP) 2).trans rfl
  have y3 : ∀ X, Ext W0 X → X.cell? ⟨w.heap.size, 3, none⟩ = some (.slice ao p.outs.length co) := fun X hX => (blk_cell (Ext.heap hX bP) 3).trans rfl
  have x0 : ∀ X, Ext W0 X → X.cell? ⟨w.heap.size + 1, 0, none⟩ = some (.int .u8 x.op) := fun X hX => (blk_cell (Ext.heap hX bX) 0).trans rfl
  have x1 : ∀ X, Ext W0 X → X.cell? ⟨w.heap.size + 1, 1, none⟩ = some (.int .i64 x.n) := fun X hX => (blk_cell (Ext.heap hX bX) 1).trans rfl
  have x2 : ∀ X, Ext W0 X → X.cell? ⟨w.heap.size + 1, 2, none⟩ = some (.string x.name) := fun X hX => (blk_cell (Ext.heap hX bX) 2).trans rfl
  have x3 : ∀ X, Ext W0 X → X.cell? ⟨w.heap.size + 1, 3, none⟩ = some (.slice a x.args.length cap) := fun X hX => (blk_cell (Ext.heap hX bX) 3).trans rfl
  have ed : ∀ X, Ext W0 X → Ext W0 X.drew := fun X hX => hX.drew
  have ea : ∀ X o, Ext W0 X → Ext W0 (X.alloc o) := fun X o hX => hX.alloc o
  refine (HA.out _).mono ?_
  rintro e w1 ⟨rfl, E1⟩
  have HG := Lib.hid (tyGreat_any p _ _ (HP.out.ext (e0.trans E1)))
  go_wp2_with fail
  refine HG.out.mono ?_
  rintro e w2 ⟨b, rfl, E2'⟩
  have F2 := E1.trans E2'
  clear HG E2' E1
  cases b
  case true =>
    go_wp2_with fail
    refine (HA.out _).mono ?_
    rintro e w3 ⟨rfl, E3⟩
    go_wp2_with fail
    go_ret
    exact ⟨rfl, (e0.trans F2).trans E3⟩
  have HZ := Lib.hid (exprSize_any x _ w2 (HV.out.ext (e0.trans F2)))
  go_wp2_with fail
  refine HZ.out.mono ?_
  rintro e w3 ⟨m, rfl, E3⟩
  have F3 := F2.trans E3
  clear HZ E3 F2
  by_cases hm : 20000 < m
  · go_wp2_with fail
    refine (HA.out _).mono ?_
    rintro e w4 ⟨rfl, E4⟩
    go_wp2_with fail
    go_ret
    exact ⟨rfl, (e0.trans F3).trans E4⟩
  clear HA
  obtain ⟨xop, xn, xnm, args⟩ := x
  simp only [Ex.op, Ex.n, Ex.name, Ex.args] at *
  have HPT := Lib.hid (fun (y : Ex) (h : (tyP p (.mk xop xn xnm args)).2 = 0) (hy : y ∈ args) => ty_part h hy)
  have HNO := Lib.hid (fun (h : (tyP p (.mk xop xn xnm args)).2 ≠ 0) => ty_no h)
  have HOK := Lib.hid (fun (h : (tyP p (.mk xop xn xnm args)).2 = 0) => ty_ok h)
  have HO := Lib.hid (tyOf_any p (.mk xop xn xnm args) _ _ w3 (HP.out.ext (e0.trans F3)) (HV.out.ext (e0.trans F3)) hnm)
  have HCE := Lib.hid (fun (X : World) (hX : Ext w X) => exCheck_any (.mk xop xn xnm args) _ X (HV.out.ext hX) hnm)
  have n1 : args.length ≤ 9000000000000000000 := by obtain ⟨_, _, _, hf, _⟩ := HV.out.form; unfold fitsR at hf; omega
  generalize hq : tyP p (.mk xop xn xnm args) = q at *
  have HQ := Lib.hid hq
  clear hq
  obtain ⟨qa, qb⟩ := q
  simp only at HPT HNO HOK HO
  unfold RetTO at HO
  go_wp2_with fail
  refine HO.out.mono ?_
  rintro e w4 ⟨rfl, E4⟩
  have F4 := F3.trans E4
  clear HO E4
  by_cases hb : qb = 0
  case neg =>
    have b1 : (qb != 0) = true := by simpa using hb
    obtain ⟨rfl, h2⟩ := HNO.out hb
    have HE := Lib.hid h2
    generalize okE 32 200 (.mk xop xn xnm args) = ok at *
    clear h2 hb HNO HOK HPT
    go_wp2_with fail
    refine (HCE.out _ (e0.trans F4)).mono ?_
    rintro e w5 ⟨rfl, E5⟩
    have hfin : ((qb == 1) == !ok) = true := by rw [HE.out]; simp
    go_wp2_with fail
    go_ret
    exact ⟨rfl, (e0.trans F4).trans E5⟩
  subst hb
  obtain ⟨h1, h2, h3, h4⟩ := HOK.out rfl
  have hlen := ok_len h1
  have hops := ops_of h1 hop
  simp only [Prod.mk.injEq, and_true] at h4
  have hnd := (okE_iff.1 h1).2
  simp only [nodesE] at hnd
  have hln := nodesL_len args
  have hn200 : args.length ≤ 200 := by omega
  have HOPS := Lib.hid hops
  have HL := Lib.hid hlen
  have HN := Lib.hid h4
  have HTH := Lib.hid h2
  have HNZ := Lib.hid h3
  have HLL := Lib.hid (tyL_len p args)
  clear h1 h2 h3 h4 hlen hops hnd hln HNO HOK HCE
  obtain ⟨i0, hinf, hz0, hz1, hz2⟩ := info_parts infoTy
  go_wp2_with fail
  go_loopw [7, 8] (fun lv iv wr => ∃ (i : Nat) (l : List Int) (lv' : Value), lv = lv' ∧ i ≤ args.length ∧ l.length = i ∧ iv = .int .i64 i ∧ l = (tyL p args).take i ∧ TyV wr w4.heap.size l lv' ∧ Ext w4 wr) (fun _ i _ => args.length - (intOf i).toNat)
  case atStart => exact ⟨0, [], _, rfl, Nat.zero_le _, rfl, rfl, rfl, TyV.nil _ _, Chg.refl _ _⟩
  case round =>
    obtain ⟨i, l, lv', hlv, hi, hl1, rfl, hl, hV, rL⟩ := hrel
    replace hlv := hlv.symm
    subst hlv
    have HLi := Lib.hid hl
    have HL1 := Lib.hid hl1
    have rE := F4.trans rL
    clear hl
    by_cases hlt : i < args.length
    · have hx := List.getElem?_eq_getElem hlt
      have q1 : (i : Int) < (args.length : Int) := by omega
      have hyp := HPT.out _ trivial (List.getElem_mem hlt)
      have htk := tyL_take (p := p) hx
      rw [← HLi.out] at htk
      have HTK := Lib.hid htk
      obtain ⟨b, o, v0, hbo, _, hbl, c0, c1, c2, c3, _, _, hyn, hvx⟩ := (HV.out).get hx
      subst hbo
      have d0 : ∀ X, Ext W0 X → X.cell? ⟨b, o + i * 4, none⟩ = _ := fun X hX => Ext.cell (e0.trans hX) c0
      have d1 : ∀ X, Ext W0 X → X.cell? ⟨b, o + i * 4 + 1, none⟩ = _ := fun X hX => Ext.cell (e0.trans hX) c1
      have d2 : ∀ X, Ext W0 X → X.cell? ⟨b, o + i * 4 + 2, none⟩ = _ := fun X hX => Ext.cell (e0.trans hX) c2
      have d3 : ∀ X, Ext W0 X → X.cell? ⟨b, o + i * 4 + 3, none⟩ = _ := fun X hX => Ext.cell (e0.trans hX) c3
      generalize args[i] = y at *
      obtain ⟨a2, cap2, rfl, _⟩ := hvx.form
      have HO := Lib.hid (tyOf_is p y _ _ _ _ wr.drew (HP.out.ext (e0.trans rE).drew) (hvx.ext (e0.trans rE).drew) hyn hyp)
      clear hx hyp htk c0 c1 c2 c3 hvx hl1
      generalize hk : tyE p y = k at *
      clear hk
      have ED : Ext W0 wr.drew := rE.drew
      go_wp2_with fail
      go_region_held3 (fun X => Ext W0 X) (first | assumption)
        (first
          | (go_at_call 30; refine HO.out.mono ?_; rintro e w7 ⟨rfl, E7⟩; have F7 := ED.trans E7))
      have L7 : Ext w4 w7 := rL.drew.trans E7
      have V7 := (hV.chg ((Chg.refl (fun _ => False) wr).drew) (fun _ _ h => h)).chg E7 (fun _ _ h => h)
      have hsz7 := L7.size
      have hll : l.length ≤ 200 := by have := HL1.out; omega
      clear hV ED E7 rL
      go_wp2_with (at_builtin; refine wpList_append_own_at _ rfl _ _ 60 rfl w4.heap.size 48 i0 _ 1 1 Try.underlying60 hinf hz0 hz1 hz2 rfl (by decide) lv' _ _ rfl (World.ownsRow.alloc V7 _) ⟨w7.heap.size, 0, none⟩ 1 1 [.int .u8 k] rfl rfl (cell_one_new _ _ _) (by simp [Value.oneCell']) (by unfold maxLen; omega) (by omega) (by simp; omega) ?_; intro v6 w9 hown9 hgrow9 _ hat9; have V9 := TyV.snoc hown9; obtain ⟨a6', c6', hv6⟩ := V9.form1; subst hv6; have E10 : Ext w4 w9 := Ext.then (L7.alloc _) (Chg.of_grownBy hgrow9) (fun b hb => (World.ownsRow.lt V7 b hb).1); clear hown9 hgrow9 hat9)
      go_roundw
      case rel => exact ⟨i + 1, l ++ [k], _, rfl, by omega, by rw [List.length_append, HL1.out]; rfl, by go_num, HTK.out.symm, V9, E10⟩
      case measure => simp [intOf]; omega
    · obtain rfl : i = args.length := by omega
      have hl2 : l = tyL p args := by rw [HLi.out, List.take_of_length_le (by rw [HLL.out]; exact Nat.le_refl _)]
      have hfl : (xop = 1 ∨ xop = 2 ∨ xop = 3) ∨ (xop ≠ 1 ∧ xop ≠ 2 ∧ xop ≠ 3) := by omega
      by_cases a1 : xop = 1
      · subst a1
        have hqa : qa = 1 := by rw [HN.out]; simp [tyE]
        subst hqa
        go_wp2_with fail
        go_ret
        exact ⟨rfl, e0.trans rE⟩
      by_cases a2 : xop = 2
      · subst a2
        have hqa : qa = 2 := by rw [HN.out]; simp [tyE]
        subst hqa
        go_wp2_with fail
        go_ret
        exact ⟨rfl, e0.trans rE⟩
      by_cases a3 : xop = 3
      · subst a3
        have hth := HTH.out xnm (by simp [nmsE])
        have hqa : qa = nameT p xnm := by rw [HN.out]; simp [tyE]
        have hnz : nameT p xnm ≠ 0 := by rw [← hqa, HN.out]; exact HNZ.out
        have hty : (findP xnm p.flows p.ins).2.1 = qa := by
          rw [hqa]
          unfold nameT at hnz ⊢
          by_cases h2 : 2 < (findP xnm p.flows p.ins).2.1
          · rw [if_pos h2] at hnz; exact absurd rfl hnz
          · rw [if_neg h2]
        have hf := find_any p xnm _ wr (HP.out.ext (e0.trans rE))
        unfold RetFind fourV at hf
        generalize findP xnm p.flows p.ins = fq at *
        obtain ⟨f1, f2, f3, f4⟩ := fq
        simp only at hth hty hf
        subst hth
        subst hty
        have HF := Lib.hid hf
        have hself : (f2 == f2) = true := by simp
        clear hqa hnz hf
        go_wp2_with fail
        refine HF.out.mono ?_
        rintro e w8 ⟨rfl, E8⟩
        go_wp2_with fail
        go_ret
        exact ⟨rfl, e0.trans (rE.trans E8)⟩
      have hqr : qa = ruleT xop l := by rw [HN.out, hl2]; unfold tyE; rw [if_neg a1, if_neg a2, if_neg a3]
      have hnz : ruleT xop l ≠ 0 := by rw [← hqr, HN.out]; exact HNZ.out
      have HO2 := Lib.hid (show 4 ≤ xop ∧ xop ≤ 19 by have := HOPS.out; omega)
      have hl0 : 1 ≤ l.length := by
        rw [hl1]
        have h := HL.out
        have ho := HOPS.out
        have hp : 1 ≤ partsP xop := by
          rcases (by omega : xop = 4 ∨ xop = 5 ∨ xop = 6 ∨ xop = 7 ∨ xop = 8 ∨ xop = 9 ∨ xop = 10 ∨ xop = 11 ∨ xop = 12 ∨ xop = 13 ∨ xop = 14 ∨ xop = 15 ∨ xop = 16 ∨ xop = 17 ∨ xop = 18 ∨ xop = 19) with rfl | rfl | rfl | rfl | rfl | rfl | rfl | rfl | rfl | rfl | rfl | rfl | rfl | rfl | rfl | rfl <;> decide +kernel
        omega
      have hpt := parts_rule (op := xop) (l := l) (by rw [HL1.out]; exact HL.out) hnz
      rw [← hqr] at hpt
      obtain ⟨p17, p18, p19, peq, pn, py, pl⟩ := hpt
      obtain ⟨g, og, gcap, rfl, hgc, hcell⟩ := hV.rd hl0
      have P17 := Lib.hid p17
      have P18 := Lib.hid p18
      have P19 := Lib.hid p19
      have PEQ := Lib.hid peq
      have PN := Lib.hid pn
      have PY := Lib.hid py
      have PL := Lib.hid pl
      have HCELL := Lib.hid hcell
      clear p17 p18 p19 peq pn py pl hqr hnz hl2 hfl hV hl1 HQ HN HNZ HTH a1 a2 a3 HLi hl0 hcell HPT hlt
      by_cases h17 : xop = 17
      · obtain ⟨b, c, rfl, rfl, rfl⟩ := P17.out h17
        subst h17
        have k0 := HCELL.out 0 _ rfl
        have k1 := HCELL.out 1 _ rfl
        have k2 := HCELL.out 2 _ rfl
        rw [Nat.add_zero] at k0
        have hself : (c == c) = true := by simp
        have e3 : (([2, c, c] : List Int).length) = 3 := rfl
        rw [e3] at *
        go_wp2_with fail
        go_ret
        exact ⟨rfl, e0.trans rE⟩
      by_cases h18 : xop = 18
      · obtain rfl := P18.out h18
        subst h18
        have k0 := HCELL.out 0 _ rfl
        have k1 := HCELL.out 1 _ rfl
        rw [Nat.add_zero] at k0
        have hself : (qa == qa) = true := by simp
        have e3 : (([qa, qa] : List Int).length) = 2 := rfl
        rw [e3] at *
        go_wp2_with fail
        go_ret
        exact ⟨rfl, e0.trans rE⟩
      by_cases h19 : xop = 19
      · obtain rfl := P19.out h19
        subst h19
        have k0 := HCELL.out 0 _ rfl
        rw [Nat.add_zero] at k0
        have hself : (qa == qa) = true := by simp
        have e3 : (([qa] : List Int).length) = 1 := rfl
        rw [e3] at *
        go_wp2_with fail
        go_ret
        exact ⟨rfl, e0.trans rE⟩
      by_cases heq : xop = 11 ∨ xop = 12
      · obtain ⟨rfl, a, rfl⟩ := PEQ.out heq
        have k0 := HCELL.out 0 _ rfl
        have k1 := HCELL.out 1 _ rfl
        rw [Nat.add_zero] at k0
        have hself : (a == a) = true := by simp
        have e3 : (([a, a] : List Int).length) = 2 := rfl
        rw [e3] at *
        have k0' := (World.cell?_drew (w := wr) (a := ⟨g, og, none⟩)).trans k0
        have k1' := (World.cell?_drew (w := wr) (a := ⟨g, og + 1, none⟩)).trans k1
        rcases heq with rfl | rfl
        all_goals (
          go_wp2_with fail
          go_quiet (fail)
          go_wp2_with fail
          go_ret
          exact ⟨rfl, (e0.trans rE).drewN _⟩)
      have hloop : ∀ (o2 : Int), (∀ u, u ∈ l → u = o2) → Hid (∀ (j : Nat), j < l.length → wr.cell? ⟨g, og + j, none⟩ = some (.int .u8 o2)) := fun o2 h => by
        show ∀ j, _ → _
        intro j hj
        have e := List.getElem?_eq_getElem hj
        rw [HCELL.out j _ e, h _ (List.getElem_mem hj)]
      have HLP := Lib.hid hloop
      have n2 : l.length ≤ 200 := by have := HL1.out; omega
      clear hloop HL HL1 HCELL P17 P18 P19 PEQ
      have hcases := HO2.out
      rcases (by omega : (xop = 4 ∨ xop = 6 ∨ xop = 7 ∨ xop = 8 ∨ xop = 9 ∨ xop = 10) ∨ (xop = 5 ∨ xop = 15 ∨ xop = 16) ∨ (xop = 13 ∨ xop = 14)) with hg | hg | hg
      · obtain ⟨rfl, hall⟩ := PN.out hg
        have HC := HLP.out 1 hall
        clear hall HLP PN PY PL h17 h18 h19 heq hcases HO2 HOPS
        rcases hg with rfl | rfl | rfl | rfl | rfl | rfl
        all_goals (
          go_wp2_with fail
          go_loop [17] (fun jv => ∃ j : Nat, j ≤ l.length ∧ jv = .int .i64 j) (fun jv => l.length - (intOf jv).toNat)
          case atStart => exact ⟨0, Nat.zero_le _, rfl⟩
          case round =>
            obtain ⟨j, hj, rfl⟩ := hrel
            by_cases hlt2 : j < l.length
            · have q3 : (j : Int) < (l.length : Int) := by omega
              have kj := HC.out j hlt2
              go_wp2_with fail
              go_round
              case rel => exact ⟨j + 1, by omega, by go_num⟩
              case measure => simp [intOf]; omega
            · obtain rfl : j = l.length := by omega
              go_wp2_with fail
              go_ret
              exact ⟨rfl, e0.trans rE⟩)
      · obtain ⟨rfl, hall⟩ := PY.out hg
        have HC := HLP.out 2 hall
        clear hall HLP PN PY PL h17 h18 h19 heq hcases HO2 HOPS
        rcases hg with rfl | rfl | rfl
        all_goals (
          go_wp2_with fail
          go_loop [17] (fun jv => ∃ j : Nat, j ≤ l.length ∧ jv = .int .i64 j) (fun jv => l.length - (intOf jv).toNat)
          case atStart => exact ⟨0, Nat.zero_le _, rfl⟩
          case round =>
            obtain ⟨j, hj, rfl⟩ := hrel
            by_cases hlt2 : j < l.length
            · have q3 : (j : Int) < (l.length : Int) := by omega
              have kj := HC.out j hlt2
              go_wp2_with fail
              go_round
              case rel => exact ⟨j + 1, by omega, by go_num⟩
              case measure => simp [intOf]; omega
            · obtain rfl : j = l.length := by omega
              go_wp2_with fail
              go_ret
              exact ⟨rfl, e0.trans rE⟩)
      · obtain ⟨rfl, hall⟩ := PL.out hg
        have HC := HLP.out 1 hall
        clear hall HLP PN PY PL h17 h18 h19 heq hcases HO2 HOPS
        rcases hg with rfl | rfl
        all_goals (
          go_wp2_with fail
          go_loop [17] (fun jv => ∃ j : Nat, j ≤ l.length ∧ jv = .int .i64 j) (fun jv => l.length - (intOf jv).toNat)
          case atStart => exact ⟨0, Nat.zero_le _, rfl⟩
          case round =>
            obtain ⟨j, hj, rfl⟩ := hrel
            by_cases hlt2 : j < l.length
            · have q3 : (j : Int) < (l.length : Int) := by omega
              have kj := HC.out j hlt2
              go_wp2_with fail
              go_round
              case rel => exact ⟨j + 1, by omega, by go_num⟩
              case measure => simp [intOf]; omega
            · obtain rfl : j = l.length := by omega
              go_wp2_with fail
              go_ret
              exact ⟨rfl, e0.trans rE⟩)
end Go.Proofs.Ytcbdeoekehkbiaa
