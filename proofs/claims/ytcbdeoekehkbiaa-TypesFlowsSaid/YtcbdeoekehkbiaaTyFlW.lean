/- TypesFlows answers true. -/
import Derived.Test.YtcbdeoekehkbiaaTyAlive
import Derived.Test.YtcbdeoekehkbiaaTyGreat
import Derived.Test.YtcbdeoekehkbiaaTyFlP
import Derived.Deep.Cut
namespace Go.Proofs.Ytcbdeoekehkbiaa
open Go.RowKit
set_option linter.unusedVariables false
set_option linter.unusedSimpArgs false

set_option maxRecDepth 100000 in
set_option maxHeartbeats 8000000 in
theorem typesFlows_any (p : PrD) (cs : Array Value) (kk : Int) (w : World) (h : RdPr w 0 false p cs) (hkk : isU8 kk) : Calls Try.prog 10 #[.agg cs, .int .u8 kk] w (RetT w) := by
  have HP := Lib.hid h
  obtain ⟨ai, ci, af, cf, ao, co, rfl⟩ := pr_form h
  clear h
  have HA := Lib.hid tyAlive_any
  go_enter Try.func10, Try.ntmps10
  go_wp2_with fail
  have e0 := (Chg.refl (fun _ => False) w).alloc (.cells #[.int .i64 p.st, .slice ai p.ins.length ci, .slice af p.flows.length cf, .slice ao p.outs.length co] 36)
  have bP := heap_alloc_new w (.cells #[.int .i64 p.st, .slice ai p.ins.length ci, .slice af p.flows.length cf, .slice ao p.outs.length co] 36)
  generalize (w.alloc (.cells #[.int .i64 p.st, .slice ai p.ins.length ci, .slice af p.flows.length cf, .slice ao p.outs.length co] 36)) = W0 at *
  have y0 : ∀ X, Ext W0 X → X.cell? ⟨w.heap.size, 0, none⟩ = some (.int .i64 p.st) := fun X hX => (blk_cell (Ext.heap hX bP) 0).trans rfl
  have y1 : ∀ X, Ext W0 X → X.cell? ⟨w.heap.size, 1, none⟩ = some (.slice ai p.ins.length ci) := fun X hX => (blk_cell (Ext.heap hX bP) 1).trans rfl
  have y2 : ∀ X, Ext W0 X → X.cell? ⟨w.heap.size, 2, none⟩ = some (.slice af p.flows.length cf) := fun X hX => (blk_cell (Ext.heap hX bP) 2).trans rfl
  have y3 : ∀ X, Ext W0 X → X.cell? ⟨w.heap.size, 3, none⟩ = some (.slice ao p.outs.length co) := fun X hX => (blk_cell (Ext.heap hX bP) 3).trans rfl
  have ed : ∀ X, Ext W0 X → Ext W0 X.drew := fun X hX => hX.drew
  have ea : ∀ X o, Ext W0 X → Ext W0 (X.alloc o) := fun X o hX => hX.alloc o
  refine (HA.out _).mono ?_
  rintro e w1 ⟨rfl, E1⟩
  have HG := Lib.hid (tyGreat_any p _ _ (HP.out.ext (e0.trans E1)))
  go_wp2_with fail
  refine HG.out.mono ?_
  rintro e w2 ⟨b, rfl, E2'⟩
  have F2 := E1.trans E2'
  clear HG E2' E1
  cases b
  case true =>
    go_wp2_with fail
    refine (HA.out _).mono ?_
    rintro e w3 ⟨rfl, E3⟩
    go_wp2_with fail
    go_ret
    exact ⟨rfl, (e0.trans F2).trans E3⟩
  clear HA
  have F3 := F2
  clear F2
  have HC := Lib.hid (tyCheck_any p _ _ (HP.out.ext (e0.trans F3)))
  go_wp2_with fail
  refine HC.out.mono ?_
  rintro e w3 ⟨rfl, E3'⟩
  have F4 := F3.trans E3'
  clear HC E3' F3
  by_cases hn : typesP p = 0
  case neg =>
    have bn : (typesP p != 0) = true := by simpa using hn
    have HE := Lib.hid (types_err hn)
    have HNC := Lib.hid (fun (X : World) (hX : Ext w X) => nCheck_any p _ X (HP.out.ext hX))
    generalize typesP p = n at *
    clear hn
    generalize namesP p = m at *
    by_cases hmn : m = n
    · subst hmn
      have hself : (m == m) = true := by simp
      go_wp2_with fail
      refine (HNC.out _ (e0.trans F4)).mono ?_
      rintro e w4 ⟨rfl, E4⟩
      go_wp2_with fail
      go_ret
      exact ⟨rfl, (e0.trans F4).trans E4⟩
    · obtain ⟨h0, h7⟩ : m = 0 ∧ n = 7 := by
        rcases HE.out with h | h
        · exact absurd h hmn
        · exact h
      subst h0 h7
      clear hmn HE
      have b07 : ((0 : Int) == 7) = false := by decide
      have b70 : ((7 : Int) == 0) = false := by decide
      go_wp2_with fail
      refine (HNC.out _ (e0.trans F4)).mono ?_
      rintro e w4 ⟨rfl, E4⟩
      have F5 := F4.trans E4
      go_wp2_with fail
      refine (HNC.out _ (e0.trans F5)).mono ?_
      rintro e w5 ⟨rfl, E5⟩
      go_wp2_with fail
      go_ret
      exact ⟨rfl, (e0.trans F5).trans E5⟩
  have HN := Lib.hid hn
  rw [hn]
  clear hn
  obtain ⟨_, _, _, eqh, hst, hi, hf, ho⟩ := HP.out
  simp only [Array.mk.injEq, List.cons.injEq, and_true, true_and] at eqh
  obtain ⟨rfl, rfl, rfl⟩ := eqh
  have HF := Lib.hid hf
  have h96 : p.flows.length * 96 ≤ 140737488351232 := by obtain ⟨_, _, _, h, _⟩ := hf.form; exact h
  have n1 : p.flows.length ≤ 9000000000000000000 := by omega
  clear hf hi ho hst
  have HB := Lib.hid (fun (x : FlD) (hx : x ∈ p.flows) => types0_body HN.out hx)
  obtain ⟨hk0, hk1⟩ := hkk
  go_wp2_with fail
  go_loopw [6] (fun iv wr => ∃ i : Nat, i ≤ p.flows.length ∧ iv = .int .i64 i ∧ Ext w3 wr) (fun i _ => p.flows.length - (intOf i).toNat)
  case atStart => exact ⟨0, Nat.zero_le _, rfl, Chg.refl _ _⟩
  case round =>
    obtain ⟨i, hi, rfl, rL⟩ := hrel
    have rE := F4.trans rL
    by_cases hlt : i < p.flows.length
    · have hx : p.flows[i]? = some p.flows[i] := List.getElem?_eq_getElem hlt
      have q1 : (i : Int) < (p.flows.length : Int) := by omega
      have hbd := HB.out _ (List.getElem_mem hlt)
      obtain ⟨_, _, e, _, _, _, hr, _⟩ := HF.out
      simp only [Value.slice.injEq, true_and] at e
      obtain ⟨rfl, rfl⟩ := e
      obtain ⟨_, _, _, _, b, o, rfl, _, _, c0, c1, c2, c3, _, _, k7, v, hvx, c4, c5, c6, c7⟩ := hr _ _ hx
      obtain ⟨va, vc, rfl, _⟩ := hvx.form
      generalize p.flows[i] = x at *
      have d1 : ∀ X, Ext W0 X → X.cell? _ = some _ := fun X hX => Ext.cell (e0.trans hX) c1
      have d4 : ∀ X, Ext W0 X → X.cell? _ = some _ := fun X hX => Ext.cell (e0.trans hX) c4
      have d5 : ∀ X, Ext W0 X → X.cell? _ = some _ := fun X hX => Ext.cell (e0.trans hX) c5
      have d6 : ∀ X, Ext W0 X → X.cell? _ = some _ := fun X hX => Ext.cell (e0.trans hX) c6
      have d7 : ∀ X, Ext W0 X → X.cell? _ = some _ := fun X hX => Ext.cell (e0.trans hX) c7
      have HO := Lib.hid (tyOf_is p x.body _ _ _ _ wr.drew (HP.out.ext (e0.trans rE).drew) (hvx.ext (e0.trans rE).drew) k7 hbd)
      have hself : (x.ty != x.ty) = false := by simp
      clear hx hbd hr c0 c1 c2 c3 c4 c5 c6 c7 hvx
      have ED : Ext W0 wr.drew := rE.drew
      go_wp2_with fail
      go_region_held3 (fun X => Ext W0 X) (first | assumption)
        (first
          | (go_at_call 30; refine HO.out.mono ?_; rintro e w7 ⟨rfl, E7⟩; have F7 := ED.trans E7))
      have L7 : Ext w3 w7 := rL.drew.trans E7
      clear ED E7 rL
      go_wp2_with fail
      go_roundw
      case rel => exact ⟨i + 1, by omega, by go_num, L7⟩
      case measure => simp [intOf]; omega
    · obtain rfl : i = p.flows.length := by omega
      by_cases hl : p.flows.length = 0
      case pos =>
        have hl' : ((p.flows.length : Int) == 0) = true := by simp [hl]
        have HL := Lib.hid hl
        clear hl
        go_wp2_with fail
        go_ret
        exact ⟨rfl, e0.trans rE⟩
      have hl' : ((p.flows.length : Int) == 0) = false := by rw [beq_eq_false_iff_ne]; omega
      have hpl' : 0 < (p.flows.length : Int) := by omega
      clear hl hlt hi
      have m1 := Int.emod_nonneg kk (show (p.flows.length : Int) ≠ 0 by omega)
      have m2 := Int.emod_lt_of_pos kk hpl'
      obtain ⟨k, hk⟩ : ∃ k : Nat, kk % (p.flows.length : Int) = k := ⟨_, (Int.toNat_of_nonneg m1).symm⟩
      have hkl : k < p.flows.length := by omega
      have HK := Lib.hid hk
      have HT1 := Lib.hid (twinProg_any p _ wr (HP.out.ext (e0.trans rE)))
      clear hk m1 m2
      obtain ⟨x, hx⟩ : ∃ x, p.flows[k]? = some x := ⟨_, List.getElem?_eq_getElem hkl⟩
      have HX := Lib.hid hx
      obtain ⟨_, _, e, _, _, _, hr, _⟩ := HF.out
      simp only [Value.slice.injEq, true_and] at e
      obtain ⟨rfl, rfl⟩ := e
      obtain ⟨_, _, _, _, b, o, rfl, _, _, c0, c1, c2, c3, _, _, k7, v, hvx, c4, c5, c6, c7⟩ := hr _ _ hx
      obtain ⟨va, vc, rfl, _⟩ := hvx.form
      have HVX := Lib.hid hvx
      have hfine := HF.out.fine hx
      have hty : x.ty = 1 ∨ x.ty = 2 := names0_ty (types0 HN.out).1 x (List.mem_of_getElem? hx)
      have hnd : nodesE x.body ≤ 200 := by have := (okE_iff.1 (ty_ok (p := p) (x := x.body) (by rw [types0_body HN.out (List.mem_of_getElem? hx)])).1).2; omega
      have HLAW := Lib.hid (flows_law HN.out hx)
      have HR := Lib.hid (fun (X : World) (hX : Ext w X) => refs_any x.body _ X (HVX.out.ext hX) k7 (by omega))
      have d0 : ∀ X, Ext W0 X → X.cell? _ = some _ := fun X hX => Ext.cell (e0.trans hX) c0
      have d1 : ∀ X, Ext W0 X → X.cell? _ = some _ := fun X hX => Ext.cell (e0.trans hX) c1
      have d4 : ∀ X, Ext W0 X → X.cell? _ = some _ := fun X hX => Ext.cell (e0.trans hX) c4
      have d5 : ∀ X, Ext W0 X → X.cell? _ = some _ := fun X hX => Ext.cell (e0.trans hX) c5
      have d6 : ∀ X, Ext W0 X → X.cell? _ = some _ := fun X hX => Ext.cell (e0.trans hX) c6
      have d7 : ∀ X, Ext W0 X → X.cell? _ = some _ := fun X hX => Ext.cell (e0.trans hX) c7
      have HFX := Lib.hid hfine
      have HTY := Lib.hid hty
      have hkq : (k : Int) < (p.flows.length : Int) := by omega
      clear hx hr c0 c1 c2 c3 c4 c5 c6 c7 hvx hfine hty HB
      go_wp2_with fail
      rw [HK.out]
      refine HT1.out.mono ?_
      rintro e w4 ⟨vi1, vf1, vo1, qs1, rfl, ht1⟩
      obtain ⟨ti1, di1, rfl, _⟩ : ∃ ti di, vi1 = .slice ti p.ins.length di ∧ True := by obtain ⟨g, _, h, _⟩ := ht1.ins.block; exact ⟨_, _, h, trivial⟩
      obtain ⟨to1, do1, rfl, _⟩ : ∃ ti di, vo1 = .slice ti p.outs.length di ∧ True := by obtain ⟨g, _, h, _⟩ := ht1.outs.block; exact ⟨_, _, h, trivial⟩
      obtain ⟨g1, cur0, rfl, hg1, hgb, hgs⟩ := ht1.flows.block
      have HTW1 := Lib.hid ht1
      have hqs1 : qs1.length = p.flows.length := by rw [← ht1.fst, List.length_map]
      have hsh := TwRow.short ht1.flows
      rw [← hqs1, take_flat flP_len, hqs1] at hsh
      obtain ⟨cur1, hcur1, hsz1, hrow1, hc1, hc2, hgb2⟩ := RowOf.own (r := []) (ps := qs1) flP_len (by simpa using hsh)
      have ET1 := ht1.ext
      obtain ⟨uk1, hrk1⟩ : ∃ u, qs1[k]? = some (x, u) := by
        have h1 : (qs1.map (·.1))[k]? = some x := by rw [ht1.fst]; exact HX.out
        rw [List.getElem?_map, List.getElem?_eq_getElem (by omega)] at h1
        rw [List.getElem?_eq_getElem (show k < qs1.length by omega)]
        simp only [Option.map_some, Option.some.injEq] at h1
        exact ⟨_, congrArg some (Prod.ext h1 rfl)⟩
      clear ht1 HT1 hgb hgs hsh cur0 hc1 hc2 hgb2
      have hgw1 : g1 < w4.heap.size := lt_of_block hcur1
      go_upto_region 16 with (fail)
      generalize hV : w4.alloc _ = V
      obtain ⟨sV1, bV1, eV1⟩ := chain1 hV
      clear hV
      generalize hQ : w4.heap.size = Q at *
      have HQ1 := Lib.hid hQ
      clear hQ
      have FV := (rE.trans ET1).trans eV1
      have hcurV1 := Ext.heap eV1 hcur1
      have hQg1 : Q ≠ g1 := by have := HQ1.out; omega
      have z0 : ∀ X, Ext V X → X.cell? ⟨Q, 0, none⟩ = some (.int .i64 p.st) := fun X hX => (blk_cell (Ext.heap hX bV1) 0).trans rfl
      have z1 : ∀ X, Ext V X → X.cell? ⟨Q, 1, none⟩ = some (.slice ti1 p.ins.length di1) := fun X hX => (blk_cell (Ext.heap hX bV1) 1).trans rfl
      have z2 : ∀ X, Ext V X → X.cell? ⟨Q, 2, none⟩ = some (.slice (some ⟨g1, 0, none⟩) p.flows.length (p.flows.length + 1)) := fun X hX => (blk_cell (Ext.heap hX bV1) 2).trans rfl
      have z3 : ∀ X, Ext V X → X.cell? ⟨Q, 3, none⟩ = some (.slice to1 p.outs.length do1) := fun X hX => (blk_cell (Ext.heap hX bV1) 3).trans rfl
      have t1 : V.cell? ⟨g1, k * 8 + 1, none⟩ = some (.int .u8 x.ty) := by rw [blk_cell hcurV1, hrow1 k _ hrk1 1 (by omega)]; rfl
      have f1 : V.frozen? ⟨g1, k * 8 + 1, none⟩ = false := blk_free hcurV1 _
      have hw3 : IntKind.u8.wrap (3 - x.ty) = 3 - x.ty := by rcases HTY.out with h | h <;> rw [h] <;> rfl
      have zz2 := z2 V (Chg.refl _ _)
      go_wp2_with fail
      go_region
      have G5 : (V.setCell ⟨g1, k * 8 + 1, none⟩ (.int .u8 (3 - x.ty))).drew.heap[g1]? = some (.cells (cur1.setIfInBounds (k * 8 + 1) (.int .u8 (3 - x.ty))) 50 (0, 0)) := (drew_heap _ _).trans (blk_set hcurV1 _ _)
      have C5 : Chg (fun q => q = g1) V (V.setCell ⟨g1, k * 8 + 1, none⟩ (.int .u8 (3 - x.ty))).drew := ((Chg.refl _ _).setCell _ _ (.inl (Eq.refl g1))).drew
      have R5 := hrow1.set (j := 1) (x' := (chF x (3 - x.ty) x.df, uk1)) (u := .int .u8 (3 - x.ty)) hrk1 (by omega) (by omega) (fun c hc hne => by
        match c, hc, hne with
        | 0, _, _ => rfl
        | 1, _, hne => exact absurd rfl hne
        | 2, _, _ => rfl
        | 3, _, _ => rfl
        | 4, _, _ => rfl
        | 5, _, _ => rfl
        | 6, _, _ => rfl
        | 7, _, _ => rfl
        | n + 8, hc, _ => omega) rfl
      generalize (V.setCell ⟨g1, k * 8 + 1, none⟩ (.int .u8 (3 - x.ty))).drew = W5 at *
      have HP5 := Lib.hid (tw_put HP.out HTW1.out hg1 eV1 hcurV1 C5 G5 R5 hrk1 rfl (by obtain ⟨a1, a2, a3⟩ := HFX.out; exact ⟨a1, by have := HTY.out; simp only [chF, isU8]; omega, a3⟩))
      have bQ := C5.heap bV1 hQg1
      have FW5 : Ext W0 W5 := Ext.then FV C5 (fun b hb => by have := rE.size; omega)
      have HC1 := Lib.hid (fun (X : World) (hX : Ext W5 X) => tyCheck_any _ _ X (HP5.out.ext hX))
      clear z0 z1 z2 z3 t1 f1 hw3 zz2 G5 C5 R5 HP5
      have z0 : ∀ X, Ext W5 X → X.cell? ⟨Q, 0, none⟩ = some (.int .i64 p.st) := fun X hX => (blk_cell (Ext.heap hX bQ) 0).trans rfl
      have z1 : ∀ X, Ext W5 X → X.cell? ⟨Q, 1, none⟩ = some (.slice ti1 p.ins.length di1) := fun X hX => (blk_cell (Ext.heap hX bQ) 1).trans rfl
      have z2 : ∀ X, Ext W5 X → X.cell? ⟨Q, 2, none⟩ = some (.slice (some ⟨g1, 0, none⟩) p.flows.length (p.flows.length + 1)) := fun X hX => (blk_cell (Ext.heap hX bQ) 2).trans rfl
      have z3 : ∀ X, Ext W5 X → X.cell? ⟨Q, 3, none⟩ = some (.slice to1 p.outs.length do1) := fun X hX => (blk_cell (Ext.heap hX bQ) 3).trans rfl
      have HT2 := Lib.hid (twinProg_any p _ W5 (HP.out.ext (e0.trans FW5)))
      clear hcur1 hcurV1 hrow1 hrk1 HTW1
      go_wp2_with fail
      refine HT2.out.mono ?_
      rintro e w6 ⟨vi2, vf2, vo2, qs2, rfl, ht2⟩
      obtain ⟨ti2, di2, rfl, _⟩ : ∃ ti di, vi2 = .slice ti p.ins.length di ∧ True := by obtain ⟨g, _, h, _⟩ := ht2.ins.block; exact ⟨_, _, h, trivial⟩
      obtain ⟨to2, do2, rfl, _⟩ : ∃ ti di, vo2 = .slice ti p.outs.length di ∧ True := by obtain ⟨g, _, h, _⟩ := ht2.outs.block; exact ⟨_, _, h, trivial⟩
      obtain ⟨g2, cur0, rfl, hg2, hgb, hgs⟩ := ht2.flows.block
      have HTW2 := Lib.hid ht2
      have hqs2 : qs2.length = p.flows.length := by rw [← ht2.fst, List.length_map]
      have hsh := TwRow.short ht2.flows
      rw [← hqs2, take_flat flP_len, hqs2] at hsh
      obtain ⟨cur2, hcur2, hsz2, hrow2, hc1, hc2, hgb2⟩ := RowOf.own (r := []) (ps := qs2) flP_len (by simpa using hsh)
      have ET2 := ht2.ext
      obtain ⟨uk2, hrk2⟩ : ∃ u, qs2[k]? = some (x, u) := by
        have h1 : (qs2.map (·.1))[k]? = some x := by rw [ht2.fst]; exact HX.out
        rw [List.getElem?_map, List.getElem?_eq_getElem (by omega)] at h1
        rw [List.getElem?_eq_getElem (show k < qs2.length by omega)]
        simp only [Option.map_some, Option.some.injEq] at h1
        exact ⟨_, congrArg some (Prod.ext h1 rfl)⟩
      clear ht2 HT2 hgb hgs hsh cur0 hc1 hc2 hgb2
      have hgw2 : g2 < w6.heap.size := lt_of_block hcur2
      go_upto_region 18 with (fail)
      generalize hV : w6.alloc _ = V2
      obtain ⟨sV2, bV2, eV2⟩ := chain1 hV
      clear hV
      generalize hQ : w6.heap.size = T at *
      have HQ2 := Lib.hid hQ
      clear hQ
      have FV2 := (FW5.trans ET2).trans eV2
      have hcurV2 := Ext.heap eV2 hcur2
      have hQg2 : T ≠ g2 := by have := HQ2.out; omega
      have t3 : V2.cell? ⟨g2, k * 8 + 3, none⟩ = some (.int .i64 x.df) := by rw [blk_cell hcurV2, hrow2 k _ hrk2 3 (by omega)]; rfl
      have f3 : V2.frozen? ⟨g2, k * 8 + 3, none⟩ = false := blk_free hcurV2 _
      have u0 : ∀ X, Ext V2 X → X.cell? ⟨T, 0, none⟩ = some (.int .i64 p.st) := fun X hX => (blk_cell (Ext.heap hX bV2) 0).trans rfl
      have u1 : ∀ X, Ext V2 X → X.cell? ⟨T, 1, none⟩ = some (.slice ti2 p.ins.length di2) := fun X hX => (blk_cell (Ext.heap hX bV2) 1).trans rfl
      have u2 : ∀ X, Ext V2 X → X.cell? ⟨T, 2, none⟩ = some (.slice (some ⟨g2, 0, none⟩) p.flows.length (p.flows.length + 1)) := fun X hX => (blk_cell (Ext.heap hX bV2) 2).trans rfl
      have u3 : ∀ X, Ext V2 X → X.cell? ⟨T, 3, none⟩ = some (.slice to2 p.outs.length do2) := fun X hX => (blk_cell (Ext.heap hX bV2) 3).trans rfl
      have uu2 := u2 V2 (Chg.refl _ _)
      go_upto_region 19 with (fail)
      have G7 := blk_set hcurV2 (k * 8 + 3) (.int .i64 2)
      have C7 := (Chg.refl (fun q => q = g2) V2).setCell ⟨g2, k * 8 + 3, none⟩ (.int .i64 2) (.inl (Eq.refl g2))
      have R7 := hrow2.set (j := 3) (x' := (chF x x.ty 2, uk2)) (u := .int .i64 2) hrk2 (by omega) (by omega) (fun c hc hne => by
        match c, hc, hne with
        | 0, _, _ => rfl
        | 1, _, _ => rfl
        | 2, _, _ => rfl
        | 3, _, hne => exact absurd rfl hne
        | 4, _, _ => rfl
        | 5, _, _ => rfl
        | 6, _, _ => rfl
        | 7, _, _ => rfl
        | n + 8, hc, _ => omega) rfl
      generalize (V2.setCell ⟨g2, k * 8 + 3, none⟩ (.int .i64 2)) = W7 at *
      have HP7 := Lib.hid (tw_put HP.out HTW2.out hg2 eV2 hcurV2 C7 G7 R7 hrk2 rfl (by obtain ⟨a1, a2, a3, a4, a5⟩ := HFX.out; exact ⟨a1, a2, a3, by simp [chF, isI64], a5⟩))
      have bT := C7.heap bV2 hQg2
      have FW7 : Ext W0 W7 := Ext.then FV2 C7 (fun b hb => by have := FW5.size; omega)
      have L57 : Ext W5 W7 := Ext.then (ET2.trans eV2) C7 (fun b hb => by omega)
      have HC2 := Lib.hid (fun (X : World) (hX : Ext W7 X) => tyCheck_any _ _ X (HP7.out.ext hX))
      clear u0 u1 u2 u3 t3 f3 uu2 G7 C7 R7 HP7 hcur2 hcurV2 hrow2 hrk2 HTW2
      have u0 : ∀ X, Ext W7 X → X.cell? ⟨T, 0, none⟩ = some (.int .i64 p.st) := fun X hX => (blk_cell (Ext.heap hX bT) 0).trans rfl
      have u1 : ∀ X, Ext W7 X → X.cell? ⟨T, 1, none⟩ = some (.slice ti2 p.ins.length di2) := fun X hX => (blk_cell (Ext.heap hX bT) 1).trans rfl
      have u2 : ∀ X, Ext W7 X → X.cell? ⟨T, 2, none⟩ = some (.slice (some ⟨g2, 0, none⟩) p.flows.length (p.flows.length + 1)) := fun X hX => (blk_cell (Ext.heap hX bT) 2).trans rfl
      have u3 : ∀ X, Ext W7 X → X.cell? ⟨T, 3, none⟩ = some (.slice to2 p.outs.length do2) := fun X hX => (blk_cell (Ext.heap hX bT) 3).trans rfl
      generalize typesP (putP p k (chF x (3 - x.ty) x.df)) = nq at *
      generalize typesP (putP p k (chF x x.ty 2)) = nr at *
      have nL0 := gthE_le x.body [] 0
      generalize gthE [] 0 x.body = L at *
      have nL : L.length ≤ 9000000000000000000 := by simp only [List.length_nil] at nL0; omega
      go_wp2_with fail
      refine (HR.out _ (e0.trans FW7)).mono ?_
      rintro e w8 ⟨sv, rfl, V8, E8⟩
      obtain ⟨ar, cr, rfl⟩ := V8.form
      go_wp2_with fail
      go_loopw [12, 14] (fun ow jv wr => ∃ j : Nat, j ≤ L.length ∧ ow = .bool (ownB x.name L j) ∧ jv = .int .i64 j ∧ Ext w8 wr) (fun _ j _ => L.length - (intOf j).toNat)
      case atStart => exact ⟨0, Nat.zero_le _, rfl, rfl, Chg.refl _ _⟩
      case round =>
        obtain ⟨j, hj, rfl, rfl, rX⟩ := hrel
        have rW7 := E8.trans rX
        have rE := FW7.trans rW7
        by_cases hlt : j < L.length
        · have hx := List.getElem?_eq_getElem hlt
          have hst := ownB_step (nm := x.name) hx
          have HST := Lib.hid hst
          clear hst
          by_cases ho : ownB x.name L j = true
          · have hn1 : ownB x.name L (j + 1) = true := by rw [HST.out, ho]; rfl
            rw [ho]
            clear hx
            go_wp2_with fail
            go_region
            go_wp2_with fail
            go_roundw
            case rel => exact ⟨j + 1, by omega, by rw [hn1], by go_num, rX.drew⟩
            case measure => simp [intOf]; omega
          · have ho' : ownB x.name L j = false := by simpa using ho
            have hn1 : ownB x.name L (j + 1) = (L[j].1.toList == x.name.toList) := by rw [HST.out, ho']; rfl
            rw [ho']
            obtain ⟨gr, rfl, c0, c1⟩ := (V8.chg rX (fun _ _ h => h)).get hx
            have hjq : (j : Int) < (L.length : Int) := by omega
            have HN1 := Lib.hid hn1
            generalize L[j] = r at *
            clear hx hn1 c1 HST
            go_wp2_with fail
            go_region
            go_wp2_with fail
            go_roundw
            case rel => exact ⟨j + 1, by omega, by rw [HN1.out], by go_num, rX.drew⟩
            case measure => simp [intOf]; omega
        · obtain rfl : j = L.length := by omega
          obtain ⟨g1', hfin⟩ := HLAW.out
          have rW7d : Ext W7 wr.drew := rW7.drew
          have z0 : ∀ X, Ext W7 X → X.cell? ⟨Q, 0, none⟩ = some (.int .i64 p.st) := fun X hX => z0 X (L57.trans hX)
          have z1 : ∀ X, Ext W7 X → X.cell? ⟨Q, 1, none⟩ = some (.slice ti1 p.ins.length di1) := fun X hX => z1 X (L57.trans hX)
          have z2 : ∀ X, Ext W7 X → X.cell? ⟨Q, 2, none⟩ = some (.slice (some ⟨g1, 0, none⟩) p.flows.length (p.flows.length + 1)) := fun X hX => z2 X (L57.trans hX)
          have z3 : ∀ X, Ext W7 X → X.cell? ⟨Q, 3, none⟩ = some (.slice to1 p.outs.length do1) := fun X hX => z3 X (L57.trans hX)
          have y2 : ∀ X, Ext W7 X → X.cell? ⟨w.heap.size, 2, none⟩ = some (.slice (some ⟨b, o, none⟩) p.flows.length cf) := fun X hX => y2 X (FW7.trans hX)
          have d1 : ∀ X, Ext W7 X → X.cell? _ = some _ := fun X hX => d1 X (FW7.trans hX)
          clear d0 d4 d5 d6 d7 y0 y1 y3 rE
          have HE := Lib.hid (e0.trans FW7)
          by_cases ho : ownB x.name L L.length = true
          · rw [ho]
            clear HC1
            go_wp2_with fail
            go_region_with (first
                | (go_at_call 32; refine (HC2.out _ rW7d).mono ?_; rintro e w9 ⟨rfl, E9⟩; have R9 := rW7d.trans E9))
            all_goals (
              go_wp2_with fail
              go_ret
              exact ⟨rfl, HE.out.trans R9⟩)
          · have ho' : ownB x.name L L.length = false := by simpa using ho
            have h7 := g1' ho'
            rw [ho']
            subst h7
            go_wp2_with fail
            go_region_held3 (fun X => Ext W7 X) (first | assumption)
              (first
                | (have _ := R9; go_at_call 32; refine (HC2.out _ R9).mono ?_; rintro e w10 ⟨rfl, E10⟩; have R10 := R9.trans E10)
                | (go_at_call 32; refine (HC1.out _ (L57.trans rW7d)).mono ?_; rintro e w9 ⟨rfl, E9⟩; have R9 := rW7d.trans E9))
            go_wp2_with fail
            go_ret
            exact ⟨rfl, HE.out.trans R10⟩
end Go.Proofs.Ytcbdeoekehkbiaa
