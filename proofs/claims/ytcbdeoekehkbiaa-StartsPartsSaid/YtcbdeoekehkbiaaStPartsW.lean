/- StartsParts answers true. -/
import Derived.Test.YtcbdeoekehkbiaaStAlive
import Derived.Test.YtcbdeoekehkbiaaStGreat
import Derived.Test.YtcbdeoekehkbiaaStNms
namespace Go.Proofs.Ytcbdeoekehkbiaa
open Go.RowKit
set_option linter.unusedVariables false
set_option linter.unusedSimpArgs false

set_option maxRecDepth 100000 in
set_option maxHeartbeats 8000000 in
theorem startsParts_any (p : PrD) (cs : Array Value) (x : Ex) (cx : Array Value) (w : World) (h : RdPr w 0 false p cs) (hx : RdEx w 0 false x cx.toList) : Calls Try.prog 4 #[.agg cs, .agg cx] w (RetT w) := by
  obtain ⟨v, hop, hn, hnm, hv, rfl⟩ : ∃ v, isU8 x.op ∧ isI64 x.n ∧ x.name.size ≤ maxLen ∧ RdExV w 0 false x.args v ∧ cx = #[.int .u8 x.op, .int .i64 x.n, .string x.name, v] := by
    obtain ⟨op, n, nm, args⟩ := x
    obtain ⟨v, e, h1, h2, h3, h4⟩ := hx.open
    exact ⟨v, h1, h2, h3, h4, by obtain ⟨l⟩ := cx; have e2 : l = [.int .u8 op, .int .i64 n, .string nm, v] := e; subst e2; rfl⟩
  clear hx
  have HP := Lib.hid h
  have HV := Lib.hid hv
  obtain ⟨a, cap, rfl, _⟩ := hv.form
  clear hv
  obtain ⟨ai, ci, af, cf, ao, co, rfl⟩ := pr_form h
  clear h
  have HA := Lib.hid stAlive_any
  go_enter Try.func4, Try.ntmps4
  go_wp2_with fail
  have e0 := (Chg.refl (fun _ => False) w).alloc (.cells #[.int .i64 p.st, .slice ai p.ins.length ci, .slice af p.flows.length cf, .slice ao p.outs.length co] 36)
  have bP := heap_alloc_new w (.cells #[.int .i64 p.st, .slice ai p.ins.length ci, .slice af p.flows.length cf, .slice ao p.outs.length co] 36)
  have bX := heap_alloc_new (w.alloc (.cells #[.int .i64 p.st, .slice ai p.ins.length ci, .slice af p.flows.length cf, .slice ao p.outs.length co] 36)) (.cells #[.int .u8 x.op, .int .i64 x.n, .string x.name, .slice a x.args.length cap] 25)
  rw [World.size_alloc] at bX
  have e1 := (Chg.refl (fun _ => False) (w.alloc (.cells #[.int .i64 p.st, .slice ai p.ins.length ci, .slice af p.flows.length cf, .slice ao p.outs.length co] 36))).alloc (.cells #[.int .u8 x.op, .int .i64 x.n, .string x.name, .slice a x.args.length cap] 25)
  have bP := Ext.heap e1 bP
  have e0 := e0.trans e1
  clear e1
  generalize ((w.alloc (.cells #[.int .i64 p.st, .slice ai p.ins.length ci, .slice af p.flows.length cf, .slice ao p.outs.length co] 36)).alloc (.cells #[.int .u8 x.op, .int .i64 x.n, .string x.name, .slice a x.args.length cap] 25)) = W0 at *
  have y0 : ∀ X, Ext W0 X → X.cell? ⟨w.heap.size, 0, none⟩ = some (.int .i64 p.st) := fun X hX => (blk_cell (Ext.heap hX bP) 0).trans rfl
  have y1 : ∀ X, Ext W0 X → X.cell? ⟨w.heap.size, 1, none⟩ = some (.slice ai p.ins.length ci) := fun X hX => (blk_cell (Ext.heap hX bP) 1).trans rfl
  have y2 : ∀ X, Ext W0 X → X.cell? ⟨w.heap.size, 2, none⟩ = some (.slice af p.flows.length cf) := fun X hX => (blk_cell (Ext.heap hX bP) 2).trans rfl
  have y3 : ∀ X, Ext W0 X → X.cell? ⟨w.heap.size, 3, none⟩ = some (.slice ao p.outs.length co) := fun X hX => (blk_cell (Ext.heap hX bP) 3).trans rfl
  have x0 : ∀ X, Ext W0 X → X.cell? ⟨w.heap.size + 1, 0, none⟩ = some (.int .u8 x.op) := fun X hX => (blk_cell (Ext.heap hX bX) 0).trans rfl
  have x1 : ∀ X, Ext W0 X → X.cell? ⟨w.heap.size + 1, 1, none⟩ = some (.int .i64 x.n) := fun X hX => (blk_cell (Ext.heap hX bX) 1).trans rfl
  have x2 : ∀ X, Ext W0 X → X.cell? ⟨w.heap.size + 1, 2, none⟩ = some (.string x.name) := fun X hX => (blk_cell (Ext.heap hX bX) 2).trans rfl
  have x3 : ∀ X, Ext W0 X → X.cell? ⟨w.heap.size + 1, 3, none⟩ = some (.slice a x.args.length cap) := fun X hX => (blk_cell (Ext.heap hX bX) 3).trans rfl
  have ed : ∀ X, Ext W0 X → Ext W0 X.drew := fun X hX => hX.drew
  have ea : ∀ X o, Ext W0 X → Ext W0 (X.alloc o) := fun X o hX => hX.alloc o
  refine (HA.out _).mono ?_
  rintro e w1 ⟨rfl, E1⟩
  have HG := Lib.hid (stGreat_any p _ _ (HP.out.ext (e0.trans E1)))
  go_wp2_with fail
  refine HG.out.mono ?_
  rintro e w2 ⟨b, rfl, E2'⟩
  have F2 := E1.trans E2'
  clear HG E2' E1
  cases b
  case true =>
    go_wp2_with fail
    refine (HA.out _).mono ?_
    rintro e w3 ⟨rfl, E3⟩
    go_wp2_with fail
    go_ret
    exact ⟨rfl, (e0.trans F2).trans E3⟩
  have HZ := Lib.hid (exprSize_any x _ w2 (HV.out.ext (e0.trans F2)))
  go_wp2_with fail
  refine HZ.out.mono ?_
  rintro e w3 ⟨m, rfl, E3⟩
  have F3 := F2.trans E3
  clear HZ E3 F2
  by_cases hm : 20000 < m
  · go_wp2_with fail
    refine (HA.out _).mono ?_
    rintro e w4 ⟨rfl, E4⟩
    go_wp2_with fail
    go_ret
    exact ⟨rfl, (e0.trans F3).trans E4⟩
  clear HA
  obtain ⟨xop, xn, xnm, args⟩ := x
  simp only [Ex.op, Ex.n, Ex.name, Ex.args] at *
  have HPT := Lib.hid (fun (y : Ex) (h : (stP p (.mk xop xn xnm args)).2 = 0) (hy : y ∈ args) => st_part h hy)
  have HNO := Lib.hid (fun (h : (stP p (.mk xop xn xnm args)).2 ≠ 0) => st_no h)
  have HOK := Lib.hid (fun (h : (stP p (.mk xop xn xnm args)).2 = 0) => st_ok h)
  have HO := Lib.hid (stOf_any p (.mk xop xn xnm args) _ _ w3 (HP.out.ext (e0.trans F3)) (HV.out.ext (e0.trans F3)) hnm)
  have HCE := Lib.hid (fun (X : World) (hX : Ext w X) => exCheck_any (.mk xop xn xnm args) _ X (HV.out.ext hX) hnm)
  have n1 : args.length ≤ 9000000000000000000 := by obtain ⟨_, _, _, hf, _⟩ := HV.out.form; unfold fitsR at hf; omega
  generalize hq : stP p (.mk xop xn xnm args) = q at *
  have HQ := Lib.hid hq
  clear hq
  obtain ⟨qa, qb⟩ := q
  simp only at HPT HNO HOK HO
  go_wp2_with fail
  refine HO.out.mono ?_
  rintro e w4 ⟨rfl, E4⟩
  have F4 := F3.trans E4
  clear HO E4
  by_cases hb : qb = 0
  case neg =>
    have b1 : (qb != 0) = true := by simpa using hb
    obtain ⟨rfl, h2⟩ := HNO.out hb
    have HE := Lib.hid h2
    generalize okE 32 200 (.mk xop xn xnm args) = ok at *
    clear h2 hb HNO HOK HPT
    go_wp2_with fail
    refine (HCE.out _ (e0.trans F4)).mono ?_
    rintro e w5 ⟨rfl, E5⟩
    have hfin : ((qb == 1) == !ok) = true := by rw [HE.out]; simp
    go_wp2_with fail
    go_ret
    exact ⟨rfl, (e0.trans F4).trans E5⟩
  subst hb
  obtain ⟨h1, h2, h3⟩ := HOK.out rfl
  have hlen := ok_len h1
  simp only [Prod.mk.injEq, and_true] at h3
  have HL := Lib.hid hlen
  have HN := Lib.hid h3
  have hofb := ofL_bound args
  have hnd := (okE_iff.1 h1).2
  simp only [nodesE] at hnd
  have HB := Lib.hid (fun y hy => And.intro (hofb y hy).1 (Int.le_trans (hofb y hy).2 (show (nodesL args : Int) ≤ 200 by omega)))
  have hll := ofL_len args
  have HLL := Lib.hid hll
  clear h1 h2 h3 hlen hofb hnd hll HNO HOK HCE
  go_wp2_with fail
  go_loopw [7, 8, 9, 10] (fun mv lv fv iv wr => ∃ (i : Nat) (l : List Int), i ≤ args.length ∧ l.length = i ∧ iv = .int .i64 i ∧ l = (ofL args).take i ∧ mv = .int .i64 (maxL l) ∧ lv = .int .i64 (lastL l) ∧ fv = .int .i64 (firstL l) ∧ Ext W0 wr) (fun _ _ _ i _ => args.length - (intOf i).toNat)
  case atStart => exact ⟨0, [], Nat.zero_le _, rfl, rfl, rfl, rfl, rfl, rfl, F4⟩
  case round =>
    obtain ⟨i, l, hi, hl1, rfl, hl, rfl, rfl, rfl, rE⟩ := hrel
    have HLi := Lib.hid hl
    have HL1 := Lib.hid hl1
    clear hl hl1
    by_cases hlt : i < args.length
    · have hx := List.getElem?_eq_getElem hlt
      have q1 : (i : Int) < (args.length : Int) := by omega
      have hyp := HPT.out _ trivial (List.getElem_mem hlt)
      have hob : 0 ≤ ofE args[i] ∧ ofE args[i] ≤ 200 := HB.out _ (by
        have := List.mem_of_getElem? (show (ofL args)[i]? = some (ofE args[i]) by rw [ofL_get, hx]; rfl)
        exact this)
      have htk := of_take hx
      rw [← HLi.out] at htk
      have HTK := Lib.hid htk
      obtain ⟨b, o, v0, hbo, _, hbl, c0, c1, c2, c3, _, _, hyn, hvx⟩ := (HV.out).get hx
      subst hbo
      have d0 : ∀ X, Ext W0 X → X.cell? ⟨b, o + i * 4, none⟩ = _ := fun X hX => Ext.cell (e0.trans hX) c0
      have d1 : ∀ X, Ext W0 X → X.cell? ⟨b, o + i * 4 + 1, none⟩ = _ := fun X hX => Ext.cell (e0.trans hX) c1
      have d2 : ∀ X, Ext W0 X → X.cell? ⟨b, o + i * 4 + 2, none⟩ = _ := fun X hX => Ext.cell (e0.trans hX) c2
      have d3 : ∀ X, Ext W0 X → X.cell? ⟨b, o + i * 4 + 3, none⟩ = _ := fun X hX => Ext.cell (e0.trans hX) c3
      generalize args[i] = y at *
      obtain ⟨a2, cap2, rfl, _⟩ := hvx.form
      have HO := Lib.hid (stOf_is p y _ _ _ _ wr.drew (HP.out.ext (e0.trans rE).drew) (hvx.ext (e0.trans rE).drew) hyn hyp)
      clear hx hyp htk c0 c1 c2 c3 hvx
      generalize hk : ofE y = k at *
      clear hk
      have ED : Ext W0 wr.drew := rE.drew
      go_wp2_with fail
      go_region_held3 (fun X => Ext W0 X) (first | assumption)
        (first
          | (go_at_call 20; refine HO.out.mono ?_; rintro e w7 ⟨rfl, E7⟩; have F7 := ED.trans E7))
      have hm0 : 0 ≤ maxL l ∧ maxL l ≤ 200 := by
        refine maxL_bound (by omega) (fun z hz => ?_)
        rw [HLi.out] at hz
        exact (HB.out z (List.mem_of_mem_take hz)).2
      have hkn : (k < 0) = False := by simp; omega
      have hfs := firstL_snoc l k
      rw [HL1.out] at hfs
      have HFS := Lib.hid hfs
      clear hfs
      by_cases hi0 : i = 0
      · have b0 : ((i : Int) == 0) = true := by simp [hi0]
        have HI0 := Lib.hid hi0
        clear hi0
        go_wp2_with fail
        go_roundw
        case rel => exact ⟨i + 1, l ++ [k], by omega, by rw [List.length_append, HL1.out]; rfl, by go_num, HTK.out.symm, by rw [maxL_snoc, ← max_ite], by rw [lastL_snoc], by rw [HFS.out, if_pos HI0.out], F7⟩
        case measure => simp [intOf]; omega
      · have b0 : ((i : Int) == 0) = false := by simp [hi0]
        have HI0 := Lib.hid hi0
        clear hi0
        go_wp2_with fail
        go_roundw
        case rel => exact ⟨i + 1, l ++ [k], by omega, by rw [List.length_append, HL1.out]; rfl, by go_num, HTK.out.symm, by rw [maxL_snoc, ← max_ite], by rw [lastL_snoc], by rw [HFS.out, if_neg HI0.out], F7⟩
        case measure => simp [intOf]; omega
    · obtain rfl : i = args.length := by omega
      have hl2 : l = ofL args := by rw [HLi.out, List.take_of_length_le (by rw [HLL.out]; exact Nat.le_refl _)]
      have hofe : qa = ruleP xop l := by rw [hl2]; exact HN.out
      have hm0 : 0 ≤ maxL l ∧ maxL l ≤ 200 := by
        refine maxL_bound (by omega) (fun z hz => ?_)
        rw [hl2] at hz
        exact (HB.out z hz).2
      have HBL : Hid (∀ z, z ∈ l → 0 ≤ z ∧ z ≤ 200) := by rw [hl2]; exact HB
      have HQA := Lib.hid hofe
      clear hl2 hofe
      by_cases h19 : xop = 19
      · subst h19
        have h1 : l.length = 1 := by have := HL.out; rw [show partsP 19 = 1 from rfl] at this; rw [HL1.out]; omega
        have hqa : (qa == maxL l + 1) = true := by
          rw [HQA.out]
          match l, h1 with
          | [k], _ => have := HBL.out k (by simp); simp [ruleP, maxL_one this.1]
        clear h1
        go_wp2_with fail
        go_ret
        exact ⟨rfl, e0.trans rE⟩
      have b19 : (xop == 19) = false := by simp [h19]
      by_cases h18 : xop = 18
      · subst h18
        have h1 : l.length = 2 := by have := HL.out; rw [show partsP 18 = 2 from rfl] at this; rw [HL1.out]; omega
        obtain ⟨k0, k1, rfl⟩ : ∃ k0 k1, l = [k0, k1] := by
          match l, h1 with
          | [k0, k1], _ => exact ⟨k0, k1, rfl⟩
        have hk0 := HBL.out k0 (by simp)
        have hk1 := HBL.out k1 (by simp)
        have hf : firstL [k0, k1] = k0 := rfl
        have hla : lastL [k0, k1] = k1 := rfl
        have HQ2 : Hid (qa = if k0 = 0 ∧ k1 ≤ 1 then 0 else max 1 k1) := by show _ = _; rw [HQA.out]; rfl
        rw [hf, hla]
        clear hf hla h1
        by_cases hz : k0 = 0 ∧ k1 ≤ 1
        · have hqa : qa = 0 := by rw [HQ2.out, if_pos hz]
          obtain ⟨rfl, hz2⟩ := hz
          subst hqa
          go_wp2_with fail
          go_ret
          exact ⟨rfl, e0.trans rE⟩
        · have hqa : qa = max 1 k1 := by rw [HQ2.out, if_neg hz]
          clear HQ2
          by_cases hk : 1 < k1
          · have hqk : qa = k1 := by rw [hqa]; omega
            subst hqk
            have z0 : (qa == 0) = false := by simp; omega
            have z1 : ¬ qa ≤ 1 := by omega
            clear hqa hz
            cases hz0 : (k0 == 0)
            · go_wp2_with fail
              go_ret
              exact ⟨rfl, e0.trans rE⟩
            · go_wp2_with fail
              go_ret
              exact ⟨rfl, e0.trans rE⟩
          · have hqk : qa = 1 := by rw [hqa]; omega
            subst hqk
            have z0 : (k0 == 0) = false := by simp; omega
            clear hqa hz
            go_wp2_with fail
            go_ret
            exact ⟨rfl, e0.trans rE⟩
      have b18 : (xop == 18) = false := by simp [h18]
      have hqa : (qa == maxL l) = true := by rw [HQA.out]; simp [ruleP, h19, h18]
      clear h18 h19
      go_wp2_with fail
      go_ret
      exact ⟨rfl, e0.trans rE⟩
end Go.Proofs.Ytcbdeoekehkbiaa
