/- The document's Of for types. -/
import Derived.Test.YtgfidgbkklideaaTyOfW
import Derived.Test.YtgfidgbkklideaaRefTy
namespace Go.Proofs.Ytgfidgbkklideaa
open Go.RowKit
set_option linter.unusedVariables false
set_option linter.unusedSimpArgs false

set_option maxRecDepth 100000 in
set_option maxHeartbeats 4000000 in
theorem refTyOf_any (p : PrD) (x : Ex) (cs : Array Value) (v : Value) (w : World) (h : RdPr w 0 false p cs) (hv : RdExV w 0 false x.args v) (hnm : x.name.size ≤ maxLen) :
    Calls Try.prog 17 #[.agg cs, .agg #[.int .u8 x.op, .int .i64 x.n, .string x.name, v]] w (RetTO w (tyP p x)) := by
  have H := Lib.hid h
  have HV := Lib.hid hv
  obtain ⟨ai, ci, af, cf, ao, co, rfl⟩ := pr_form h
  clear h
  obtain ⟨a, cap, rfl, _⟩ := hv.form
  clear hv
  have E0 : Ext w ((w.alloc (.cells #[.int .i64 p.st, .slice ai p.ins.length ci, .slice af p.flows.length cf, .slice ao p.outs.length co] 26)).alloc (.cells #[.int .u8 x.op, .int .i64 x.n, .string x.name, .slice a x.args.length cap] 30)) := ((Chg.refl _ _).alloc _).alloc _
  have BX := heap_alloc_new (w.alloc (.cells #[.int .i64 p.st, .slice ai p.ins.length ci, .slice af p.flows.length cf, .slice ao p.outs.length co] 26)) (.cells #[.int .u8 x.op, .int .i64 x.n, .string x.name, .slice a x.args.length cap] 30)
  rw [World.size_alloc] at BX
  have BP := Ext.heap ((Chg.refl (fun _ => False) (w.alloc (.cells #[.int .i64 p.st, .slice ai p.ins.length ci, .slice af p.flows.length cf, .slice ao p.outs.length co] 26))).alloc (.cells #[.int .u8 x.op, .int .i64 x.n, .string x.name, .slice a x.args.length cap] 30)) (heap_alloc_new w (.cells #[.int .i64 p.st, .slice ai p.ins.length ci, .slice af p.flows.length cf, .slice ao p.outs.length co] 26))
  have hq1 : okE 32 200 x = false → tyP p x = (0, 1) := fun h => by unfold tyP; rw [if_pos h]
  have hq2 : okE 32 200 x = true → thereP p (gthE [] 0 x) = false → tyP p x = (0, 6) := fun h h' => by unfold tyP; rw [if_neg (by rw [h]; simp), if_pos h']
  have hq3 : okE 32 200 x = true → thereP p (gthE [] 0 x) = true → tyP p x = if tyE p x = 0 then (0, 7) else (tyE p x, 0) := fun h h' => by unfold tyP; rw [if_neg (by rw [h]; simp), if_neg (by rw [h']; simp)]
  have HQ1 := Lib.hid hq1
  have HQ2 := Lib.hid hq2
  have HQ3 := Lib.hid hq3
  clear hq1 hq2 hq3
  have hchk := refCheck_any x _ _ (HV.out.ext E0) hnm
  generalize hok : okE 32 200 x = ok at *
  have HC := Lib.hid hchk
  clear hchk
  go_enter Try.func17, Try.ntmps17
  go_wp2_with fail
  refine HC.out.mono ?_
  rintro e w1 ⟨rfl, E1⟩
  have F1 := E0.trans E1
  have BX1 := Ext.heap E1 BX
  have BP1 := Ext.heap E1 BP
  clear HC
  cases ok
  · go_wp2_with fail
    refine bodyPost_ret (results_two rfl _ _ _) rfl ⟨?_, F1⟩
    rw [HQ1.out (by trivial)]
    rfl
  · obtain ⟨hwf, hnd⟩ := ok_wf hok
    have hrf := refRefs_any x _ _ (HV.out.ext F1) (by omega)
    have HC := Lib.hid hrf
    clear hrf
    have x0 := blk_cell BX1 0
    have x1 := blk_cell BX1 1
    have x2 := blk_cell BX1 2
    have x3 := blk_cell BX1 3
    simp only [List.getElem?_toArray, List.getElem?_cons_zero, List.getElem?_cons_succ] at x0 x1 x2 x3
    have hgl := gthE_le x [] 0
    simp only [List.length_nil] at hgl
    generalize hl : gthE [] 0 x = l at *
    go_wp2_with fail
    refine HC.out.mono ?_
    rintro e w2 ⟨v2, rfl, V2, E2⟩
    obtain ⟨a2, c2, rfl⟩ := V2.form
    have F2 := F1.trans E2
    have BX2 := Ext.heap E2 BX1
    have BP2 := Ext.heap E2 BP1
    clear HC x0 x1 x2 x3 BX BP BX1 BP1 E0 E1 F1 E2
    go_wp2_with fail
    go_loopw [7] (fun i wr => ∃ k : Nat, k ≤ l.length ∧ i = .int .i64 k ∧ thereP p l = thereP p (l.drop k) ∧ Ext w2 wr) (fun i _ => l.length - (intOf i).toNat)
    case atStart => exact ⟨0, Nat.zero_le _, rfl, rfl, Chg.refl _ _⟩
    case round =>
      obtain ⟨k, hk, rfl, hth, rE⟩ := hrel
      have HT := Lib.hid hth
      clear hth
      have BX3 := Ext.heap rE BX2
      have BP3 := Ext.heap rE BP2
      by_cases hlt : k < l.length
      · have hx := List.getElem?_eq_getElem hlt
        obtain ⟨g, rfl, c0, c1⟩ := (V2.chg rE (fun _ _ h => h)).get hx
        have q1 : (k : Int) < (l.length : Int) := by omega
        have HD := Lib.hid (there_drop (p := p) hx)
        generalize l[k] = r at *
        obtain ⟨r1, r2⟩ := r
        simp only at c0 c1 HD
        have hf := refFind_any p r1 _ wr.drew (H.out.ext (F2.trans rE).drew)
        have y0 := blk_cell BP3 0
        have y1 := blk_cell BP3 1
        have y2 := blk_cell BP3 2
        have y3 := blk_cell BP3 3
        simp only [List.getElem?_toArray, List.getElem?_cons_zero, List.getElem?_cons_succ] at y0 y1 y2 y3
        have z0 := (World.cell?_drew (w := wr) (a := ⟨w.heap.size, 0, none⟩)).trans y0
        have z1 := (World.cell?_drew (w := wr) (a := ⟨w.heap.size, 1, none⟩)).trans y1
        have z2 := (World.cell?_drew (w := wr) (a := ⟨w.heap.size, 2, none⟩)).trans y2
        have z3 := (World.cell?_drew (w := wr) (a := ⟨w.heap.size, 3, none⟩)).trans y3
        have z4 := (World.cell?_drew (w := wr) (a := ⟨g, k * 2, none⟩)).trans c0
        unfold RetFind fourV at hf
        have HF := Lib.hid hf
        clear hf hx y0 y1 y2 y3 c0 c1
        generalize findP r1 p.flows p.ins = q at *
        obtain ⟨qa, qb, qc, qd⟩ := q
        go_wp2_with fail
        go_region_held3 (fun X => X.cell? ⟨w.heap.size, 0, none⟩ = some (.int .i64 p.st) ∧ X.cell? ⟨w.heap.size, 1, none⟩ = some (.slice ai p.ins.length ci) ∧ X.cell? ⟨w.heap.size, 2, none⟩ = some (.slice af p.flows.length cf) ∧ X.cell? ⟨w.heap.size, 3, none⟩ = some (.slice ao p.outs.length co) ∧ X.cell? ⟨g, k * 2, none⟩ = some (.string r1))
          (first | (with_reducible exact ⟨z0, z1, z2, z3, z4⟩) | (with_reducible exact ⟨Ext.cell E5 z0, Ext.cell E5 z1, Ext.cell E5 z2, Ext.cell E5 z3, Ext.cell E5 z4⟩))
          (first
            | (go_at_call 35; refine HF.out.mono ?_; rintro e w5 ⟨rfl, E5⟩))
        have F5 : Ext w2 w5 := rE.drew.trans E5
        clear z0 z1 z2 z3 z4
        cases qd
        · have hfin : thereP p l = false := by rw [HT.out, HD.out]; rfl
          have HFin := Lib.hid hfin
          clear hfin
          go_wp2_with fail
          refine bodyPost_ret (results_two rfl _ _ _) rfl ⟨?_, F2.trans F5⟩
          rw [HQ2.out (by trivial) HFin.out]
          rfl
        · have hfin : thereP p l = thereP p (l.drop (k + 1)) := by rw [HT.out, HD.out]; rfl
          have HFin := Lib.hid hfin
          clear hfin
          go_wp2_with fail
          go_roundw
          case rel => exact ⟨k + 1, by omega, by go_num, HFin.out, F5⟩
          case measure => simp [intOf]; omega
      · obtain rfl : k = l.length := by omega
        have hfin : thereP p l = true := by rw [HT.out, List.drop_length]; rfl
        have HFin := Lib.hid hfin
        clear hfin
        have x0 := blk_cell BX3 0
        have x1 := blk_cell BX3 1
        have x2 := blk_cell BX3 2
        have x3 := blk_cell BX3 3
        simp only [List.getElem?_toArray, List.getElem?_cons_zero, List.getElem?_cons_succ] at x0 x1 x2 x3
        have p0 := blk_cell BP3 0
        have p1 := blk_cell BP3 1
        have p2 := blk_cell BP3 2
        have p3 := blk_cell BP3 3
        simp only [List.getElem?_toArray, List.getElem?_cons_zero, List.getElem?_cons_succ] at p0 p1 p2 p3
        have F6 := F2.trans rE
        have hof := refTy_any p x _ wr _ 32 (HV.out.ext F6) (H.out.ext F6) hwf (by omega)
        have HO := Lib.hid hof
        clear hof
        go_wp2_with fail
        refine HO.out.mono ?_
        rintro e w8 ⟨rfl, E8⟩
        have HQ := Lib.hid (HQ3.out (by trivial) HFin.out)
        generalize tyE p x = t at *
        by_cases ht : t = 0
        · have b0 : (t == 0) = true := by simpa using ht
          have HQQ := Lib.hid (HQ.out.trans (if_pos ht))
          clear ht
          go_wp2_with fail
          refine bodyPost_ret (results_two rfl _ _ _) rfl ⟨?_, F6.trans E8⟩
          rw [HQQ.out]
          rfl
        · have b0 : (t == 0) = false := by simpa using ht
          have HQQ := Lib.hid (HQ.out.trans (if_neg ht))
          clear ht
          go_wp2_with fail
          refine bodyPost_ret (results_two rfl _ _ _) rfl ⟨?_, F6.trans E8⟩
          rw [HQQ.out]
          rfl
end Go.Proofs.Ytgfidgbkklideaa
