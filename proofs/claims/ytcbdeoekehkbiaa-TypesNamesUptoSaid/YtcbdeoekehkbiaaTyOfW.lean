/- types.Of. -/
import Derived.Test.YtcbdeoekehkbiaaStOf
import Derived.Test.YtcbdeoekehkbiaaTyOf
namespace Go.Proofs.Ytcbdeoekehkbiaa
open Go.RowKit
set_option linter.unusedVariables false
set_option linter.unusedSimpArgs false

/-- The plain answer, and the error's number. -/
def tyP (p : PrD) (x : Ex) : Int × Int := if okE 32 200 x = false then (0, 1) else if thereP p (gthE [] 0 x) = false then (0, 6) else if tyE p x = 0 then (0, 7) else (tyE p x, 0)
def RetTO (w : World) (q : Int × Int) (e : Ending) (w' : World) : Prop := e = .returned (.tuple #[.int .u8 q.1, .int .i64 q.2]) ∧ Ext w w'
set_option maxRecDepth 100000 in
set_option maxHeartbeats 4000000 in
theorem tyOf_any (p : PrD) (x : Ex) (cs : Array Value) (v : Value) (w : World) (h : RdPr w 0 false p cs) (hv : RdExV w 0 false x.args v) (hnm : x.name.size ≤ maxLen) :
    Calls Try.prog 30 #[.agg cs, .agg #[.int .u8 x.op, .int .i64 x.n, .string x.name, v]] w (RetTO w (tyP p x)) := by
  have H := Lib.hid h
  have HV := Lib.hid hv
  obtain ⟨ai, ci, af, cf, ao, co, rfl⟩ := pr_form h
  clear h
  obtain ⟨a, cap, rfl, _⟩ := hv.form
  clear hv
  have E0 : Ext w ((w.alloc (.cells #[.int .i64 p.st, .slice ai p.ins.length ci, .slice af p.flows.length cf, .slice ao p.outs.length co] 36)).alloc (.cells #[.int .u8 x.op, .int .i64 x.n, .string x.name, .slice a x.args.length cap] 25)) := ((Chg.refl _ _).alloc _).alloc _
  have BX := heap_alloc_new (w.alloc (.cells #[.int .i64 p.st, .slice ai p.ins.length ci, .slice af p.flows.length cf, .slice ao p.outs.length co] 36)) (.cells #[.int .u8 x.op, .int .i64 x.n, .string x.name, .slice a x.args.length cap] 25)
  rw [World.size_alloc] at BX
  have BP := Ext.heap ((Chg.refl (fun _ => False) (w.alloc (.cells #[.int .i64 p.st, .slice ai p.ins.length ci, .slice af p.flows.length cf, .slice ao p.outs.length co] 36))).alloc (.cells #[.int .u8 x.op, .int .i64 x.n, .string x.name, .slice a x.args.length cap] 25)) (heap_alloc_new w (.cells #[.int .i64 p.st, .slice ai p.ins.length ci, .slice af p.flows.length cf, .slice ao p.outs.length co] 36))
  have hq1 : okE 32 200 x = false → tyP p x = (0, 1) := fun h => by unfold tyP; rw [if_pos h]
  have hq2 : okE 32 200 x = true → thereP p (gthE [] 0 x) = false → tyP p x = (0, 6) := fun h h' => by unfold tyP; rw [if_neg (by rw [h]; simp), if_pos h']
  have hq3 : okE 32 200 x = true → thereP p (gthE [] 0 x) = true → tyP p x = if tyE p x = 0 then (0, 7) else (tyE p x, 0) := fun h h' => by unfold tyP; rw [if_neg (by rw [h]; simp), if_neg (by rw [h']; simp)]
  have HQ1 := Lib.hid hq1
  have HQ2 := Lib.hid hq2
  have HQ3 := Lib.hid hq3
  clear hq1 hq2 hq3
  have hchk := exCheck_any x _ _ (HV.out.ext E0) hnm
  generalize hok : okE 32 200 x = ok at *
  have HC := Lib.hid hchk
  clear hchk
  go_enter Try.func30, Try.ntmps30
  go_wp2_with fail
  refine HC.out.mono ?_
  rintro e w1 ⟨rfl, E1⟩
  have F1 := E0.trans E1
  have BX1 := Ext.heap E1 BX
  have BP1 := Ext.heap E1 BP
  clear HC
  cases ok
  · go_wp2_with fail
    refine bodyPost_ret (results_two rfl _ _ _) rfl ⟨?_, F1⟩
    rw [HQ1.out (by trivial)]
    rfl
  · obtain ⟨hwf, hnd⟩ := ok_wf hok
    have hrf := refs_any x _ _ (HV.out.ext F1) hnm (by omega)
    have HC := Lib.hid hrf
    clear hrf
    have x0 := blk_cell BX1 0
    have x1 := blk_cell BX1 1
    have x2 := blk_cell BX1 2
    have x3 := blk_cell BX1 3
    simp only [List.getElem?_toArray, List.getElem?_cons_zero, List.getElem?_cons_succ] at x0 x1 x2 x3
    have hgl := gthE_le x [] 0
    simp only [List.length_nil] at hgl
    generalize hl : gthE [] 0 x = l at *
    go_wp2_with fail
    refine HC.out.mono ?_
    rintro e w2 ⟨v2, rfl, V2, E2⟩
    obtain ⟨a2, c2, rfl⟩ := V2.form
    have F2 := F1.trans E2
    have BX2 := Ext.heap E2 BX1
    have BP2 := Ext.heap E2 BP1
    clear HC x0 x1 x2 x3 BX BP BX1 BP1 E0 E1 F1 E2
    go_wp2_with fail
    go_loopw [20] (fun i wr => ∃ k : Nat, k ≤ l.length ∧ i = .int .i64 k ∧ thereP p l = thereP p (l.drop k) ∧ Ext w2 wr) (fun i _ => l.length - (intOf i).toNat)
    case atStart => exact ⟨0, Nat.zero_le _, rfl, rfl, Chg.refl _ _⟩
    case round =>
      obtain ⟨k, hk, rfl, hth, rE⟩ := hrel
      have HT := Lib.hid hth
      clear hth
      have BX3 := Ext.heap rE BX2
      have BP3 := Ext.heap rE BP2
      by_cases hlt : k < l.length
      · have hx := List.getElem?_eq_getElem hlt
        obtain ⟨g, rfl, c0, c1⟩ := (V2.chg rE (fun _ _ h => h)).get hx
        have q1 : (k : Int) < (l.length : Int) := by omega
        have HD := Lib.hid (there_drop (p := p) hx)
        generalize l[k] = r at *
        obtain ⟨r1, r2⟩ := r
        simp only at c0 c1 HD
        have hf := find_any p r1 _ (wr.alloc (.cells #[.string r1, .int .i64 r2] 55)) (H.out.ext ((F2.trans rE).alloc _))
        have BP4 := Ext.heap ((Chg.refl (fun _ => False) wr).alloc (.cells #[.string r1, .int .i64 r2] 55)) BP3
        have y0 := blk_cell BP4 0
        have y1 := blk_cell BP4 1
        have y2 := blk_cell BP4 2
        have y3 := blk_cell BP4 3
        simp only [List.getElem?_toArray, List.getElem?_cons_zero, List.getElem?_cons_succ] at y0 y1 y2 y3
        unfold RetFind fourV at hf
        have HF := Lib.hid hf
        clear hf hx
        generalize findP r1 p.flows p.ins = q at *
        obtain ⟨qa, qb, qc, qd⟩ := q
        go_wp2_with fail
        refine HF.out.mono ?_
        rintro e w5 ⟨rfl, E5⟩
        have F5 := (rE.alloc _).trans E5
        cases qd
        · have hfin : thereP p l = false := by rw [HT.out, HD.out]; rfl
          have HFin := Lib.hid hfin
          clear hfin
          go_wp2_with fail
          refine bodyPost_ret (results_two rfl _ _ _) rfl ⟨?_, F2.trans F5⟩
          rw [HQ2.out (by trivial) HFin.out]
          rfl
        · have hfin : thereP p l = thereP p (l.drop (k + 1)) := by rw [HT.out, HD.out]; rfl
          have HFin := Lib.hid hfin
          clear hfin
          go_wp2_with fail
          go_roundw
          case rel => exact ⟨k + 1, by omega, by go_num, HFin.out, F5⟩
          case measure => simp [intOf]; omega
      · obtain rfl : k = l.length := by omega
        have hfin : thereP p l = true := by rw [HT.out, List.drop_length]; rfl
        have HFin := Lib.hid hfin
        clear hfin
        have p0 := blk_cell BP3 0
        have p1 := blk_cell BP3 1
        have p2 := blk_cell BP3 2
        have p3 := blk_cell BP3 3
        simp only [List.getElem?_toArray, List.getElem?_cons_zero, List.getElem?_cons_succ] at p0 p1 p2 p3
        have z0 := (World.cell?_drew (w := wr) (a := ⟨w.heap.size, 0, none⟩)).trans p0
        have z1 := (World.cell?_drew (w := wr) (a := ⟨w.heap.size, 1, none⟩)).trans p1
        have z2 := (World.cell?_drew (w := wr) (a := ⟨w.heap.size, 2, none⟩)).trans p2
        have z3 := (World.cell?_drew (w := wr) (a := ⟨w.heap.size, 3, none⟩)).trans p3
        clear p0 p1 p2 p3
        have F6 := (F2.trans rE).drew
        have BX6 : wr.drew.heap[w.heap.size + 1]? = _ := BX3
        go_wp2_with fail
        go_region_held3 (fun X => X.cell? ⟨w.heap.size, 0, none⟩ = some (.int .i64 p.st) ∧ X.cell? ⟨w.heap.size, 1, none⟩ = some (.slice ai p.ins.length ci) ∧ X.cell? ⟨w.heap.size, 2, none⟩ = some (.slice af p.flows.length cf) ∧ X.cell? ⟨w.heap.size, 3, none⟩ = some (.slice ao p.outs.length co))
          (first | (with_reducible exact ⟨z0, z1, z2, z3⟩) | (with_reducible exact ⟨Ext.cell E7 z0, Ext.cell E7 z1, Ext.cell E7 z2, Ext.cell E7 z3⟩) | (exact ⟨Ext.cell (Chg.alloc (Chg.refl _ _) _) (Ext.cell E7 z0), Ext.cell (Chg.alloc (Chg.refl _ _) _) (Ext.cell E7 z1), Ext.cell (Chg.alloc (Chg.refl _ _) _) (Ext.cell E7 z2), Ext.cell (Chg.alloc (Chg.refl _ _) _) (Ext.cell E7 z3)⟩))
          (first
            | (go_at_call 50; refine (trules_one _).mono ?_; rintro e w7 ⟨rfl, hR7, E7⟩))
        have K8 : Ext w7 (w7.alloc (.cells #[.int .i64 p.st, .slice ai p.ins.length ci, .slice af p.flows.length cf, .slice ao p.outs.length co, .map (some (wr.heap.size + 7))] 94)) := (Chg.refl _ _).alloc _
        have hCk : CkAt (w7.alloc (.cells #[.int .i64 p.st, .slice ai p.ins.length ci, .slice af p.flows.length cf, .slice ao p.outs.length co, .map (some (wr.heap.size + 7))] 94)) w7.heap.size (wr.heap.size + 7) #[.int .i64 p.st, .slice ai p.ins.length ci, .slice af p.flows.length cf, .slice ao p.outs.length co] := heap_alloc_new w7 _
        have F8 := (F6.trans E7).trans K8
        have BX8 := Ext.heap K8 (Ext.heap E7 BX6)
        have hty := ty_any p x _ _ _ w7.heap.size (wr.heap.size + 7) wr.heap.size 32 (HV.out.ext F8) (H.out.ext F8) hCk (hR7.ext K8) hwf (by omega)
        have HO := Lib.hid hty
        clear hty hCk hR7 E7 z0 z1 z2 z3 K8
        have x0 := blk_cell BX8 0
        have x1 := blk_cell BX8 1
        have x2 := blk_cell BX8 2
        have x3 := blk_cell BX8 3
        simp only [List.getElem?_toArray, List.getElem?_cons_zero, List.getElem?_cons_succ] at x0 x1 x2 x3
        go_wp2_with fail
        refine HO.out.mono ?_
        rintro e w9 ⟨rfl, E9⟩
        have HQ := Lib.hid (HQ3.out (by trivial) HFin.out)
        generalize tyE p x = t at *
        by_cases ht : t = 0
        · have b0 : (t == 0) = true := by simpa using ht
          have HQQ := Lib.hid (HQ.out.trans (if_pos ht))
          have ht2 := Lib.hid ht
          clear ht
          go_wp2_with fail
          refine bodyPost_ret (results_two rfl _ _ _) rfl ⟨?_, F8.trans E9⟩
          rw [HQQ.out, ← ht2.out]
          rfl
        · have b0 : (t == 0) = false := by simpa using ht
          have HQQ := Lib.hid (HQ.out.trans (if_neg ht))
          clear ht
          go_wp2_with fail
          refine bodyPost_ret (results_two rfl _ _ _) rfl ⟨?_, F8.trans E9⟩
          rw [HQQ.out]
          rfl
end Go.Proofs.Ytcbdeoekehkbiaa
