/- starts.Of and the document's Of. -/
import Derived.Test.YtcbdeoekehkbiaaRefOf
import Derived.Test.YtcbdeoekehkbiaaRefsW
import Derived.Test.YtcbdeoekehkbiaaFindN
import Derived.Deep.RegionHeld3
namespace Go.Proofs.Ytcbdeoekehkbiaa
open Go.RowKit
set_option linter.unusedVariables false

/-- Is all that is asked for there? -/
def thereP (p : PrD) (l : List Rf) : Bool := l.all fun r => (findP r.1 p.flows p.ins).2.2.2
/-- The plain answer, and the error's number. -/
def stP (p : PrD) (x : Ex) : Int × Int := if okE 32 200 x = false then (0, 1) else if thereP p (gthE [] 0 x) = false then (0, 6) else (ofE x, 0)
def RetSt (w : World) (q : Int × Int) (e : Ending) (w' : World) : Prop := e = .returned (.tuple #[.int .i64 q.1, .int .i64 q.2]) ∧ Ext w w'
theorem pr_form {w : World} {lo : Nat} {t : Bool} {p : PrD} {cs : Array Value} (h : RdPr w lo t p cs) : ∃ ai ci af cf ao co, cs = #[.int .i64 p.st, .slice ai p.ins.length ci, .slice af p.flows.length cf, .slice ao p.outs.length co] := by
  obtain ⟨vi, vf, vo, rfl, _, ⟨ai, ci, rfl, _⟩, ⟨af, cf, rfl, _⟩, ⟨ao, co, rfl, _⟩⟩ := h
  exact ⟨ai, ci, af, cf, ao, co, rfl⟩
theorem there_drop {p : PrD} {l : List Rf} {k : Nat} {r : Rf} (h : l[k]? = some r) : thereP p (l.drop k) = ((findP r.1 p.flows p.ins).2.2.2 && thereP p (l.drop (k + 1))) := by
  obtain ⟨hk, rfl⟩ := List.getElem?_eq_some_iff.1 h
  rw [List.drop_eq_getElem_cons hk]
  rfl
theorem results_two {fn : Func} {t u : Tmp} (h : fn.results = #[.tmp t, .tmp u]) (tmps : Array Value) (P : Program) (w : World) :
    (results fn tmps).run P w = .ok (.tuple #[tmps.getD t undef, tmps.getD u undef]) w := by
  simp [results, h]
theorem ok_wf {x : Ex} (h : okE 32 200 x = true) : wfE 32 x = true ∧ nodesE x ≤ 200 := by
  obtain ⟨h1, h2⟩ := okE_iff.1 h
  exact ⟨h1, by omega⟩
set_option maxRecDepth 100000 in
set_option maxHeartbeats 4000000 in
theorem stOf_any (p : PrD) (x : Ex) (cs : Array Value) (v : Value) (w : World) (h : RdPr w 0 false p cs) (hv : RdExV w 0 false x.args v) (hnm : x.name.size ≤ maxLen) :
    Calls Try.prog 20 #[.agg cs, .agg #[.int .u8 x.op, .int .i64 x.n, .string x.name, v]] w (RetSt w (stP p x)) := by
  have H := Lib.hid h
  have HV := Lib.hid hv
  obtain ⟨ai, ci, af, cf, ao, co, rfl⟩ := pr_form h
  clear h
  obtain ⟨a, cap, rfl, _⟩ := hv.form
  clear hv
  have E0 : Ext w ((w.alloc (.cells #[.int .i64 p.st, .slice ai p.ins.length ci, .slice af p.flows.length cf, .slice ao p.outs.length co] 36)).alloc (.cells #[.int .u8 x.op, .int .i64 x.n, .string x.name, .slice a x.args.length cap] 25)) := ((Chg.refl _ _).alloc _).alloc _
  have BX := heap_alloc_new (w.alloc (.cells #[.int .i64 p.st, .slice ai p.ins.length ci, .slice af p.flows.length cf, .slice ao p.outs.length co] 36)) (.cells #[.int .u8 x.op, .int .i64 x.n, .string x.name, .slice a x.args.length cap] 25)
  rw [World.size_alloc] at BX
  have BP := Ext.heap ((Chg.refl (fun _ => False) (w.alloc (.cells #[.int .i64 p.st, .slice ai p.ins.length ci, .slice af p.flows.length cf, .slice ao p.outs.length co] 36))).alloc (.cells #[.int .u8 x.op, .int .i64 x.n, .string x.name, .slice a x.args.length cap] 25)) (heap_alloc_new w (.cells #[.int .i64 p.st, .slice ai p.ins.length ci, .slice af p.flows.length cf, .slice ao p.outs.length co] 36))
  have hq1 : okE 32 200 x = false → stP p x = (0, 1) := fun h => by unfold stP; rw [if_pos h]
  have hq2 : okE 32 200 x = true → thereP p (gthE [] 0 x) = false → stP p x = (0, 6) := fun h h' => by unfold stP; rw [if_neg (by rw [h]; simp), if_pos h']
  have hq3 : okE 32 200 x = true → thereP p (gthE [] 0 x) = true → stP p x = (ofE x, 0) := fun h h' => by unfold stP; rw [if_neg (by rw [h]; simp), if_neg (by rw [h']; simp)]
  have HQ1 := Lib.hid hq1
  have HQ2 := Lib.hid hq2
  have HQ3 := Lib.hid hq3
  clear hq1 hq2 hq3
  have hchk := exCheck_any x _ _ (HV.out.ext E0) hnm
  generalize hok : okE 32 200 x = ok at *
  have HC := Lib.hid hchk
  clear hchk
  go_enter Try.func20, Try.ntmps20
  go_wp2_with fail
  refine HC.out.mono ?_
  rintro e w1 ⟨rfl, E1⟩
  have F1 := E0.trans E1
  have BX1 := Ext.heap E1 BX
  have BP1 := Ext.heap E1 BP
  clear HC
  cases ok
  · go_wp2_with fail
    refine bodyPost_ret (results_two rfl _ _ _) rfl ⟨?_, F1⟩
    rw [HQ1.out (by trivial)]
    rfl
  · obtain ⟨hwf, hnd⟩ := ok_wf hok
    have hrf := refs_any x _ _ (HV.out.ext F1) hnm (by omega)
    have HC := Lib.hid hrf
    clear hrf
    have x0 := blk_cell BX1 0
    have x1 := blk_cell BX1 1
    have x2 := blk_cell BX1 2
    have x3 := blk_cell BX1 3
    simp only [List.getElem?_toArray, List.getElem?_cons_zero, List.getElem?_cons_succ] at x0 x1 x2 x3
    have hgl := gthE_le x [] 0
    simp only [List.length_nil] at hgl
    generalize hl : gthE [] 0 x = l at *
    go_wp2_with fail
    refine HC.out.mono ?_
    rintro e w2 ⟨v2, rfl, V2, E2⟩
    obtain ⟨a2, c2, rfl⟩ := V2.form
    have F2 := F1.trans E2
    have BX2 := Ext.heap E2 BX1
    have BP2 := Ext.heap E2 BP1
    clear HC x0 x1 x2 x3 BX BP BX1 BP1 E0 E1 F1 E2
    go_wp2_with fail
    go_loopw [18] (fun i wr => ∃ k : Nat, k ≤ l.length ∧ i = .int .i64 k ∧ thereP p l = thereP p (l.drop k) ∧ Ext w2 wr) (fun i _ => l.length - (intOf i).toNat)
    case atStart => exact ⟨0, Nat.zero_le _, rfl, rfl, Chg.refl _ _⟩
    case round =>
      obtain ⟨k, hk, rfl, hth, rE⟩ := hrel
      have HT := Lib.hid hth
      clear hth
      have BX3 := Ext.heap rE BX2
      have BP3 := Ext.heap rE BP2
      by_cases hlt : k < l.length
      · have hx := List.getElem?_eq_getElem hlt
        obtain ⟨g, rfl, c0, c1⟩ := (V2.chg rE (fun _ _ h => h)).get hx
        have q1 : (k : Int) < (l.length : Int) := by omega
        have HD := Lib.hid (there_drop (p := p) hx)
        generalize l[k] = r at *
        obtain ⟨r1, r2⟩ := r
        simp only at c0 c1 HD
        have hf := find_any p r1 _ (wr.alloc (.cells #[.string r1, .int .i64 r2] 55)) (H.out.ext ((F2.trans rE).alloc _))
        have BP4 := Ext.heap ((Chg.refl (fun _ => False) wr).alloc (.cells #[.string r1, .int .i64 r2] 55)) BP3
        have y0 := blk_cell BP4 0
        have y1 := blk_cell BP4 1
        have y2 := blk_cell BP4 2
        have y3 := blk_cell BP4 3
        simp only [List.getElem?_toArray, List.getElem?_cons_zero, List.getElem?_cons_succ] at y0 y1 y2 y3
        unfold RetFind fourV at hf
        have HF := Lib.hid hf
        clear hf hx
        generalize findP r1 p.flows p.ins = q at *
        obtain ⟨qa, qb, qc, qd⟩ := q
        go_wp2_with fail
        refine HF.out.mono ?_
        rintro e w5 ⟨rfl, E5⟩
        have F5 := (rE.alloc _).trans E5
        cases qd
        · have hfin : thereP p l = false := by rw [HT.out, HD.out]; rfl
          have HFin := Lib.hid hfin
          clear hfin
          go_wp2_with fail
          refine bodyPost_ret (results_two rfl _ _ _) rfl ⟨?_, F2.trans F5⟩
          rw [HQ2.out (by trivial) HFin.out]
          rfl
        · have hfin : thereP p l = thereP p (l.drop (k + 1)) := by rw [HT.out, HD.out]; rfl
          have HFin := Lib.hid hfin
          clear hfin
          go_wp2_with fail
          go_roundw
          case rel => exact ⟨k + 1, by omega, by go_num, HFin.out, F5⟩
          case measure => simp [intOf]; omega
      · obtain rfl : k = l.length := by omega
        have hfin : thereP p l = true := by rw [HT.out, List.drop_length]; rfl
        have HFin := Lib.hid hfin
        clear hfin
        have x0 := blk_cell BX3 0
        have x1 := blk_cell BX3 1
        have x2 := blk_cell BX3 2
        have x3 := blk_cell BX3 3
        simp only [List.getElem?_toArray, List.getElem?_cons_zero, List.getElem?_cons_succ] at x0 x1 x2 x3
        have z0 := (World.cell?_drew (w := wr) (a := ⟨w.heap.size + 1, 0, none⟩)).trans x0
        have z1 := (World.cell?_drew (w := wr) (a := ⟨w.heap.size + 1, 1, none⟩)).trans x1
        have z2 := (World.cell?_drew (w := wr) (a := ⟨w.heap.size + 1, 2, none⟩)).trans x2
        have z3 := (World.cell?_drew (w := wr) (a := ⟨w.heap.size + 1, 3, none⟩)).trans x3
        clear x0 x1 x2 x3
        have F6 := (F2.trans rE).drew
        go_wp2_with fail
        go_region_held3 (fun X => X.cell? ⟨w.heap.size + 1, 0, none⟩ = some (.int .u8 x.op) ∧ X.cell? ⟨w.heap.size + 1, 1, none⟩ = some (.int .i64 x.n) ∧ X.cell? ⟨w.heap.size + 1, 2, none⟩ = some (.string x.name) ∧ X.cell? ⟨w.heap.size + 1, 3, none⟩ = some (.slice a x.args.length cap))
          (first | (with_reducible exact ⟨z0, z1, z2, z3⟩) | (with_reducible exact ⟨Ext.cell E7 z0, Ext.cell E7 z1, Ext.cell E7 z2, Ext.cell E7 z3⟩) | (with_reducible exact ⟨Ext.cell E8 (Ext.cell E7 z0), Ext.cell E8 (Ext.cell E7 z1), Ext.cell E8 (Ext.cell E7 z2), Ext.cell E8 (Ext.cell E7 z3)⟩))
          (first
            | (go_at_call 37; refine (rules_one _).mono ?_; rintro e w7 ⟨rfl, hR7, E7⟩)
            | (go_at_call 36; refine (of_any x _ _ _ 32 (HV.out.ext (F6.trans E7)) hR7 hwf (by omega)).mono ?_; rintro e w8 ⟨rfl, E8⟩))
        go_wp2_with fail
        refine bodyPost_ret (results_two rfl _ _ _) rfl ⟨?_, F6.trans (E7.trans E8)⟩
        rw [HQ3.out (by trivial) HFin.out]
        rfl
end Go.Proofs.Ytcbdeoekehkbiaa
