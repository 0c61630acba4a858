/- starts.Check and the document's. -/
import Derived.Test.YtcbdeoekehkbiaaRefNChk
import Derived.Test.YtcbdeoekehkbiaaRefStOf
namespace Go.Proofs.Ytcbdeoekehkbiaa
open Go.RowKit
set_option linter.unusedVariables false
set_option linter.unusedSimpArgs false

/-- Has each flow a value from the beginning on? -/
def begunL (p : PrD) (l : List FlD) : Bool := l.all fun x => decide ((stP p x.body).1 ≤ 0)
open Classical in
/-- The plain answer. -/
noncomputable def startsP (p : PrD) : Int := if namesP p = 0 then (if begunL p p.flows = true then 0 else 9) else namesP p
theorem begun_at {p : PrD} {l : List FlD} {k : Nat} {x : FlD} (h : l[k]? = some x) : begunL p (l.drop k) = (decide ((stP p x.body).1 ≤ 0) && begunL p (l.drop (k + 1))) := by
  obtain ⟨hk, rfl⟩ := List.getElem?_eq_some_iff.1 h
  rw [List.drop_eq_getElem_cons hk]
  rfl
set_option maxRecDepth 100000 in
set_option maxHeartbeats 4000000 in
theorem stCheck_any (p : PrD) (cs : Array Value) (w : World) (h : RdPr w 0 false p cs) : Calls Try.prog 25 #[.agg cs] w (RetE (startsP p) w) := by
  have H := Lib.hid h
  obtain ⟨vi, vf, vo, rfl, _, hi, hf, ho⟩ := h
  obtain ⟨ai, ci, rfl, ri⟩ := hi
  obtain ⟨af, cf, rfl, rf⟩ := hf
  obtain ⟨ao, co, rfl, ro⟩ := ho
  have HF := Lib.hid (show RdFlV w 0 false p.flows (.slice af p.flows.length cf) from ⟨_, _, rfl, rf⟩)
  have n2 : p.flows.length ≤ 9000000000000000000 := by have := rf.1; unfold fitsR at this; omega
  clear ri rf ro
  have e0 : Ext w (w.alloc (.cells #[.int .i64 p.st, .slice ai p.ins.length ci, .slice af p.flows.length cf, .slice ao p.outs.length co] 36)) := (Chg.refl _ _).alloc _
  have xb := heap_alloc_new w (.cells #[.int .i64 p.st, .slice ai p.ins.length ci, .slice af p.flows.length cf, .slice ao p.outs.length co] 36)
  have HC := Lib.hid (nCheck_any p _ _ (H.out.ext e0))
  have HP : Hid (startsP p = if namesP p = 0 then (if begunL p p.flows = true then 0 else 9) else namesP p) := by show _ = _; unfold startsP; congr
  go_enter Try.func25, Try.ntmps25
  go_wp2_with fail
  refine HC.out.mono ?_
  rintro e w1 ⟨rfl, E1⟩
  have F1 := e0.trans E1
  have xb1 := Ext.heap E1 xb
  clear HC xb e0 E1
  generalize namesP p = n at *
  by_cases hn : n = 0
  case neg =>
    have b1 : (n != 0) = true := by simpa using hn
    have HQ := Lib.hid (HP.out.trans (if_neg hn))
    clear hn
    go_wp2_with fail
    go_ret
    exact ⟨by rw [HQ.out]; rfl, F1⟩
  subst hn
  have HQ := Lib.hid (HP.out.trans (if_pos rfl))
  clear HP
  have x2 := blk_cell xb1 2
  simp only [List.getElem?_toArray, List.getElem?_cons_zero, List.getElem?_cons_succ] at x2
  go_wp2_with fail
  clear x2
  go_loopw [16] (fun i wr => ∃ k : Nat, k ≤ p.flows.length ∧ i = .int .i64 k ∧ begunL p p.flows = begunL p (p.flows.drop k) ∧ wr.heap[w.heap.size]? = some (.cells #[.int .i64 p.st, .slice ai p.ins.length ci, .slice af p.flows.length cf, .slice ao p.outs.length co] 36 (0, 0)) ∧ Ext w wr) (fun i _ => p.flows.length - (intOf i).toNat)
  case atStart => exact ⟨0, Nat.zero_le _, rfl, rfl, xb1, F1⟩
  case round =>
    clear xb1 F1
    obtain ⟨k, hk, rfl, hbe, xb, rE⟩ := hrel
    have HB := Lib.hid hbe
    clear hbe
    by_cases hlt : k < p.flows.length
    · have hx : p.flows[k]? = some p.flows[k] := List.getElem?_eq_getElem hlt
      have q1 : (k : Int) < (p.flows.length : Int) := by omega
      have HS := Lib.hid (begun_at (p := p) hx)
      obtain ⟨_, _, e, _, _, _, hr, _⟩ := HF.out.ext rE
      simp only [Value.slice.injEq, true_and] at e
      obtain ⟨rfl, rfl⟩ := e
      obtain ⟨hnm, _, _, _, b, o, rfl, _, hlt2, c0, c1, c2, c3, _, _, hbn, v, hvx, c4, c5, c6, c7⟩ := hr k _ hx
      generalize p.flows[k] = x at *
      have hO := fun (W : World) (hE : Ext wr W) => stOf_any p x.body _ v W (H.out.ext (rE.trans hE)) (hvx.ext hE) hbn
      obtain ⟨va, vc, rfl, _⟩ := hvx.form
      have hAl : Ext wr (wr.alloc (.cells #[.string x.name, .int .u8 x.ty, .int .i64 x.st, .int .i64 x.df, .int .u8 x.body.op, .int .i64 x.body.n, .string x.body.name, .slice va x.body.args.length vc] 50)) := (Chg.refl _ _).alloc _
      have hcall := hO _ hAl
      unfold RetSt at hcall
      have HO := Lib.hid hcall
      have xb1 := Ext.heap hAl xb
      have z0 := blk_cell xb1 0
      have z1 := blk_cell xb1 1
      have z2 := blk_cell xb1 2
      have z3 := blk_cell xb1 3
      simp only [List.getElem?_toArray, List.getElem?_cons_zero, List.getElem?_cons_succ] at z0 z1 z2 z3
      clear hr hx hvx hO hcall
      generalize stP p x.body = q at *
      obtain ⟨qa, qb⟩ := q
      go_wp2_with fail
      refine HO.out.mono ?_
      rintro e w4 ⟨rfl, E4⟩
      have xb4 := Ext.heap E4 xb1
      have F4 : Ext w w4 := (rE.trans hAl).trans E4
      clear z0 z1 z2 z3 xb1 xb rE hAl E4 c0 c1 c2 c3 c4 c5 c6 c7
      by_cases hq : qa ≤ 0
      · have hq2 : ¬ 0 < qa := by omega
        have H2 : Hid (begunL p p.flows = begunL p (p.flows.drop (k + 1))) := by
          show _ = _
          rw [HB.out, HS.out]
          simp only [hq, decide_true, Bool.true_and]
        clear hq
        go_wp2_with fail
        go_roundw
        case rel => exact ⟨k + 1, by omega, by go_num, H2.out, xb4, F4⟩
        case measure => simp [intOf]; omega
      · have hq2 : 0 < qa := by omega
        have H2 : Hid (begunL p p.flows = false) := by
          show _ = _
          rw [HB.out, HS.out]
          simp only [hq, decide_false, Bool.false_and]
        clear hq
        go_wp2_with fail
        go_ret
        exact ⟨by rw [HQ.out, H2.out]; rfl, F4⟩
    · obtain rfl : k = p.flows.length := by omega
      have H2 : Hid (begunL p p.flows = true) := HB.out.trans (by rw [List.drop_length]; rfl)
      go_wp2_with fail
      go_ret
      exact ⟨by rw [HQ.out, H2.out]; rfl, rE⟩
end Go.Proofs.Ytcbdeoekehkbiaa
