/- NamesTurned answers true. -/
import Derived.Test.YtgdlocjocjamgaaFoundW
import Derived.Test.YtgdlocjocjamgaaRowF
namespace Go.Proofs.Ytgdlocjocjamgaa
open Go.RowKit
set_option linter.unusedVariables false
set_option linter.unusedSimpArgs false

def turnP (p : PrD) : PrD := ⟨p.st, p.ins, p.flows.reverse, p.outs⟩
theorem namesF_mem_iff {l : List FlD} {s : ByteArray} : s ∈ namesF l ↔ ∃ x, x ∈ l ∧ s ∈ namesE x.body := by
  induction l with
  | nil => simp [namesF]
  | cons y r ih =>
    simp only [namesF, List.mem_append, ih, List.mem_cons]
    constructor
    · rintro (h | ⟨x, hx, h⟩)
      · exact ⟨y, .inl rfl, h⟩
      · exact ⟨x, .inr hx, h⟩
    · rintro ⟨x, rfl | hx, h⟩
      · exact .inl h
      · exact .inr ⟨x, hx, h⟩
theorem prog_turn (p : PrD) : progP (turnP p) = progP p := by
  simp only [progP, turnP, List.length_reverse, List.any_reverse]
  rfl
theorem okN_turn (p : PrD) : okN (turnP p) ↔ okN p := by
  unfold okN askedL
  have e1 : (namesT (turnP p)).Perm (namesT p) := by
    rw [namesT_eq, namesT_eq]
    simp only [turnP, List.map_reverse]
    exact List.Perm.append_left _ (List.reverse_perm _)
  have e2 : ∀ s, s ∈ namesT (turnP p) ↔ s ∈ namesT p := fun s => e1.mem_iff
  have e3 : ∀ s, s ∈ namesF (turnP p).flows ++ (turnP p).outs ↔ s ∈ namesF p.flows ++ p.outs := fun s => by
    simp only [List.mem_append, namesF_mem_iff, turnP, List.mem_reverse]
  rw [e1.nodup_iff]
  constructor
  · rintro ⟨h1, h2, h3⟩
    exact ⟨h1, fun s hs => (e2 s).1 (h2 s ((e3 s).2 hs)), h3⟩
  · rintro ⟨h1, h2, h3⟩
    exact ⟨h1, fun s hs => (e2 s).2 (h2 s ((e3 s).1 hs)), h3⟩
theorem names_turn (p : PrD) : namesP (turnP p) = namesP p := by
  unfold namesP
  rw [prog_turn]
  by_cases h : okN p
  · rw [if_pos h, if_pos ((okN_turn p).2 h)]
  · rw [if_neg h, if_neg (fun h' => h ((okN_turn p).1 h'))]
/-- Flows in a block of one's own whose cells are those of other flows, turned round. -/
theorem turn_rd {w wr : World} {l : List FlD} {a : Option Addr} {cap g : Nat} {cur : Array Value} (hf : RdFlV w 0 false l (.slice a l.length cap)) (hE : Ext w wr) (hg : wr.heap[g]? = some (.cells cur 45 (0, 0)))
    (hcur : ∀ b o, a = some ⟨b, o, none⟩ → ∀ j, j < l.length → ∀ c, c < 8 → cur[j * 8 + c]? = w.cell? ⟨b, o + (l.length - 1 - j) * 8 + c, none⟩) : RdFlV wr 0 false l.reverse (.slice (some ⟨g, 0, none⟩) l.length (l.length + 1)) := by
  obtain ⟨_, _, e, h1, h2, h3, h4, _⟩ := hf
  simp only [Value.slice.injEq, true_and] at e
  obtain ⟨rfl, rfl⟩ := e
  have hl := lt_of_block hg
  refine ⟨_, _, by rw [List.length_reverse], by rw [List.length_reverse]; exact h1, by rw [List.length_reverse]; omega, by unfold fitsR at h1; unfold maxLen; omega, fun i x hx => ?_, fun h => by cases h⟩
  have hi : i < l.length := by have := (List.getElem?_eq_some_iff.1 hx).1; rwa [List.length_reverse] at this
  rw [List.getElem?_reverse hi] at hx
  obtain ⟨k1, k2, k3, k4, b, o, ha, _, _, c0, c1, c2, c3, k5, k6, k7, v, hv, c4, c5, c6, c7⟩ := h4 _ x hx
  have hc := fun c hc => hcur b o ha i hi c hc
  have hd : ∀ c u, c < 8 → w.cell? ⟨b, o + (l.length - 1 - i) * 8 + c, none⟩ = some u → wr.cell? ⟨g, 0 + i * 8 + c, none⟩ = some u := fun c u hc8 hu => by rw [blk_cell hg, Nat.zero_add, hc c hc8]; exact hu
  exact ⟨k1, k2, k3, k4, g, 0, rfl, Nat.zero_le _, hl, hd 0 _ (by omega) c0, hd 1 _ (by omega) c1, hd 2 _ (by omega) c2, hd 3 _ (by omega) c3, k5, k6, k7, v, hv.ext hE, hd 4 _ (by omega) c4, hd 5 _ (by omega) c5, hd 6 _ (by omega) c6, hd 7 _ (by omega) c7⟩
theorem drew_heap (w : World) (b : Nat) : w.drew.heap[b]? = w.heap[b]? := rfl
def set8 (cur : Array Value) (o : Nat) (v0 v1 v2 v3 v4 v5 v6 v7 : Value) : Array Value :=
  (((((((cur.setIfInBounds o v0).setIfInBounds (o + 1) v1).setIfInBounds (o + 2) v2).setIfInBounds (o + 3) v3).setIfInBounds (o + 4) v4).setIfInBounds (o + 5) v5).setIfInBounds (o + 6) v6).setIfInBounds (o + 7) v7
theorem set8_size (cur : Array Value) (o : Nat) (v0 v1 v2 v3 v4 v5 v6 v7 : Value) : (set8 cur o v0 v1 v2 v3 v4 v5 v6 v7).size = cur.size := by simp [set8]
theorem set8_other (cur : Array Value) (o : Nat) (v0 v1 v2 v3 v4 v5 v6 v7 : Value) {i : Nat} (h : i < o) : (set8 cur o v0 v1 v2 v3 v4 v5 v6 v7)[i]? = cur[i]? := by
  simp only [set8, Array.getElem?_setIfInBounds]
  rw [if_neg (by omega), if_neg (by omega), if_neg (by omega), if_neg (by omega), if_neg (by omega), if_neg (by omega), if_neg (by omega), if_neg (by omega)]
theorem set8_at (cur : Array Value) (o : Nat) (v0 v1 v2 v3 v4 v5 v6 v7 : Value) (h : o + 8 ≤ cur.size) {c : Nat} (hc : c < 8) : (set8 cur o v0 v1 v2 v3 v4 v5 v6 v7)[o + c]? = [v0, v1, v2, v3, v4, v5, v6, v7][c]? := by
  match c, hc with
  | 0, _ => simp [set8, Array.getElem?_setIfInBounds]; omega
  | 1, _ => simp [set8, Array.getElem?_setIfInBounds]; omega
  | 2, _ => simp [set8, Array.getElem?_setIfInBounds]; omega
  | 3, _ => simp [set8, Array.getElem?_setIfInBounds]; omega
  | 4, _ => simp [set8, Array.getElem?_setIfInBounds]; omega
  | 5, _ => simp [set8, Array.getElem?_setIfInBounds]; omega
  | 6, _ => simp [set8, Array.getElem?_setIfInBounds]; omega
  | 7, _ => simp [set8, Array.getElem?_setIfInBounds]; omega
  | n + 8, hc => omega
theorem blk_set8 {w : World} {b : Nat} {cs : Array Value} {t : TypeId} (h : w.heap[b]? = some (.cells cs t (0, 0))) (o : Nat) (v0 v1 v2 v3 v4 v5 v6 v7 : Value) :
    ((((((((w.setCell ⟨b, o, none⟩ v0).setCell ⟨b, o + 1, none⟩ v1).setCell ⟨b, o + 2, none⟩ v2).setCell ⟨b, o + 3, none⟩ v3).setCell ⟨b, o + 4, none⟩ v4).setCell ⟨b, o + 5, none⟩ v5).setCell ⟨b, o + 6, none⟩ v6).setCell ⟨b, o + 7, none⟩ v7).heap[b]? = some (.cells (set8 cs o v0 v1 v2 v3 v4 v5 v6 v7) t (0, 0)) :=
  blk_set (blk_set (blk_set (blk_set (blk_set (blk_set (blk_set (blk_set h _ _) _ _) _ _) _ _) _ _) _ _) _ _) _ _
theorem chg_set8 (w : World) (b o : Nat) (v0 v1 v2 v3 v4 v5 v6 v7 : Value) : Chg (fun q => q = b) w ((((((((w.setCell ⟨b, o, none⟩ v0).setCell ⟨b, o + 1, none⟩ v1).setCell ⟨b, o + 2, none⟩ v2).setCell ⟨b, o + 3, none⟩ v3).setCell ⟨b, o + 4, none⟩ v4).setCell ⟨b, o + 5, none⟩ v5).setCell ⟨b, o + 6, none⟩ v6).setCell ⟨b, o + 7, none⟩ v7) := by
  iterate 8 (refine Chg.setCell ?_ _ _ (.inl (Eq.refl b)))
  exact Chg.refl _ _
set_option maxRecDepth 100000 in
set_option maxHeartbeats 4000000 in
theorem namesTurned_any (p : PrD) (cs : Array Value) (w : World) (h : RdPr w 0 false p cs) : Calls Try.prog 8 #[.agg cs] w (RetT w) := by
  have H := Lib.hid h
  have hfull := h
  obtain ⟨vi, vf, vo, rfl, hst, hi, hf, ho⟩ := h
  obtain ⟨ai, ci, rfl, ri⟩ := hi
  obtain ⟨af, cf, rfl, rf⟩ := hf
  obtain ⟨ao, co, rfl, ro⟩ := ho
  have hi : RdInV w 0 false p.ins (.slice ai p.ins.length ci) := ⟨_, _, rfl, ri⟩
  have HF := Lib.hid (show RdFlV w 0 false p.flows (.slice af p.flows.length cf) from ⟨_, _, rfl, rf⟩)
  have ho : RdStrV w 0 false p.outs (.slice ao p.outs.length co) := ⟨_, _, rfl, ro⟩
  have n2 : p.flows.length ≤ 9000000000000000000 := by have := rf.1; unfold fitsR at this; omega
  clear ri rf ro
  have e0 : Ext w (w.alloc (.cells #[.int .i64 p.st, .slice ai p.ins.length ci, .slice af p.flows.length cf, .slice ao p.outs.length co] 26)) := (Chg.refl _ _).alloc _
  have xb := heap_alloc_new w (.cells #[.int .i64 p.st, .slice ai p.ins.length ci, .slice af p.flows.length cf, .slice ao p.outs.length co] 26)
  have HA := Lib.hid alive_any
  go_enter Try.func8, Try.ntmps8
  go_wp2_with fail
  generalize (w.alloc (.cells #[.int .i64 p.st, .slice ai p.ins.length ci, .slice af p.flows.length cf, .slice ao p.outs.length co] 26)) = W0 at *
  refine (HA.out _).mono ?_
  rintro e w1 ⟨rfl, E1⟩
  have F1 := e0.trans E1
  have xb1 := Ext.heap E1 xb
  clear xb e0 E1
  have y0 := blk_cell xb1 0
  have y1 := blk_cell xb1 1
  have y2 := blk_cell xb1 2
  have y3 := blk_cell xb1 3
  simp only [List.getElem?_toArray, List.getElem?_cons_zero, List.getElem?_cons_succ] at y0 y1 y2 y3
  have HG := Lib.hid (great_any p _ _ (H.out.ext F1))
  go_wp2_with fail
  refine HG.out.mono ?_
  rintro e w2 ⟨b, rfl, E2⟩
  have F2 := F1.trans E2
  have xb2 := Ext.heap E2 xb1
  clear xb1 F1 E2 HG y0 y1 y2 y3
  cases b
  case true =>
    go_wp2_with fail
    refine (HA.out _).mono ?_
    rintro e w3 ⟨rfl, E3⟩
    go_wp2_with fail
    go_ret
    exact ⟨rfl, F2.trans E3⟩
  clear HA
  have y0 := blk_cell xb2 0
  have y1 := blk_cell xb2 1
  have y2 := blk_cell xb2 2
  have y3 := blk_cell xb2 3
  simp only [List.getElem?_toArray, List.getElem?_cons_zero, List.getElem?_cons_succ] at y0 y1 y2 y3
  have HT := Lib.hid (twinProg_any p _ w2 (H.out.ext F2))
  go_wp2_with fail
  refine HT.out.mono ?_
  rintro e w3 ⟨vi, vf, vo, ps, rfl, ht⟩
  obtain ⟨ti, di, rfl, _⟩ : ∃ ti di, vi = .slice ti p.ins.length di ∧ True := by obtain ⟨g, _, h, _⟩ := ht.ins.block; exact ⟨_, _, h, trivial⟩
  obtain ⟨to_, do_, rfl, _⟩ : ∃ ti di, vo = .slice ti p.outs.length di ∧ True := by obtain ⟨g, _, h, _⟩ := ht.outs.block; exact ⟨_, _, h, trivial⟩
  obtain ⟨g, cur0, rfl, hg0, hgb, hgs⟩ := ht.flows.block
  have F3 := F2.trans ht.ext
  have xb3 := Ext.heap ht.ext xb2
  have HTW := Lib.hid ht
  have hgl := lt_of_block hgb
  clear ht HT y0 y1 y2 y3 xb2
  have K3 : Ext w3 (w3.alloc (.cells #[.int .i64 p.st, .slice ti p.ins.length di, .slice (some ⟨g, 0, none⟩) p.flows.length (p.flows.length + 1), .slice to_ p.outs.length do_] 26)) := (Chg.refl _ _).alloc _
  have tb4 := heap_alloc_new w3 (.cells #[.int .i64 p.st, .slice ti p.ins.length di, .slice (some ⟨g, 0, none⟩) p.flows.length (p.flows.length + 1), .slice to_ p.outs.length do_] 26)
  have xb4 := Ext.heap K3 xb3
  have gb4 := Ext.heap K3 hgb
  have F4 := F3.trans K3
  have y0 := blk_cell xb4 0
  have y1 := blk_cell xb4 1
  have y2 := blk_cell xb4 2
  have y3 := blk_cell xb4 3
  simp only [List.getElem?_toArray, List.getElem?_cons_zero, List.getElem?_cons_succ] at y0 y1 y2 y3
  go_wp2_with fail
  have hB : w3.heap.size = w3.heap.size := rfl
  generalize hV : (w3.alloc (.cells #[.int .i64 p.st, .slice ti p.ins.length di, .slice (some ⟨g, 0, none⟩) p.flows.length (p.flows.length + 1), .slice to_ p.outs.length do_] 26)) = V at *
  clear hV
  generalize hBB : w3.heap.size = B at *
  clear y0 y1 y2 y3
  have hwB : w.heap.size < B := by have := lt_of_block xb3; omega
  have hg0' : w.heap.size ≤ g := by have := F2.size; omega
  have hxg : w.heap.size ≠ g := fun e => by rw [← e, xb4] at gb4; simp only [Option.some.injEq, Obj.cells.injEq] at gb4; exact absurd gb4.2.1 (by decide)
  have hgs : cur0.size = (p.flows.length + 1) * 8 := hgs
  go_loopw [5] (fun i wr => ∃ (k : Nat) (cur : Array Value), k ≤ p.flows.length ∧ i = .int .i64 k ∧ wr.heap[g]? = some (.cells cur 45 (0, 0)) ∧ cur.size = (p.flows.length + 1) * 8 ∧
      (∀ b o, af = some ⟨b, o, none⟩ → ∀ j, j < k → ∀ c, c < 8 → cur[j * 8 + c]? = w.cell? ⟨b, o + (p.flows.length - 1 - j) * 8 + c, none⟩) ∧ Chg (fun q => q = g) V wr) (fun i _ => p.flows.length - (intOf i).toNat)
  case atStart => exact ⟨0, cur0, Nat.zero_le _, rfl, gb4, hgs, fun b o _ j hj => absurd hj (Nat.not_lt_zero _), Chg.refl _ _⟩
  case round =>
    obtain ⟨k, cur, hk, rfl, gb, hcs, hcur, rC⟩ := hrel
    have rE : Ext w wr := Ext.then F4 rC (fun b hb => by omega)
    have xb5 := rC.heap xb4 hxg
    have tb5 := rC.heap tb4 (by omega)
    by_cases hlt : k < p.flows.length
    · have hx : p.flows[p.flows.length - 1 - k]? = some p.flows[p.flows.length - 1 - k] := List.getElem?_eq_getElem (by omega)
      have q1 : (k : Int) < (p.flows.length : Int) := by omega
      obtain ⟨_, _, e, _, _, _, hr, _⟩ := HF.out
      simp only [Value.slice.injEq, true_and] at e
      obtain ⟨rfl, rfl⟩ := e
      obtain ⟨hnm, _, _, _, b, o, rfl, _, hlt2, c0, c1, c2, c3, _, _, hbn, v, hvx, c4, c5, c6, c7⟩ := hr _ _ hx
      obtain ⟨va, vc, rfl, _⟩ := hvx.form
      have hu : ∀ c, c < 8 → ∃ u, wr.cell? ⟨g, k * 8 + c, none⟩ = some u := fun c hc => ⟨_, (blk_cell gb _).trans (Array.getElem?_eq_getElem (by omega))⟩
      obtain ⟨u0, t0⟩ := hu 0 (by omega)
      obtain ⟨u1, t1⟩ := hu 1 (by omega)
      obtain ⟨u2, t2⟩ := hu 2 (by omega)
      obtain ⟨u3, t3⟩ := hu 3 (by omega)
      obtain ⟨u4, t4⟩ := hu 4 (by omega)
      obtain ⟨u5, t5⟩ := hu 5 (by omega)
      obtain ⟨u6, t6⟩ := hu 6 (by omega)
      obtain ⟨u7, t7⟩ := hu 7 (by omega)
      rw [Nat.add_zero] at t0
      have hfz : ∀ j, wr.frozen? ⟨g, j, none⟩ = false := fun j => blk_free gb j
      have f0 := hfz (k * 8)
      have f1 := hfz (k * 8 + 1)
      have f2 := hfz (k * 8 + 2)
      have f3 := hfz (k * 8 + 3)
      have f4 := hfz (k * 8 + 4)
      have f5 := hfz (k * 8 + 5)
      have f6 := hfz (k * 8 + 6)
      have f7 := hfz (k * 8 + 7)
      have d0 := Ext.cell rE c0
      have d1 := Ext.cell rE c1
      have d2 := Ext.cell rE c2
      have d3 := Ext.cell rE c3
      have d4 := Ext.cell rE c4
      have d5 := Ext.cell rE c5
      have d6 := Ext.cell rE c6
      have d7 := Ext.cell rE c7
      have y2 := blk_cell xb5 2
      have z2 := blk_cell tb5 2
      simp only [List.getElem?_toArray, List.getElem?_cons_zero, List.getElem?_cons_succ] at y2 z2
      have m1 : (0 : Int) ≤ (p.flows.length : Int) - 1 - (k : Int) := by omega
      have m2 : (p.flows.length : Int) - 1 - (k : Int) < (p.flows.length : Int) := by omega
      have m3 : ((p.flows.length : Int) - 1 - (k : Int)).toNat = p.flows.length - 1 - k := by omega
      have m4 : IntKind.i64.wrap ((p.flows.length : Int) - 1) = (p.flows.length : Int) - 1 := by rw [IntKind.wrap_i64] <;> omega
      have m5 : IntKind.i64.wrap ((p.flows.length : Int) - 1 - (k : Int)) = (p.flows.length : Int) - 1 - (k : Int) := by rw [IntKind.wrap_i64] <;> omega
      clear hr hx hu hfz hvx
      generalize p.flows[p.flows.length - 1 - k] = x at *
      have G6 := blk_set8 gb (k * 8) (.string x.name) (.int .u8 x.ty) (.int .i64 x.st) (.int .i64 x.df) (.int .u8 x.body.op) (.int .i64 x.body.n) (.string x.body.name) (.slice va x.body.args.length vc)
      have C6 := (rC.trans (chg_set8 wr g (k * 8) (.string x.name) (.int .u8 x.ty) (.int .i64 x.st) (.int .i64 x.df) (.int .u8 x.body.op) (.int .i64 x.body.n) (.string x.body.name) (.slice va x.body.args.length vc))).drew
      have hcur2 : ∀ b' o', some (⟨b, o, none⟩ : Addr) = some ⟨b', o', none⟩ → ∀ j, j < k + 1 → ∀ c, c < 8 → (set8 cur (k * 8) (.string x.name) (.int .u8 x.ty) (.int .i64 x.st) (.int .i64 x.df) (.int .u8 x.body.op) (.int .i64 x.body.n) (.string x.body.name) (.slice va x.body.args.length vc))[j * 8 + c]? = w.cell? ⟨b', o' + (p.flows.length - 1 - j) * 8 + c, none⟩ := by
        intro b' o' he j hj c hc
        by_cases hjk : j < k
        · rw [set8_other _ _ _ _ _ _ _ _ _ _ (by omega)]
          exact hcur b' o' he j hjk c hc
        · obtain rfl : j = k := by omega
          simp only [Option.some.injEq, Addr.mk.injEq, and_true] at he
          obtain ⟨rfl, rfl⟩ := he
          rw [set8_at _ _ _ _ _ _ _ _ _ _ (by omega) hc]
          match c, hc with
          | 0, _ => exact c0.symm
          | 1, _ => exact c1.symm
          | 2, _ => exact c2.symm
          | 3, _ => exact c3.symm
          | 4, _ => exact c4.symm
          | 5, _ => exact c5.symm
          | 6, _ => exact c6.symm
          | 7, _ => exact c7.symm
          | n + 8, hc => omega
      have HG6 := Lib.hid G6
      have HC6 := Lib.hid C6
      have HCU := Lib.hid hcur2
      have HSZ := Lib.hid (set8_size cur (k * 8) (.string x.name) (.int .u8 x.ty) (.int .i64 x.st) (.int .i64 x.df) (.int .u8 x.body.op) (.int .i64 x.body.n) (.string x.body.name) (.slice va x.body.args.length vc) |>.trans hcs)
      clear G6 C6 hcur2 hcur c0 c1 c2 c3 c4 c5 c6 c7
      go_wp2_with fail
      go_region
      go_wp2_with fail
      go_roundw
      case rel => exact ⟨k + 1, _, by omega, by go_num, (drew_heap _ _).trans HG6.out, HSZ.out, HCU.out, HC6.out⟩
      case measure => simp [intOf]; omega
    · obtain rfl : k = p.flows.length := by omega
      have hq : RdPr wr 0 false (turnP p) #[.int .i64 p.st, .slice ti p.ins.length di, .slice (some ⟨g, 0, none⟩) p.flows.length (p.flows.length + 1), .slice to_ p.outs.length do_] := by
        have hC : Chg (fun q => q = g) w3 wr := (K3.mono (fun _ _ h => h.elim)).trans rC
        obtain ⟨_, _, _, i1, _, _, i4, _⟩ := hi
        obtain ⟨_, _, _, o1, _, _, o4, _⟩ := ho
        have r1 := TwIn.rd (HTW.out.ins.other hgb (by decide) hC hg0) (fun i x hx => by obtain ⟨a, b, c, _⟩ := i4 i x hx; exact ⟨a, b, c⟩) i1
        have r2 := turn_rd HF.out rE gb (fun b o ha j hj c hc => hcur b o ha j hj c hc)
        have r3 := TwStr.rd (HTW.out.outs.other hgb (by decide) hC hg0) (fun x hx => by obtain ⟨i, hi, rfl⟩ := List.getElem_of_mem hx; exact (o4 i _ (List.getElem?_eq_getElem hi)).1) o1
        exact ⟨_, _, _, rfl, hst, r1.plain.lower (Nat.zero_le _), by simpa only [turnP, List.length_reverse] using r2, r3.plain.lower (Nat.zero_le _)⟩
      have HQ := Lib.hid hq
      have HC1 : Hid (Calls Try.prog 15 #[.agg #[.int .i64 p.st, .slice ti p.ins.length di, .slice (some ⟨g, 0, none⟩) p.flows.length (p.flows.length + 1), .slice to_ p.outs.length do_]] wr.drew (RetE (namesP p) wr.drew)) := by
        have := nCheck_any (turnP p) _ wr.drew (HQ.out.ext (Chg.refl (fun _ => False) wr).drew)
        rw [names_turn] at this
        exact this
      have HC2 := Lib.hid (fun (X : World) (hX : Ext wr X) => nCheck_any p _ X (H.out.ext (rE.trans hX)))
      have HOK2 := Lib.hid (fun (hn : namesP p = 0) => (okN_of hn).2)
      have y0 := blk_cell xb5 0
      have y1 := blk_cell xb5 1
      have y2 := blk_cell xb5 2
      have y3 := blk_cell xb5 3
      simp only [List.getElem?_toArray, List.getElem?_cons_zero, List.getElem?_cons_succ] at y0 y1 y2 y3
      have t0 := blk_cell tb5 0
      have t1 := blk_cell tb5 1
      have t2 := blk_cell tb5 2
      have t3 := blk_cell tb5 3
      simp only [List.getElem?_toArray, List.getElem?_cons_zero, List.getElem?_cons_succ] at t0 t1 t2 t3
      have S0 : wr.drew.cell? ⟨w.heap.size, 0, none⟩ = some (.int .i64 p.st) ∧ wr.drew.cell? ⟨w.heap.size, 1, none⟩ = some (.slice ai p.ins.length ci) ∧ wr.drew.cell? ⟨w.heap.size, 2, none⟩ = some (.slice af p.flows.length cf) ∧ wr.drew.cell? ⟨w.heap.size, 3, none⟩ = some (.slice ao p.outs.length co) ∧ wr.drew.cell? ⟨B, 0, none⟩ = some (.int .i64 p.st) ∧ wr.drew.cell? ⟨B, 1, none⟩ = some (.slice ti p.ins.length di) ∧ wr.drew.cell? ⟨B, 2, none⟩ = some (.slice (some ⟨g, 0, none⟩) p.flows.length (p.flows.length + 1)) ∧ wr.drew.cell? ⟨B, 3, none⟩ = some (.slice to_ p.outs.length do_) := ⟨y0, y1, y2, y3, t0, t1, t2, t3⟩
      have SE : ∀ X X' : World, (X.cell? ⟨w.heap.size, 0, none⟩ = some (.int .i64 p.st) ∧ X.cell? ⟨w.heap.size, 1, none⟩ = some (.slice ai p.ins.length ci) ∧ X.cell? ⟨w.heap.size, 2, none⟩ = some (.slice af p.flows.length cf) ∧ X.cell? ⟨w.heap.size, 3, none⟩ = some (.slice ao p.outs.length co) ∧ X.cell? ⟨B, 0, none⟩ = some (.int .i64 p.st) ∧ X.cell? ⟨B, 1, none⟩ = some (.slice ti p.ins.length di) ∧ X.cell? ⟨B, 2, none⟩ = some (.slice (some ⟨g, 0, none⟩) p.flows.length (p.flows.length + 1)) ∧ X.cell? ⟨B, 3, none⟩ = some (.slice to_ p.outs.length do_)) → Ext X X' → (X'.cell? ⟨w.heap.size, 0, none⟩ = some (.int .i64 p.st) ∧ X'.cell? ⟨w.heap.size, 1, none⟩ = some (.slice ai p.ins.length ci) ∧ X'.cell? ⟨w.heap.size, 2, none⟩ = some (.slice af p.flows.length cf) ∧ X'.cell? ⟨w.heap.size, 3, none⟩ = some (.slice ao p.outs.length co) ∧ X'.cell? ⟨B, 0, none⟩ = some (.int .i64 p.st) ∧ X'.cell? ⟨B, 1, none⟩ = some (.slice ti p.ins.length di) ∧ X'.cell? ⟨B, 2, none⟩ = some (.slice (some ⟨g, 0, none⟩) p.flows.length (p.flows.length + 1)) ∧ X'.cell? ⟨B, 3, none⟩ = some (.slice to_ p.outs.length do_)) := fun X X' h e => ⟨Ext.cell e h.1, Ext.cell e h.2.1, Ext.cell e h.2.2.1, Ext.cell e h.2.2.2.1, Ext.cell e h.2.2.2.2.1, Ext.cell e h.2.2.2.2.2.1, Ext.cell e h.2.2.2.2.2.2.1, Ext.cell e h.2.2.2.2.2.2.2⟩
      unfold RetE at HC1 HC2
      generalize namesP p = n at *
      have hnn : (n != n) = false := by simp
      clear y0 y1 y2 y3 t0 t1 t2 t3 hq hcur gb hcs rC HTW hi ho gb4 tb4 xb4 hgs
      go_wp2_with fail
      go_region_held3 (fun X => X.cell? ⟨w.heap.size, 0, none⟩ = some (.int .i64 p.st) ∧ X.cell? ⟨w.heap.size, 1, none⟩ = some (.slice ai p.ins.length ci) ∧ X.cell? ⟨w.heap.size, 2, none⟩ = some (.slice af p.flows.length cf) ∧ X.cell? ⟨w.heap.size, 3, none⟩ = some (.slice ao p.outs.length co) ∧ X.cell? ⟨B, 0, none⟩ = some (.int .i64 p.st) ∧ X.cell? ⟨B, 1, none⟩ = some (.slice ti p.ins.length di) ∧ X.cell? ⟨B, 2, none⟩ = some (.slice (some ⟨g, 0, none⟩) p.flows.length (p.flows.length + 1)) ∧ X.cell? ⟨B, 3, none⟩ = some (.slice to_ p.outs.length do_))
        (first | (with_reducible exact S0) | (with_reducible exact S5) | (with_reducible exact S6))
        (first
          | (go_at_call 15; refine HC1.out.mono ?_; clear HC1; rintro e w5 ⟨rfl, E5⟩; have S5 := SE _ _ S0 E5)
          | (go_at_call 15; refine (HC2.out _ ((Chg.refl (fun _ => False) wr).drew.trans E5)).mono ?_; rintro e w6 ⟨rfl, E6⟩; have S6 := SE _ _ S5 E6))
      have D6 : Ext wr w6 := ((Chg.refl (fun _ => False) wr).drew.trans E5).trans E6
      obtain ⟨y0, y1, y2, y3, t0, t1, t2, t3⟩ := S6
      have HC3 := Lib.hid (HC2.out _ D6)
      have xb6 := Ext.heap D6 xb5
      have tb6 := Ext.heap D6 tb5
      clear S0 S5 SE E5 E6 HC2 xb5 tb5
      go_wp2_with fail
      refine HC3.out.mono ?_
      rintro e w7 ⟨rfl, E7⟩
      have D7 := D6.trans E7
      have F7 := rE.trans D7
      have xb7 := Ext.heap E7 xb6
      have tb7 := Ext.heap E7 tb6
      clear HC3 D6 E7 xb6 tb6 y0 y1 y2 y3 t0 t1 t2 t3
      by_cases hn : n = 0
      case neg =>
        have bn : (n != 0) = true := by simpa using hn
        go_wp2_with fail
        go_ret
        exact ⟨rfl, F7⟩
      have hok := HOK2.out hn
      have hokq := (okN_turn p).2 hok
      have HOK := Lib.hid hok
      have HOQ := Lib.hid hokq
      subst hn
      clear HOK2 hok hokq
      have HQ7 := Lib.hid (HQ.out.ext D7)
      clear HQ D7 rE
      go_wp2_with fail
      obtain ⟨wo, rfl⟩ : ∃ wo : World, wo = wr := ⟨_, rfl⟩
      go_loopw [6] (fun i wr => ∃ k : Nat, k ≤ p.flows.length ∧ i = .int .i64 k ∧ Ext w7 wr) (fun i _ => p.flows.length - (intOf i).toNat)
      case atStart => exact ⟨0, Nat.zero_le _, rfl, Chg.refl _ _⟩
      case round =>
        obtain ⟨k, hk, rfl, rE⟩ := hrel
        by_cases hlt : k < p.flows.length
        · have hx : p.flows[k]? = some p.flows[k] := List.getElem?_eq_getElem hlt
          have q1 : (k : Int) < (p.flows.length : Int) := by omega
          have hfd := find_fl HOK.out hx
          have hxq : (turnP p).flows[p.flows.length - 1 - k]? = some p.flows[k] := by
            show p.flows.reverse[p.flows.length - 1 - k]? = _
            rw [List.getElem?_reverse (by omega), show p.flows.length - 1 - (p.flows.length - 1 - k) = k from by omega]
            exact hx
          have hfq := find_fl HOQ.out hxq
          rw [show ((p.flows.length - 1 - k : Nat) : Int) = (p.flows.length : Int) - 1 - (k : Int) from by omega] at hfq
          obtain ⟨_, _, e, _, _, _, hr, _⟩ := HF.out.ext (F7.trans rE)
          simp only [Value.slice.injEq, true_and] at e
          obtain ⟨rfl, rfl⟩ := e
          obtain ⟨hnm, _, _, _, b, o, rfl, _, hlt2, c0, _⟩ := hr k _ hx
          generalize p.flows[k] = x at *
          have hf := find_any p x.name _ wr.drew (H.out.ext (F7.trans rE).drew)
          have hf2 := fun (X : World) (hX : Ext wr X) => find_any (turnP p) x.name _ X.drew (HQ7.out.ext (rE.trans hX).drew)
          unfold RetFind fourV at hf hf2
          rw [hfd] at hf
          rw [hfq] at hf2
          have HFd := Lib.hid hf
          have HF2 := Lib.hid hf2
          have xb8 := Ext.heap rE xb7
          have tb8 := Ext.heap rE tb7
          have y0 := blk_cell xb8 0
          have y1 := blk_cell xb8 1
          have y2 := blk_cell xb8 2
          have y3 := blk_cell xb8 3
          simp only [List.getElem?_toArray, List.getElem?_cons_zero, List.getElem?_cons_succ] at y0 y1 y2 y3
          have t0 := blk_cell tb8 0
          have t1 := blk_cell tb8 1
          have t2 := blk_cell tb8 2
          have t3 := blk_cell tb8 3
          simp only [List.getElem?_toArray, List.getElem?_cons_zero, List.getElem?_cons_succ] at t0 t1 t2 t3
          have S0 : wr.drew.cell? ⟨w.heap.size, 0, none⟩ = some (.int .i64 p.st) ∧ wr.drew.cell? ⟨w.heap.size, 1, none⟩ = some (.slice ai p.ins.length ci) ∧ wr.drew.cell? ⟨w.heap.size, 2, none⟩ = some (.slice (some ⟨b, o, none⟩) p.flows.length cf) ∧ wr.drew.cell? ⟨w.heap.size, 3, none⟩ = some (.slice ao p.outs.length co) ∧ wr.drew.cell? ⟨B, 0, none⟩ = some (.int .i64 p.st) ∧ wr.drew.cell? ⟨B, 1, none⟩ = some (.slice ti p.ins.length di) ∧ wr.drew.cell? ⟨B, 2, none⟩ = some (.slice (some ⟨g, 0, none⟩) p.flows.length (p.flows.length + 1)) ∧ wr.drew.cell? ⟨B, 3, none⟩ = some (.slice to_ p.outs.length do_) ∧ wr.drew.cell? ⟨b, o + k * 8, none⟩ = some (.string x.name) := ⟨y0, y1, y2, y3, t0, t1, t2, t3, c0⟩
          have SE : ∀ X X' : World, (X.cell? ⟨w.heap.size, 0, none⟩ = some (.int .i64 p.st) ∧ X.cell? ⟨w.heap.size, 1, none⟩ = some (.slice ai p.ins.length ci) ∧ X.cell? ⟨w.heap.size, 2, none⟩ = some (.slice (some ⟨b, o, none⟩) p.flows.length cf) ∧ X.cell? ⟨w.heap.size, 3, none⟩ = some (.slice ao p.outs.length co) ∧ X.cell? ⟨B, 0, none⟩ = some (.int .i64 p.st) ∧ X.cell? ⟨B, 1, none⟩ = some (.slice ti p.ins.length di) ∧ X.cell? ⟨B, 2, none⟩ = some (.slice (some ⟨g, 0, none⟩) p.flows.length (p.flows.length + 1)) ∧ X.cell? ⟨B, 3, none⟩ = some (.slice to_ p.outs.length do_) ∧ X.cell? ⟨b, o + k * 8, none⟩ = some (.string x.name)) → Ext X X' → (X'.cell? ⟨w.heap.size, 0, none⟩ = some (.int .i64 p.st) ∧ X'.cell? ⟨w.heap.size, 1, none⟩ = some (.slice ai p.ins.length ci) ∧ X'.cell? ⟨w.heap.size, 2, none⟩ = some (.slice (some ⟨b, o, none⟩) p.flows.length cf) ∧ X'.cell? ⟨w.heap.size, 3, none⟩ = some (.slice ao p.outs.length co) ∧ X'.cell? ⟨B, 0, none⟩ = some (.int .i64 p.st) ∧ X'.cell? ⟨B, 1, none⟩ = some (.slice ti p.ins.length di) ∧ X'.cell? ⟨B, 2, none⟩ = some (.slice (some ⟨g, 0, none⟩) p.flows.length (p.flows.length + 1)) ∧ X'.cell? ⟨B, 3, none⟩ = some (.slice to_ p.outs.length do_) ∧ X'.cell? ⟨b, o + k * 8, none⟩ = some (.string x.name)) := fun X X' h e => ⟨Ext.cell e h.1, Ext.cell e h.2.1, Ext.cell e h.2.2.1, Ext.cell e h.2.2.2.1, Ext.cell e h.2.2.2.2.1, Ext.cell e h.2.2.2.2.2.1, Ext.cell e h.2.2.2.2.2.2.1, Ext.cell e h.2.2.2.2.2.2.2.1, Ext.cell e h.2.2.2.2.2.2.2.2⟩
          have m4 : IntKind.i64.wrap ((p.flows.length : Int) - 1) = (p.flows.length : Int) - 1 := by rw [IntKind.wrap_i64] <;> omega
          have m5 : IntKind.i64.wrap ((p.flows.length : Int) - 1 - (k : Int)) = (p.flows.length : Int) - 1 - (k : Int) := by rw [IntKind.wrap_i64] <;> omega
          clear hf hf2 hfd hfq hx hxq hr y0 y1 y2 y3 t0 t1 t2 t3 c0
          go_wp2_with fail
          go_region_held3 (fun X => X.cell? ⟨w.heap.size, 0, none⟩ = some (.int .i64 p.st) ∧ X.cell? ⟨w.heap.size, 1, none⟩ = some (.slice ai p.ins.length ci) ∧ X.cell? ⟨w.heap.size, 2, none⟩ = some (.slice (some ⟨b, o, none⟩) p.flows.length cf) ∧ X.cell? ⟨w.heap.size, 3, none⟩ = some (.slice ao p.outs.length co) ∧ X.cell? ⟨B, 0, none⟩ = some (.int .i64 p.st) ∧ X.cell? ⟨B, 1, none⟩ = some (.slice ti p.ins.length di) ∧ X.cell? ⟨B, 2, none⟩ = some (.slice (some ⟨g, 0, none⟩) p.flows.length (p.flows.length + 1)) ∧ X.cell? ⟨B, 3, none⟩ = some (.slice to_ p.outs.length do_) ∧ X.cell? ⟨b, o + k * 8, none⟩ = some (.string x.name))
            (first | (with_reducible exact S0) | (with_reducible exact S4))
            (first
              | (go_at_call 12; refine HFd.out.mono ?_; rintro e w8 ⟨rfl, E8⟩; have S4 := SE _ _ S0 E8))
          have D8 : Ext wr w8 := (Chg.refl (fun _ => False) wr).drew.trans E8
          have S6 := SE _ _ S4 (Chg.refl (fun _ => False) w8).drew
          have HF3 := Lib.hid (HF2.out _ D8)
          clear HFd HF2 S0
          go_wp2_with fail
          go_region_held3 (fun X => X.cell? ⟨w.heap.size, 0, none⟩ = some (.int .i64 p.st) ∧ X.cell? ⟨w.heap.size, 1, none⟩ = some (.slice ai p.ins.length ci) ∧ X.cell? ⟨w.heap.size, 2, none⟩ = some (.slice (some ⟨b, o, none⟩) p.flows.length cf) ∧ X.cell? ⟨w.heap.size, 3, none⟩ = some (.slice ao p.outs.length co) ∧ X.cell? ⟨B, 0, none⟩ = some (.int .i64 p.st) ∧ X.cell? ⟨B, 1, none⟩ = some (.slice ti p.ins.length di) ∧ X.cell? ⟨B, 2, none⟩ = some (.slice (some ⟨g, 0, none⟩) p.flows.length (p.flows.length + 1)) ∧ X.cell? ⟨B, 3, none⟩ = some (.slice to_ p.outs.length do_) ∧ X.cell? ⟨b, o + k * 8, none⟩ = some (.string x.name))
            (first | (with_reducible exact S6) | (with_reducible exact S7))
            (first
              | (go_at_call 12; refine HF3.out.mono ?_; rintro e w9 ⟨rfl, E9⟩; have S7 := SE _ _ S6 E9))
          have D9 : Ext w7 w9 := ((rE.trans D8).drew).trans E9
          clear S4 S6 S7 SE E8 E9 D8 rE
          go_wp2_with fail
          go_roundw
          case rel => exact ⟨k + 1, by omega, by go_num, D9⟩
          case measure => simp [intOf]; omega
        · obtain rfl : k = p.flows.length := by omega
          go_wp2_with fail
          go_ret
          exact ⟨rfl, F7.trans rE⟩
end Go.Proofs.Ytgdlocjocjamgaa
