/- late.Check. -/
import Derived.Test.YtjdficgejjkaoaaAskIt
import Derived.Test.YtjdficgejjkaoaaLateQ
import Derived.Test.YtjdficgejjkaoaaLift
namespace Go.Proofs.Ytjdficgejjkaoaa
open Go.RowKit Go.Shelf
attribute [local go_sem] Oper.semAt_some
set_option linter.unusedVariables false
set_option linter.unusedSimpArgs false

theorem pr_form {w : World} {lo : Nat} {t : Bool} {p : PrD} {cs : Array Value} (h : RdPr w lo t p cs) : ∃ ai ci af cf ao co, cs = #[.int .i64 p.st, .slice ai p.ins.length ci, .slice af p.flows.length cf, .slice ao p.outs.length co] := by
  obtain ⟨vi, vf, vo, rfl, _, hi, hf, ho⟩ := h
  obtain ⟨ai, ci, rfl, _⟩ := hi
  obtain ⟨af, cf, rfl, _⟩ := hf
  obtain ⟨ao, co, rfl, _⟩ := ho
  exact ⟨ai, ci, af, cf, ao, co, rfl⟩
theorem lateChk_not {p : PrD} {l : List Int} (h : namesP p ≠ 0 ∨ ¬ LsOk p l) : lateChk p l = false := by
  cases e : lateChk p l
  · rfl
  · unfold lateChk at e
    rw [Bool.and_eq_true, decide_eq_true_eq, fitsB_iff] at e
    exact (h.elim (fun h => h e.1) (fun h => h ⟨e.2.1, e.2.2.1⟩)).elim
theorem lateChk_miss {p : PrD} {l : List Int} {x : AskS p} (h : l.getD x.1.flow 0 < leastA l x.1) : lateChk p l = false := by
  cases e : lateChk p l
  · rfl
  · unfold lateChk at e
    rw [Bool.and_eq_true, decide_eq_true_eq, fitsB_iff] at e
    have := e.2.2.2 x.1 x.2
    omega
theorem lateChk_yes {p : PrD} {l : List Int} (h0 : namesP p = 0) (h1 : LsOk p l) (h : ∀ x, x ∈ asksP p → leastA l x ≤ l.getD x.flow 0) : lateChk p l = true := by
  unfold lateChk
  rw [Bool.and_eq_true, decide_eq_true_eq, fitsB_iff]
  exact ⟨h0, h1.1, h1.2, h⟩
/-- Between two rounds. -/
def LcI (p : PrD) (l : List Int) (w : World) (N0 : Nat) (v : Value) (pre : List (AskS p)) (W : World) : Prop := ((∀ x, x ∈ pre → leastA l x.1 ≤ l.getD x.1.flow 0) ∧ Boxed W (w.heap.size + 1) 27 v ∧ Boxed W (w.heap.size + 1 + 1) 4 (.bool false) ∧ N0 ≤ W.heap.size) ∧ Below w.heap.size w W
/-- A round has left: one does not fit. -/
def LcIx (p : PrD) (l : List Int) (w : World) (c : Code) (pre : List (AskS p)) (W : World) : Prop := (c = .ret ∧ lateChk p l = false ∧ Boxed W (w.heap.size + 1 + 1) 4 (.bool false)) ∧ Below w.heap.size w W
theorem LcI.own {p : PrD} {l : List Int} {w : World} {v : Value} {N N0 : Nat} (hN : w.heap.size ≤ N) : OwnFrom N (LcI p l w N0 v) := by
  refine OwnFrom.and (fun s X Y row hs hg hr => ?_) (ownFrom_below (Nat.le_refl _) hN)
  obtain ⟨h1, h2, h3, h4⟩ := hs
  exact ⟨h1, bkept h2 hg hr, bkept h3 hg hr, Nat.le_trans h4 hg.size⟩
theorem LcIx.own {p : PrD} {l : List Int} {w : World} {N : Nat} (hN : w.heap.size ≤ N) (c : Code) : OwnFrom N (LcIx p l w c) := by
  refine OwnFrom.and (fun s X Y row hs hg hr => ?_) (ownFrom_below (Nat.le_refl _) hN)
  obtain ⟨h1, h2, h3⟩ := hs
  exact ⟨h1, h2, bkept h3 hg hr⟩
theorem res_lc {W : World} {tmps : Array Value} {b : Nat} {v : Value} (hc : W.cell? ⟨b, 0, none⟩ = some v) (h : tmps[4]?.getD undef = .pointer (some ⟨b, 0, none⟩)) : (results Try.f15 tmps).run Try.prog W = .ok v W := by
  simp [results, Try.results15, go_sem, h, hc]
theorem lc_leave {w W : World} {D : Nat} {b B : Bool} {tmps : Array Value} (hd : W.heap[D]? = some (.deferred (some []))) (hDw : w.heap.size ≤ D) (rb : Boxed W (w.heap.size + 1 + 1) 4 (.bool b)) (hE : Below w.heap.size w W) (hn : B = b)
    (ht : tmps[4]?.getD undef = .pointer (some ⟨w.heap.size + 1 + 1, 0, none⟩)) : LeavesInM Fence.wide 8 Try.prog Try.f15 tmps (RetV B w) [{ target := .collected D, args := #[] }] .returning W := by
  have hne : w.heap.size + 1 + 1 ≠ D := fun e => by rw [← e, rb] at hd; cases hd
  have rb1 : Boxed (W.putObj D (.deferred none)) (w.heap.size + 1 + 1) 4 (.bool b) := put_heap rb hne
  refine ⟨by simp, .inl ⟨_, _, rfl, run_takeDeferred hd, ?_⟩⟩
  exact ⟨_, res_lc rb1.cell ht, by rw [hn], Ext.of_below (hE.trans (belowK_b (w := w) (Nat.le_refl _) W D _ _ hDw hd rfl rfl))⟩
theorem keepsFrom_ext {W X : World} (h : Ext W X) (B : Nat) : KeepsFrom B W X := ⟨h.size, fun k o _ hk _ => Ext.heap h hk⟩
set_option maxRecDepth 100000 in
set_option maxHeartbeats 8000000 in
theorem lateChk_any (p : PrD) (cs : Array Value) (l : List Int) (v : Value) (w : World) (h : RdPr w 0 false p cs) (hl : RdIntV w 0 false l v) : Calls Try.prog 15 #[.agg cs, v] w (RetV (lateChk p l) w) := by
  have HP := Lib.hid h
  have HL := Lib.hid hl
  obtain ⟨ai, ci, af, cf, ao, co, rfl⟩ := pr_form h
  obtain ⟨la, lc, rfl, hlf, _⟩ := hl.form
  unfold fitsR at hlf
  clear h hl
  have e0 : Ext w (((w.alloc (.cells #[.int .i64 p.st, .slice ai p.ins.length ci, .slice af p.flows.length cf, .slice ao p.outs.length co] 26)).alloc (.cells #[.slice la l.length lc] 27)).alloc (.cells #[.bool false] 4)) := (((Chg.refl _ _).alloc _).alloc _).alloc _
  have xb := Ext.heap (((Chg.refl _ _).alloc (.cells #[.slice la l.length lc] 27)).alloc (.cells #[.bool false] 4)) (heap_alloc_new w (.cells #[.int .i64 p.st, .slice ai p.ins.length ci, .slice af p.flows.length cf, .slice ao p.outs.length co] 26))
  have lb := Ext.heap ((Chg.refl _ _).alloc (.cells #[.bool false] 4)) (heap_alloc_new (w.alloc (.cells #[.int .i64 p.st, .slice ai p.ins.length ci, .slice af p.flows.length cf, .slice ao p.outs.length co] 26)) (.cells #[.slice la l.length lc] 27))
  have rb := heap_alloc_new ((w.alloc (.cells #[.int .i64 p.st, .slice ai p.ins.length ci, .slice af p.flows.length cf, .slice ao p.outs.length co] 26)).alloc (.cells #[.slice la l.length lc] 27)) (.cells #[.bool false] 4)
  simp only [World.size_alloc] at lb rb
  refine (callsIn_wide (n := 8)).1 ?_
  refine callsIn_of_wp_marks Try.func15 rfl trivial ?_ rfl
  simp only [Try.ntmps15, List.size_toArray, List.length_cons, List.length_nil, Nat.reduceAdd, Nat.reduceSub, Array.replicate_succ, Array.replicate_zero, List.push_toArray, List.append_toArray, List.nil_append, List.cons_append]
  have y0 := fun (X : World) (hX : Ext (((w.alloc (.cells #[.int .i64 p.st, .slice ai p.ins.length ci, .slice af p.flows.length cf, .slice ao p.outs.length co] 26)).alloc (.cells #[.slice la l.length lc] 27)).alloc (.cells #[.bool false] 4)) X) => (blk_cell (Ext.heap hX xb) 0).trans rfl
  gi_wp2
  generalize (((w.alloc (.cells #[.int .i64 p.st, .slice ai p.ins.length ci, .slice af p.flows.length cf, .slice ao p.outs.length co] 26)).alloc (.cells #[.slice la l.length lc] 27)).alloc (.cells #[.bool false] 4)) = W0 at *
  refine ⟨trivial, (callsIn_wide.2 (nCheck_any p _ _ (HP.out.ext e0))).mono ?_⟩
  rintro e w1 ⟨rfl, E1⟩
  have F1 := e0.trans E1
  have xb1 := Ext.heap E1 xb
  have lb1 := Ext.heap E1 lb
  have rb1 : Boxed w1 (w.heap.size + 1 + 1) 4 (.bool false) := Ext.heap E1 rb
  clear y0 xb lb rb E1 e0
  have y0 : ∀ X, Ext w1 X → X.cell? ⟨w.heap.size, 0, none⟩ = some (.int .i64 p.st) := fun X hX => (blk_cell (Ext.heap hX xb1) 0).trans rfl
  have y1 : ∀ X, Ext w1 X → X.cell? ⟨w.heap.size, 1, none⟩ = some (.slice ai p.ins.length ci) := fun X hX => (blk_cell (Ext.heap hX xb1) 1).trans rfl
  have y2 : ∀ X, Ext w1 X → X.cell? ⟨w.heap.size, 2, none⟩ = some (.slice af p.flows.length cf) := fun X hX => (blk_cell (Ext.heap hX xb1) 2).trans rfl
  have y3 : ∀ X, Ext w1 X → X.cell? ⟨w.heap.size, 3, none⟩ = some (.slice ao p.outs.length co) := fun X hX => (blk_cell (Ext.heap hX xb1) 3).trans rfl
  have yl : ∀ X, Ext w1 X → X.cell? ⟨w.heap.size + 1, 0, none⟩ = some (.slice la l.length lc) := fun X hX => (blk_cell (Ext.heap hX lb1) 0).trans rfl
  have er : Ext w1 w1 := Chg.refl _ _
  have r0 := rb1.cell
  have g0 := rb1.frozen
  by_cases hn : namesP p = 0
  case neg =>
    have bn : (namesP p != 0) = true := by simp [hn]
    have HF := Lib.hid (lateChk_not (p := p) (l := l) (.inl hn))
    have rb2 := Boxed.set (.bool false) rb1
    have HB := Lib.hid rb2.cell
    generalize namesP p = np at *
    clear rb2 rb1
    gi_wp2
    refine ⟨trivial, ?_⟩
    gi_wp2
    exact ⟨_, res_lc HB.out rfl, by rw [HF.out], F1.setCell _ _ (.inr (by show _ ≤ w.heap.size + 1 + 1; omega))⟩
  have HN := Lib.hid hn
  have bn : (namesP p != 0) = false := by simp [hn]
  clear hn
  generalize namesP p = np at bn ⊢
  by_cases hlen : l.length = p.flows.length
  case neg =>
    have bl : ((l.length : Int) != (p.flows.length : Int)) = true := by simp; omega
    have HF := Lib.hid (lateChk_not (p := p) (l := l) (.inr (fun h => hlen h.1)))
    have rb2 := Boxed.set (.bool false) rb1
    have HB := Lib.hid rb2.cell
    clear rb2 rb1
    gi_wp2
    refine ⟨trivial, ?_⟩
    gi_wp2
    exact ⟨_, res_lc HB.out rfl, by rw [HF.out], F1.setCell _ _ (.inr (by show _ ≤ w.heap.size + 1 + 1; omega))⟩
  have bl : ((l.length : Int) != (p.flows.length : Int)) = false := by simp; omega
  have HLEN := Lib.hid hlen
  clear hlen
  have HBAD := Lib.hid (hasN_any l _ w1 (HL.out.ext F1))
  gi_wp2
  refine ⟨trivial, (callsIn_wide.2 HBAD.out).mono ?_⟩
  rintro e w2 ⟨he, E2⟩
  have F2 := F1.trans E2
  have rb2 : Boxed w2 (w.heap.size + 1 + 1) 4 (.bool false) := Ext.heap E2 rb1
  have lb2 : Boxed w2 (w.heap.size + 1) 27 (.slice la l.length lc) := Ext.heap E2 lb1
  have xb2 := Ext.heap E2 xb1
  have hw2 : w.heap.size + 1 + 1 < w2.heap.size := lt_of_block rb2
  clear y0 y1 y2 y3 yl r0 g0 rb1 lb1 xb1 F1 HBAD er
  have y0 := (blk_cell xb2 0).trans rfl
  have y1 := (blk_cell xb2 1).trans rfl
  have y2 := (blk_cell xb2 2).trans rfl
  have y3 := (blk_cell xb2 3).trans rfl
  simp only [List.getElem?_toArray, List.getElem?_cons_zero, List.getElem?_cons_succ] at y0 y1 y2 y3
  have yl := lb2.cell
  have r0 := rb2.cell
  have g0 := rb2.frozen
  cases hbad : l.any lateBad
  case true =>
    rw [hbad] at he
    subst he
    have HF := Lib.hid (lateChk_not (p := p) (l := l) (.inr (fun h => by rw [(lsOk_iff.1 h).2] at hbad; cases hbad)))
    have rb3 := Boxed.set (.bool false) rb2
    have HB := Lib.hid rb3.cell
    clear rb3 rb2 hbad
    gi_wp2
    exact ⟨_, res_lc HB.out rfl, by rw [HF.out], F2.setCell _ _ (.inr (by show _ ≤ w.heap.size + 1 + 1; omega))⟩
  rw [hbad] at he
  subst he
  have hok : LsOk p l := lsOk_iff.2 ⟨HLEN.out, hbad⟩
  have HOK := Lib.hid hok
  have hpr := names_prog HN.out
  have HPR := Lib.hid hpr
  clear hok hbad hpr
  gi_wp2
  refine ⟨trivial, (callsIn_wide.2 (askings_any _ _ _ _ _ _ rfl)).mono ?_⟩
  rintro e w' ⟨rfl, rfl⟩
  have E3 : Ext w2 (w2.alloc (.cells #[.int .i64 p.st, .slice ai p.ins.length ci, .slice af p.flows.length cf, .slice ao p.outs.length co] 26)) := (Chg.refl _ _).alloc _
  have F3 := F2.trans E3
  have pb := heap_alloc_new w2 (.cells #[.int .i64 p.st, .slice ai p.ins.length ci, .slice af p.flows.length cf, .slice ao p.outs.length co] 26)
  have rb3 : Boxed _ (w.heap.size + 1 + 1) 4 (.bool false) := Ext.heap E3 rb2
  have lb3 : Boxed _ (w.heap.size + 1) 27 (.slice la l.length lc) := Ext.heap E3 lb2
  have hs3 : (w2.alloc (.cells #[.int .i64 p.st, .slice ai p.ins.length ci, .slice af p.flows.length cf, .slice ao p.outs.length co] 26)).heap.size = w2.heap.size + 1 := by simp
  generalize (w2.alloc (.cells #[.int .i64 p.st, .slice ai p.ins.length ci, .slice af p.flows.length cf, .slice ao p.outs.length co] 26)) = W0 at *
  generalize hBs : w2.heap.size = Bs at *
  clear y0 y1 y2 y3 yl r0 g0 rb2 lb2 xb2 E3
  gi_wp2
  refine wpIn_rangeFunc_ownH rfl (by omega) (gf := 64) (lb := #[.pointer (some ⟨Bs, 0, none⟩)]) rfl trivial (enters_of Try.func64 (by kernel_rfl) rfl)
    (askings_iter 7 (by omega) Bs p W0 _ (HP.out.ext F3) HPR.out pb) kpT_t (fun W l o o' hl => kpT_b (Nat.le_refl _) W l o o' hl) (Below.refl _ _) (fun _ => rfl)
    (LcI p l w W0.heap.size (.slice la l.length lc)) (LcIx p l w) (LcI.own (by omega)) (LcIx.own (by omega)) ⟨⟨fun x h => by simp at h, lb3, rb3, Nat.le_refl _⟩, Ext.below F3⟩
    (fun x a' W => ∃ Bx, W0.heap.size ≤ Bx ∧ W.heap[Bx]? = some (.cells #[.int .i64 x.1.flow, .int .i64 x.1.src, .int .i64 x.1.more, .string x.1.ref.1, .int .i64 x.1.ref.2] 84 (0, 0)) ∧ W0.heap.size ≤ W.heap.size ∧ a' = { tmps := #[.agg #[.int .i64 p.st, .slice ai p.ins.length ci, .slice af p.flows.length cf, .slice ao p.outs.length co], .slice la l.length lc, .pointer (some ⟨w.heap.size, 0, none⟩), .pointer (some ⟨w.heap.size + 1, 0, none⟩), .pointer (some ⟨w.heap.size + 1 + 1, 0, none⟩), .pointer (some ⟨Bx, 0, none⟩), .agg #[.int .i64 p.st, .slice ai p.ins.length ci, .slice af p.flows.length cf, .slice ao p.outs.length co], .int .i64 np, .bool false, .bool false, .slice la l.length lc, .int .i64 l.length, .pointer (some ⟨w.heap.size, 2, none⟩), .slice af p.flows.length cf, .int .i64 p.flows.length, .bool false, .bool false, .bool false, .slice la l.length lc, .bool false, .bool false, .agg #[.int .i64 p.st, .slice ai p.ins.length ci, .slice af p.flows.length cf, .slice ao p.outs.length co], .func (.func 64) #[] #[.pointer (some ⟨Bs, 0, none⟩)], askV x.1, undef, undef, undef, undef, undef, undef, undef, undef, undef], defers := [] })
    (fun x a' _ X Y row hs hg hr => by obtain ⟨Bx, h1, h2, h3, h4⟩ := hs; exact ⟨Bx, h1, blkept h2 hg hr, by have := hg.size; omega, h4⟩)
    ?assign ?body ?done ?stop
  case assign =>
    rintro l0 pre x W K ⟨⟨h1, h2, h3, hws⟩, hB⟩ hK
    simp only [askC, askV]
    gi_wp2
    have E : Ext W (W.alloc (.cells #[.int .i64 x.1.flow, .int .i64 x.1.src, .int .i64 x.1.more, .string x.1.ref.1, .int .i64 x.1.ref.2] 84)) := (Chg.refl _ _).alloc _
    exact hK _ _ ((KeepsOthers.alloc _ _).from _) (Ext.kpT E hws) ⟨⟨h1, h2.alloc _, h3.alloc _, by simp; omega⟩, hB.alloc hB.size _⟩ ⟨W.heap.size, hws, World.alloc_heap_new W _, by simp; omega, rfl⟩
  case body =>
    rintro l0 pre x a' W hl0 ⟨r, hr⟩ ⟨⟨h1, h2, h3, hws⟩, hB⟩ ⟨Bx, hBx, bX, hWs, rfl⟩ hlt
    have hao := ask_ok HPR.out x.2
    have HMISS := Lib.hid (fun (h : l.getD x.1.flow 0 < leastA l x.1) => lateChk_miss (x := x) h)
    have hEw : Ext w W := Ext.of_below hB
    have hfl : x.1.flow < l.length := by have := hao.flow; have := HLEN.out; omega
    have hfi : (x.1.flow : Int) < (l.length : Int) := by omega
    have hx := List.getElem?_eq_getElem hfl
    have hgd : l.getD x.1.flow 0 = l[x.1.flow] := by rw [List.getD_eq_getElem?_getD, hx]; rfl
    rw [hgd] at HMISS
    have HGD := Lib.hid hgd
    obtain ⟨hu64, b2, o2, rfl, _, _, cu⟩ := (HL.out.ext hEw).get hx
    have HLS := Lib.hid (fun (X : World) (hX : Ext W X) => askLeast_any p x.1 l _ X hao (HL.out.ext (hEw.trans hX)) HOK.out)
    have hu : ∀ X, Ext W X → X.cell? ⟨b2, o2 + x.1.flow, none⟩ = some (.int .i64 l[x.1.flow]) := fun X hX => Ext.cell hX cu
    have hx0 : ∀ X, Ext W X → X.cell? ⟨Bx, 0, none⟩ = some (.int .i64 x.1.flow) := fun X hX => (blk_cell (Ext.heap hX bX) 0).trans rfl
    have hx1 : ∀ X, Ext W X → X.cell? ⟨Bx, 1, none⟩ = some (.int .i64 x.1.src) := fun X hX => (blk_cell (Ext.heap hX bX) 1).trans rfl
    have hx2 : ∀ X, Ext W X → X.cell? ⟨Bx, 2, none⟩ = some (.int .i64 x.1.more) := fun X hX => (blk_cell (Ext.heap hX bX) 2).trans rfl
    have hx3 : ∀ X, Ext W X → X.cell? ⟨Bx, 3, none⟩ = some (.string x.1.ref.1) := fun X hX => (blk_cell (Ext.heap hX bX) 3).trans rfl
    have hx4 : ∀ X, Ext W X → X.cell? ⟨Bx, 4, none⟩ = some (.int .i64 x.1.ref.2) := fun X hX => (blk_cell (Ext.heap hX bX) 4).trans rfl
    have hyl : ∀ X, Ext W X → X.cell? ⟨w.heap.size + 1, 0, none⟩ = some (.slice (some ⟨b2, o2, none⟩) l.length lc) := fun X hX => (blk_cell (Ext.heap hX h2) 0).trans rfl
    have hr0 : ∀ X, Ext W X → X.cell? ⟨w.heap.size + 1 + 1, 0, none⟩ = some (.bool false) := fun X hX => (blk_cell (Ext.heap hX h3) 0).trans rfl
    have hg0 : ∀ X, Ext W X → X.frozen? ⟨w.heap.size + 1 + 1, 0, none⟩ = false := fun X hX => blk_free (Ext.heap hX h3) 0
    have hE0 : Ext W W := Chg.refl _ _
    have hEd : Ext W W.drew := (Chg.refl _ _).drew
    have HH1 := Lib.hid h1
    have HH2 := Lib.hid h2
    have HH3 := Lib.hid h3
    have hmx : Try.prog.follows .mixedOrders = true := by kernel_rfl
    unfold askV at HLS
    unfold RetE at HLS
    have hsq : 0 ≤ (x.1.flow : Int) := by omega
    clear hgd hx h1 h2 h3 bX cu hao
    generalize hm : leastA l x.1 = m at HLS HMISS
    have HM := Lib.hid hm
    clear hm
    generalize l[x.1.flow] = u at *
    generalize x.1.flow = fl at hu hx0 hfi hfl hsq HLS ⊢
    gi_wp2
    refine region_lift (fun X => Ext W X) (by kernel_rfl) (by kernel_rfl) (by rintro ⟨_, _, h⟩; exact h) hEd (fun hHeld => ?_)
    refine wpAnyH_take (i := 0) (oi := _) (v := ?_) rfl (by kernel_rfl) (by kernel_rfl) (by kernel_rfl) (fun _ _ _ h => h) (Or.inl ⟨by rfl, ?_⟩) (by assumption) ?_
    rotate_left
    · (intro X hSw; (try dsimp only at hSw); go_simp; try with_reducible rfl)
    try simp only [Act.put, List.setIfInBounds_toArray, List.set_cons_zero, List.set_cons_succ]
    refine wpAnyH_take (i := 1) (oi := _) (v := ?_) rfl (by kernel_rfl) (by kernel_rfl) (by kernel_rfl) (fun _ _ _ h => h) (Or.inl ⟨by rfl, ?_⟩) (by assumption) ?_
    rotate_left
    · (intro X hSw; (try dsimp only at hSw); go_simp; try with_reducible rfl)
    try simp only [Act.put, List.setIfInBounds_toArray, List.set_cons_zero, List.set_cons_succ]
    refine wpAnyH_take (i := 3) (oi := _) (v := ?_) rfl (by kernel_rfl) (by kernel_rfl) (by kernel_rfl) (fun _ _ _ h => h) (Or.inl ⟨by rfl, ?_⟩) (by assumption) ?_
    rotate_left
    · (intro X hSw; (try dsimp only at hSw); go_simp; try with_reducible rfl)
    try simp only [Act.put, List.setIfInBounds_toArray, List.set_cons_zero, List.set_cons_succ]
    refine wpAnyH_take (i := 4) (oi := _) (v := ?_) rfl (by kernel_rfl) (by kernel_rfl) (by kernel_rfl) (fun _ _ _ h => h) (Or.inl ⟨by rfl, ?_⟩) (by assumption) ?_
    rotate_left
    · (intro X hSw; (try dsimp only at hSw); go_simp; try with_reducible rfl)
    try simp only [Act.put, List.setIfInBounds_toArray, List.set_cons_zero, List.set_cons_succ]
    refine wpAnyH_take (i := 5) (oi := _) (v := ?_) rfl (by kernel_rfl) (by kernel_rfl) (by kernel_rfl) (fun _ _ _ h => h) (Or.inl ⟨by rfl, ?_⟩) (by assumption) ?_
    rotate_left
    · (intro X hSw; (try dsimp only at hSw); go_simp; try with_reducible rfl)
    try simp only [Act.put, List.setIfInBounds_toArray, List.set_cons_zero, List.set_cons_succ]
    refine wpAnyH_take (i := 6) (oi := _) (v := ?_) rfl (by kernel_rfl) (by kernel_rfl) (by kernel_rfl) (fun _ _ _ h => h) (Or.inl ⟨by rfl, ?_⟩) (by assumption) ?_
    rotate_left
    · (intro X hSw; (try dsimp only at hSw); go_simp; try with_reducible rfl)
    try simp only [Act.put, List.setIfInBounds_toArray, List.set_cons_zero, List.set_cons_succ]
    refine wpAnyH_take (i := 7) (oi := _) (v := ?_) rfl (by kernel_rfl) (by kernel_rfl) (by kernel_rfl) (fun _ _ _ h => h) (Or.inl ⟨by rfl, ?_⟩) (by assumption) ?_
    rotate_left
    · (intro X hSw; (try dsimp only at hSw); go_simp; try with_reducible rfl)
    try simp only [Act.put, List.setIfInBounds_toArray, List.set_cons_zero, List.set_cons_succ]
    refine wpAnyH_ready (rs := [2]) (by kernel_rfl) (by simp) ?_
    refine AllReadyH.cons (o := _) rfl (fun K hK => ?_) AllReadyH.nil
    go_simp
    refine (HLS.out _ hHeld).mono ?_
    rintro e W5 ⟨rfl, E5⟩
    have hE5 := hHeld.trans E5
    go_simp
    refine hK.out _ _ (by assumption) (fun hHeld2 => ?_)
    clear hK K hHeld2
    try simp only [Act.put, List.setIfInBounds_toArray, List.set_cons_zero, List.set_cons_succ]
    refine wpAnyH_take (i := 8) (oi := _) (v := ?_) rfl (by kernel_rfl) (by kernel_rfl) (by kernel_rfl) (fun _ _ _ h => h) (Or.inl ⟨by rfl, ?_⟩) (by assumption) ?_
    rotate_left
    · (intro X hSw; (try dsimp only at hSw); go_simp; try with_reducible rfl)
    try simp only [Act.put, List.setIfInBounds_toArray, List.set_cons_zero, List.set_cons_succ]
    refine wpAnyH_done (by kernel_rfl) ?_ _
    have hB5 : Below w.heap.size w W5 := Ext.below (hEw.trans hE5)
    have hKF : KeepsFrom W0.heap.size W W5 := keepsFrom_ext hE5 _
    have hKT := Ext.kpT hE5 hws
    have h25 : Boxed W5 (w.heap.size + 1) 27 (.slice (some ⟨b2, o2, none⟩) l.length lc) := Ext.heap hE5 HH2.out
    have h35 : Boxed W5 (w.heap.size + 1 + 1) 4 (.bool false) := Ext.heap hE5 HH3.out
    have hs5 := hE5.size
    by_cases hle : u < m
    · have hF := HMISS.out hle
      have HQ : Hid (KeepsFrom W0.heap.size W (W5.setCell ⟨w.heap.size + 1 + 1, 0, none⟩ (.bool false)) ∧ LcIx p l w .ret (pre ++ [x]) (W5.setCell ⟨w.heap.size + 1 + 1, 0, none⟩ (.bool false))) :=
        ⟨hKF.trans ((KeepsOthers.setCell _ _ _).from _), ⟨rfl, hF, Boxed.set _ h35⟩, hB5.setCell (p := ⟨w.heap.size + 1 + 1, 0, none⟩) (by show _ ≤ w.heap.size + 1 + 1; omega) _⟩
      clear hF hKF hKT h25 h35 hB5
      gi_wp2
      exact HQ.out
    · have HQ : Hid (KeepsFrom W0.heap.size W W5 ∧ KpT W0.heap.size W W5 ∧ LcI p l w W0.heap.size (.slice (some ⟨b2, o2, none⟩) l.length lc) (pre ++ [x]) W5) :=
        ⟨hKF, hKT, ⟨fun y hy => (List.mem_append.1 hy).elim (HH1.out y) (fun e => by rw [List.mem_singleton.1 e, HM.out, HGD.out]; omega), h25, h35, by omega⟩, hB5⟩
      clear hKF hKT h25 h35 hB5
      gi_wp2
      have HQ2 := HQ.out
      rw [hs3] at HQ2
      exact HQ2
  case done =>
    rintro D ys W hD hys ⟨⟨h1, h2, h3, _⟩, hB⟩ hK
    have HT := Lib.hid (lateChk_yes HN.out HOK.out (fun x hx => by
      rw [← hys] at hx
      obtain ⟨y, hy, rfl⟩ := List.mem_map.1 hx
      exact h1 y hy))
    have r0 := h3.cell
    have g0 := h3.frozen
    have rb6 := Boxed.set (.bool true) h3
    have hd6 := (KeepsOthers.setCell W ⟨w.heap.size + 1 + 1, 0, none⟩ (.bool true)).same D _ hK rfl
    have hB6 : Below w.heap.size w (W.setCell ⟨w.heap.size + 1 + 1, 0, none⟩ (.bool true)) := hB.setCell (p := ⟨w.heap.size + 1 + 1, 0, none⟩) (by show _ ≤ w.heap.size + 1 + 1; omega) _
    gi_wp2
    exact lc_leave hd6 (by omega) rb6 hB6 HT.out rfl
  case stop =>
    rintro D c pre W hD _ ⟨⟨rfl, h1, h2⟩, hB⟩ hK
    gi_wp2
    exact lc_leave hK (by omega) h2 hB h1 rfl
end Go.Proofs.Ytjdficgejjkaoaa
