/- late.Age. -/
import Derived.Test.YtjdficgejjkaoaaLateChk
namespace Go.Proofs.Ytjdficgejjkaoaa
open Go.RowKit Go.Shelf
attribute [local go_sem] Oper.semAt_some
set_option linter.unusedVariables false
set_option linter.unusedSimpArgs false

/-- Does one that asks be this flow, and ask for this? -/
def askIs (flow : Int) (r : Rf) (x : Ask) : Bool := decide ((x.flow : Int) = flow) && decide (x.ref = r)
theorem ageP_eq (p : PrD) (l : List Int) (flow : Int) (r : Rf) : ageP p l flow r = if lateChk p l = false then ((0 : Int), (1 : Int)) else match (asksP p).find? (askIs flow r) with
  | none => (0, 1)
  | some x => (l.getD x.flow 0 - leastA l x, 0) := rfl
theorem age_no {p : PrD} {l : List Int} {flow : Int} {r : Rf} (h : lateChk p l = false) : ageP p l flow r = (0, 1) := by rw [ageP_eq, if_pos h]
theorem age_none {p : PrD} {l : List Int} {flow : Int} {r : Rf} (h : lateChk p l = true) (hn : ∀ x, x ∈ asksP p → askIs flow r x = false) : ageP p l flow r = (0, 1) := by
  rw [ageP_eq, if_neg (by simp [h])]
  rw [List.find?_eq_none.2 (fun x hx => by simp [hn x hx])]
theorem age_some {p : PrD} {l : List Int} {flow : Int} {r : Rf} (h : lateChk p l = true) {ys : List Ask} {x : Ask} (hp : ys ++ [x] <+: asksP p) (hn : ∀ y, y ∈ ys → askIs flow r y = false) (hx : askIs flow r x = true) : ageP p l flow r = (l.getD x.flow 0 - leastA l x, 0) := by
  rw [ageP_eq, if_neg (by simp [h])]
  obtain ⟨rest, e⟩ := hp
  rw [← e, List.append_assoc, List.find?_append, List.find?_eq_none.2 (fun x hx => by simp [hn x hx])]
  simp [List.find?_cons, hx]
def RetAge (a : Int × Int) (w : World) (e : Ending) (w' : World) : Prop := e = .returned (.tuple #[.int .i64 a.1, .int .i64 a.2]) ∧ Ext w w'
theorem leastA_rng {p : PrD} {l : List Int} (h : LsOk p l) {x : Ask} (hx : AskOk p x) : -32 ≤ leastA l x ∧ leastA l x ≤ 1001 := by
  have h1 := getD_rng h.2 x.src.toNat
  have h2 := hx.more0
  have h3 := hx.more1
  unfold leastA
  split <;> omega
/-- The boxes. -/
def AgB (w : World) (v : Value) (flow : Int) (r : Rf) (a b : Int) (W : World) : Prop := Boxed W (w.heap.size + 1) 27 v ∧ Boxed W (w.heap.size + 1 + 1) 3 (.int .i64 flow) ∧ W.heap[w.heap.size + 1 + 1 + 1]? = some (.cells #[.string r.1, .int .i64 r.2] 29 (0, 0)) ∧ Boxed W (w.heap.size + 1 + 1 + 1 + 1) 3 (.int .i64 a) ∧ Boxed W (w.heap.size + 1 + 1 + 1 + 1 + 1) 36 (.int .i64 b)
theorem AgB.kept {w : World} {v : Value} {flow : Int} {r : Rf} {a b : Int} {W W' : World} {row : Option Nat} {N : Nat} (h : AgB w v flow r a b W) (hg : W.grownBy W' row) (hr : ∀ r, row = some r → N ≤ r ∧ ∃ o : Obj, W.heap[r]? = some o ∧ o.isCells = false) : AgB w v flow r a b W' :=
  ⟨bkept h.1 hg hr, bkept h.2.1 hg hr, blkept h.2.2.1 hg hr, bkept h.2.2.2.1 hg hr, bkept h.2.2.2.2 hg hr⟩
theorem AgB.ext {w : World} {v : Value} {flow : Int} {r : Rf} {a b : Int} {W W' : World} (h : AgB w v flow r a b W) (he : Ext W W') : AgB w v flow r a b W' :=
  ⟨Ext.heap he h.1, Ext.heap he h.2.1, Ext.heap he h.2.2.1, Ext.heap he h.2.2.2.1, Ext.heap he h.2.2.2.2⟩
/-- Both results written. -/
def agSet (w : World) (a b : Int) (W : World) : World := (W.setCell ⟨w.heap.size + 1 + 1 + 1 + 1, 0, none⟩ (.int .i64 a)).setCell ⟨w.heap.size + 1 + 1 + 1 + 1 + 1, 0, none⟩ (.int .i64 b)
theorem AgB.set {w : World} {v : Value} {flow : Int} {r : Rf} {a b c d : Int} {W : World} (h : AgB w v flow r a b W) : AgB w v flow r c d (agSet w c d W) := by
  obtain ⟨h1, h2, h3, h4, h5⟩ := h
  refine ⟨((h1.other (by omega) _).other (by omega) _), ((h2.other (by omega) _).other (by omega) _), ?_, ((Boxed.set _ h4).other (by omega) _), Boxed.set _ (h5.other (by omega) _)⟩
  exact (Chg.setCell (Chg.setCell (Chg.refl (fun q => q = w.heap.size + 1 + 1 + 1 + 1 ∨ q = w.heap.size + 1 + 1 + 1 + 1 + 1) W) ⟨w.heap.size + 1 + 1 + 1 + 1, 0, none⟩ (.int .i64 c) (.inl (.inl (Eq.refl _)))) ⟨w.heap.size + 1 + 1 + 1 + 1 + 1, 0, none⟩ (.int .i64 d) (.inl (.inr (Eq.refl _)))).heap h3 (by omega)
theorem agSet_others (w : World) (a b : Int) (W : World) : KeepsOthers W (agSet w a b W) := (KeepsOthers.setCell _ _ _).trans (KeepsOthers.setCell _ _ _)
theorem agSet_below {w W : World} (a b : Int) (hB : Below w.heap.size w W) : Below w.heap.size w (agSet w a b W) :=
  (hB.setCell (p := ⟨w.heap.size + 1 + 1 + 1 + 1, 0, none⟩) (by show _ ≤ w.heap.size + 1 + 1 + 1 + 1; omega) _).setCell (p := ⟨w.heap.size + 1 + 1 + 1 + 1 + 1, 0, none⟩) (by show _ ≤ w.heap.size + 1 + 1 + 1 + 1 + 1; omega) _
/-- Between two rounds. -/
def AgI (p : PrD) (w : World) (N0 : Nat) (v : Value) (flow : Int) (r : Rf) (pre : List (AskS p)) (W : World) : Prop := ((∀ x, x ∈ pre → askIs flow r x.1 = false) ∧ AgB w v flow r 0 0 W ∧ N0 ≤ W.heap.size) ∧ Below w.heap.size w W
/-- A round has left: here it is. -/
def AgIx (p : PrD) (l : List Int) (w : World) (v : Value) (flow : Int) (r : Rf) (c : Code) (pre : List (AskS p)) (W : World) : Prop := (c = .ret ∧ ∃ ys x, pre = ys ++ [x] ∧ (∀ y, y ∈ ys → askIs flow r y.1 = false) ∧ askIs flow r x.1 = true ∧ AgB w v flow r (l.getD x.1.flow 0 - leastA l x.1) 0 W) ∧ Below w.heap.size w W
theorem AgI.own {p : PrD} {w : World} {v : Value} {flow : Int} {r : Rf} {N N0 : Nat} (hN : w.heap.size ≤ N) : OwnFrom N (AgI p w N0 v flow r) := by
  refine OwnFrom.and (fun s X Y row hs hg hr => ?_) (ownFrom_below (Nat.le_refl _) hN)
  obtain ⟨h1, h2, h3⟩ := hs
  exact ⟨h1, h2.kept hg hr, Nat.le_trans h3 hg.size⟩
theorem AgIx.own {p : PrD} {l : List Int} {w : World} {v : Value} {flow : Int} {r : Rf} {N : Nat} (hN : w.heap.size ≤ N) (c : Code) : OwnFrom N (AgIx p l w v flow r c) := by
  refine OwnFrom.and (fun s X Y row hs hg hr => ?_) (ownFrom_below (Nat.le_refl _) hN)
  obtain ⟨h1, ys, x, h2, h3, h4, h5⟩ := hs
  exact ⟨h1, ys, x, h2, h3, h4, h5.kept hg hr⟩
theorem res_ag {W : World} {tmps : Array Value} {b c : Nat} {u v : Value} (hc : W.cell? ⟨b, 0, none⟩ = some u) (hd : W.cell? ⟨c, 0, none⟩ = some v) (h : tmps[8]?.getD undef = .pointer (some ⟨b, 0, none⟩)) (k : tmps[9]?.getD undef = .pointer (some ⟨c, 0, none⟩)) : (results Try.f13 tmps).run Try.prog W = .ok (.tuple #[u, v]) W := by
  simp [results, Try.results13, go_sem, h, k, hc, hd]
theorem ag_leave {w W : World} {D : Nat} {v : Value} {flow : Int} {r : Rf} {a b : Int} {A : Int × Int} {tmps : Array Value} (hd : W.heap[D]? = some (.deferred (some []))) (hDw : w.heap.size ≤ D) (rb : AgB w v flow r a b W) (hE : Below w.heap.size w W) (hn : A = (a, b))
    (ht : tmps[8]?.getD undef = .pointer (some ⟨w.heap.size + 1 + 1 + 1 + 1, 0, none⟩)) (ht2 : tmps[9]?.getD undef = .pointer (some ⟨w.heap.size + 1 + 1 + 1 + 1 + 1, 0, none⟩)) : LeavesInM Fence.wide 8 Try.prog Try.f13 tmps (RetAge A w) [{ target := .collected D, args := #[] }] .returning W := by
  have rb1 : AgB w v flow r a b (W.putObj D (.deferred none)) := rb.kept (N := 0) (grownBy_putObj' W D (.deferred none)) (fun q e => by cases e; exact ⟨Nat.zero_le _, _, hd, rfl⟩)
  refine ⟨by simp, .inl ⟨_, _, rfl, run_takeDeferred hd, ?_⟩⟩
  exact ⟨_, res_ag rb1.2.2.2.1.cell rb1.2.2.2.2.cell ht ht2, by rw [hn], Ext.of_below (hE.trans (belowK_b (w := w) (Nat.le_refl _) W D _ _ hDw hd rfl rfl))⟩
set_option maxRecDepth 100000 in
set_option maxHeartbeats 3000000 in
theorem age_any (p : PrD) (cs : Array Value) (l : List Int) (v : Value) (fi : Int) (r : Rf) (w : World) (h : RdPr w 0 false p cs) (hl : RdIntV w 0 false l v) : Calls Try.prog 13 #[.agg cs, v, .int .i64 fi, .agg #[.string r.1, .int .i64 r.2]] w (RetAge (ageP p l fi r) w) := by
  have HP := Lib.hid h
  have HL := Lib.hid hl
  obtain ⟨r1, r2⟩ := r
  obtain ⟨ai, ci, af, cf, ao, co, rfl⟩ := pr_form h
  obtain ⟨la, lc, rfl, hlf, _⟩ := hl.form
  unfold fitsR at hlf
  clear h hl
  have e0 : Ext w ((((((w.alloc (.cells #[.int .i64 p.st, .slice ai p.ins.length ci, .slice af p.flows.length cf, .slice ao p.outs.length co] 26)).alloc (.cells #[.slice la l.length lc] 27)).alloc (.cells #[.int .i64 fi] 3)).alloc (.cells #[.string r1, .int .i64 r2] 29)).alloc (.cells #[.int .i64 0] 3)).alloc (.cells #[.int .i64 0] 36)) := ((((((Chg.refl _ _).alloc _).alloc _).alloc _).alloc _).alloc _).alloc _
  have b0 := Ext.heap ((((((Chg.refl (fun _ => False) (w.alloc (.cells #[.int .i64 p.st, .slice ai p.ins.length ci, .slice af p.flows.length cf, .slice ao p.outs.length co] 26))).alloc (.cells #[.slice la l.length lc] 27)).alloc (.cells #[.int .i64 fi] 3)).alloc (.cells #[.string r1, .int .i64 r2] 29)).alloc (.cells #[.int .i64 0] 3)).alloc (.cells #[.int .i64 0] 36)) (heap_alloc_new w (.cells #[.int .i64 p.st, .slice ai p.ins.length ci, .slice af p.flows.length cf, .slice ao p.outs.length co] 26))
  have b1 := Ext.heap (((((Chg.refl (fun _ => False) ((w.alloc (.cells #[.int .i64 p.st, .slice ai p.ins.length ci, .slice af p.flows.length cf, .slice ao p.outs.length co] 26)).alloc (.cells #[.slice la l.length lc] 27))).alloc (.cells #[.int .i64 fi] 3)).alloc (.cells #[.string r1, .int .i64 r2] 29)).alloc (.cells #[.int .i64 0] 3)).alloc (.cells #[.int .i64 0] 36)) (heap_alloc_new (w.alloc (.cells #[.int .i64 p.st, .slice ai p.ins.length ci, .slice af p.flows.length cf, .slice ao p.outs.length co] 26)) (.cells #[.slice la l.length lc] 27))
  have b2 := Ext.heap ((((Chg.refl (fun _ => False) (((w.alloc (.cells #[.int .i64 p.st, .slice ai p.ins.length ci, .slice af p.flows.length cf, .slice ao p.outs.length co] 26)).alloc (.cells #[.slice la l.length lc] 27)).alloc (.cells #[.int .i64 fi] 3))).alloc (.cells #[.string r1, .int .i64 r2] 29)).alloc (.cells #[.int .i64 0] 3)).alloc (.cells #[.int .i64 0] 36)) (heap_alloc_new ((w.alloc (.cells #[.int .i64 p.st, .slice ai p.ins.length ci, .slice af p.flows.length cf, .slice ao p.outs.length co] 26)).alloc (.cells #[.slice la l.length lc] 27)) (.cells #[.int .i64 fi] 3))
  have b3 := Ext.heap (((Chg.refl (fun _ => False) ((((w.alloc (.cells #[.int .i64 p.st, .slice ai p.ins.length ci, .slice af p.flows.length cf, .slice ao p.outs.length co] 26)).alloc (.cells #[.slice la l.length lc] 27)).alloc (.cells #[.int .i64 fi] 3)).alloc (.cells #[.string r1, .int .i64 r2] 29))).alloc (.cells #[.int .i64 0] 3)).alloc (.cells #[.int .i64 0] 36)) (heap_alloc_new (((w.alloc (.cells #[.int .i64 p.st, .slice ai p.ins.length ci, .slice af p.flows.length cf, .slice ao p.outs.length co] 26)).alloc (.cells #[.slice la l.length lc] 27)).alloc (.cells #[.int .i64 fi] 3)) (.cells #[.string r1, .int .i64 r2] 29))
  have b4 := Ext.heap ((Chg.refl (fun _ => False) (((((w.alloc (.cells #[.int .i64 p.st, .slice ai p.ins.length ci, .slice af p.flows.length cf, .slice ao p.outs.length co] 26)).alloc (.cells #[.slice la l.length lc] 27)).alloc (.cells #[.int .i64 fi] 3)).alloc (.cells #[.string r1, .int .i64 r2] 29)).alloc (.cells #[.int .i64 0] 3))).alloc (.cells #[.int .i64 0] 36)) (heap_alloc_new ((((w.alloc (.cells #[.int .i64 p.st, .slice ai p.ins.length ci, .slice af p.flows.length cf, .slice ao p.outs.length co] 26)).alloc (.cells #[.slice la l.length lc] 27)).alloc (.cells #[.int .i64 fi] 3)).alloc (.cells #[.string r1, .int .i64 r2] 29)) (.cells #[.int .i64 0] 3))
  have b5 := Ext.heap (Chg.refl (fun _ => False) ((((((w.alloc (.cells #[.int .i64 p.st, .slice ai p.ins.length ci, .slice af p.flows.length cf, .slice ao p.outs.length co] 26)).alloc (.cells #[.slice la l.length lc] 27)).alloc (.cells #[.int .i64 fi] 3)).alloc (.cells #[.string r1, .int .i64 r2] 29)).alloc (.cells #[.int .i64 0] 3)).alloc (.cells #[.int .i64 0] 36))) (heap_alloc_new (((((w.alloc (.cells #[.int .i64 p.st, .slice ai p.ins.length ci, .slice af p.flows.length cf, .slice ao p.outs.length co] 26)).alloc (.cells #[.slice la l.length lc] 27)).alloc (.cells #[.int .i64 fi] 3)).alloc (.cells #[.string r1, .int .i64 r2] 29)).alloc (.cells #[.int .i64 0] 3)) (.cells #[.int .i64 0] 36))
  simp only [World.size_alloc] at b1 b2 b3 b4 b5
  refine (callsIn_wide (n := 8)).1 ?_
  refine callsIn_of_wp_marks Try.func13 rfl trivial ?_ rfl
  simp only [Try.ntmps13, List.size_toArray, List.length_cons, List.length_nil, Nat.reduceAdd, Nat.reduceSub, Array.replicate_succ, Array.replicate_zero, List.push_toArray, List.append_toArray, List.nil_append, List.cons_append]
  gi_wp2
  generalize ((((((w.alloc (.cells #[.int .i64 p.st, .slice ai p.ins.length ci, .slice af p.flows.length cf, .slice ao p.outs.length co] 26)).alloc (.cells #[.slice la l.length lc] 27)).alloc (.cells #[.int .i64 fi] 3)).alloc (.cells #[.string r1, .int .i64 r2] 29)).alloc (.cells #[.int .i64 0] 3)).alloc (.cells #[.int .i64 0] 36)) = W0 at *
  have HB0 : Hid (AgB w (.slice la l.length lc) fi (r1, r2) 0 0 W0) := ⟨b1, b2, b3, b4, b5⟩
  refine ⟨trivial, (callsIn_wide.2 (lateChk_any p _ l _ _ (HP.out.ext e0) (HL.out.ext e0))).mono ?_⟩
  rintro e w1 ⟨he, E1⟩
  have F1 := e0.trans E1
  have HB1 := Lib.hid (HB0.out.ext E1)
  have xb1 := Ext.heap E1 b0
  clear b0 b1 b2 b3 b4 b5 HB0 E1 e0
  have q4 := HB1.out.2.2.2.1
  have q5 := HB1.out.2.2.2.2
  have hsz1 : w.heap.size + 1 + 1 + 1 + 1 + 1 < w1.heap.size := lt_of_block q5
  have r4 := q4.cell
  have r5 := q5.cell
  have g4 := q4.frozen
  have g5 := q5.frozen
  clear q4 q5
  cases hc : lateChk p l
  · rw [hc] at he
    subst he
    have HA := Lib.hid (age_no (p := p) (l := l) (flow := fi) (r := (r1, r2)) hc)
    have HS := Lib.hid (HB1.out.set (c := 0) (d := 1))
    clear hc
    gi_wp2
    have HS2 := HS.out
    exact ⟨_, res_ag HS2.2.2.2.1.cell HS2.2.2.2.2.cell rfl rfl, by rw [HA.out], Ext.of_below (agSet_below 0 1 (Ext.below F1))⟩
  rw [hc] at he
  subst he
  have HC := Lib.hid hc
  clear hc
  have x0 := (blk_cell xb1 0).trans rfl
  have x1 := (blk_cell xb1 1).trans rfl
  have x2 := (blk_cell xb1 2).trans rfl
  have x3 := (blk_cell xb1 3).trans rfl
  simp only [List.getElem?_toArray, List.getElem?_cons_zero, List.getElem?_cons_succ] at x0 x1 x2 x3
  have HCI := Lib.hid (lateChk_iff.1 HC.out)
  have HPR := Lib.hid (names_prog HCI.out.1)
  have HOK : Hid (LsOk p l) := ⟨HCI.out.2.1, HCI.out.2.2.1⟩
  gi_wp2
  refine ⟨trivial, (callsIn_wide.2 (askings_any _ _ _ _ _ _ rfl)).mono ?_⟩
  rintro e w' ⟨rfl, rfl⟩
  have E3 : Ext w1 (w1.alloc (.cells #[.int .i64 p.st, .slice ai p.ins.length ci, .slice af p.flows.length cf, .slice ao p.outs.length co] 26)) := (Chg.refl _ _).alloc _
  have F3 := F1.trans E3
  have pb := heap_alloc_new w1 (.cells #[.int .i64 p.st, .slice ai p.ins.length ci, .slice af p.flows.length cf, .slice ao p.outs.length co] 26)
  have HB3 := Lib.hid (HB1.out.ext E3)
  have hs3 : Hid ((w1.alloc (.cells #[.int .i64 p.st, .slice ai p.ins.length ci, .slice af p.flows.length cf, .slice ao p.outs.length co] 26)).heap.size = w1.heap.size + 1) := by show _ = _; simp
  have hs4 : w.heap.size ≤ (w1.alloc (.cells #[.int .i64 p.st, .slice ai p.ins.length ci, .slice af p.flows.length cf, .slice ao p.outs.length co] 26)).heap.size := by rw [hs3.out]; omega
  generalize (w1.alloc (.cells #[.int .i64 p.st, .slice ai p.ins.length ci, .slice af p.flows.length cf, .slice ao p.outs.length co] 26)) = W0 at *
  generalize w1.heap.size = Bs at *
  clear x0 x1 x2 x3 r4 r5 g4 g5 xb1 E3 HB1
  gi_wp2
  refine wpIn_rangeFunc_ownH rfl (by omega) (gf := 64) (lb := #[.pointer (some ⟨Bs, 0, none⟩)]) rfl trivial (enters_of Try.func64 (by kernel_rfl) rfl)
    (askings_iter 7 (by omega) Bs p W0 _ (HP.out.ext F3) HPR.out pb) kpT_t (fun W l o o' hl => kpT_b (Nat.le_refl _) W l o o' hl) (Below.refl _ _) (fun _ => rfl)
    (AgI p w W0.heap.size (.slice la l.length lc) fi (r1, r2)) (AgIx p l w (.slice la l.length lc) fi (r1, r2)) (AgI.own hs4) (AgIx.own hs4) ⟨⟨fun x h => by simp at h, HB3.out, Nat.le_refl _⟩, Ext.below F3⟩
    (fun x a' W => ∃ Bx, W0.heap.size ≤ Bx ∧ W.heap[Bx]? = some (.cells #[.int .i64 x.1.flow, .int .i64 x.1.src, .int .i64 x.1.more, .string x.1.ref.1, .int .i64 x.1.ref.2] 84 (0, 0)) ∧ W0.heap.size ≤ W.heap.size ∧ a' = { tmps := #[.agg #[.int .i64 p.st, .slice ai p.ins.length ci, .slice af p.flows.length cf, .slice ao p.outs.length co], .slice la l.length lc, .int .i64 fi, .agg #[.string r1, .int .i64 r2], .pointer (some ⟨w.heap.size, 0, none⟩), .pointer (some ⟨w.heap.size + 1, 0, none⟩), .pointer (some ⟨w.heap.size + 1 + 1, 0, none⟩), .pointer (some ⟨w.heap.size + 1 + 1 + 1, 0, none⟩), .pointer (some ⟨w.heap.size + 1 + 1 + 1 + 1, 0, none⟩), .pointer (some ⟨w.heap.size + 1 + 1 + 1 + 1 + 1, 0, none⟩), .pointer (some ⟨Bx, 0, none⟩), .agg #[.int .i64 p.st, .slice ai p.ins.length ci, .slice af p.flows.length cf, .slice ao p.outs.length co], .slice la l.length lc, .bool true, .bool false, .agg #[.int .i64 p.st, .slice ai p.ins.length ci, .slice af p.flows.length cf, .slice ao p.outs.length co], .func (.func 64) #[] #[.pointer (some ⟨Bs, 0, none⟩)], askV x.1, undef, undef, undef, undef, undef, undef, undef, undef, undef, undef, undef, undef, undef, undef, undef, undef, undef, undef], defers := [] })
    (fun x a' _ X Y row hs hg hr => by obtain ⟨Bx, h1, h2, h3, h4⟩ := hs; exact ⟨Bx, h1, blkept h2 hg hr, by have := hg.size; omega, h4⟩)
    ?assign ?body ?done ?stop
  case assign =>
    rintro l0 pre x W K ⟨⟨h1, h2, hws⟩, hB⟩ hK
    simp only [askC, askV]
    gi_wp2
    have E : Ext W (W.alloc (.cells #[.int .i64 x.1.flow, .int .i64 x.1.src, .int .i64 x.1.more, .string x.1.ref.1, .int .i64 x.1.ref.2] 84)) := (Chg.refl _ _).alloc _
    exact hK _ _ ((KeepsOthers.alloc _ _).from _) (Ext.kpT E hws) ⟨⟨h1, h2.ext E, by simp; omega⟩, hB.alloc hB.size _⟩ ⟨W.heap.size, hws, World.alloc_heap_new W _, by simp; omega, rfl⟩
  case body =>
    rintro l0 pre x a' W hl0 ⟨rr, hr⟩ ⟨⟨h1, h2, hws⟩, hB⟩ ⟨Bx, hBx, bX, hWs, rfl⟩ hlt
    have hao := ask_ok HPR.out x.2
    have hEw : Ext w W := Ext.of_below hB
    obtain ⟨a1, a2, a3, a4, a5⟩ := h2
    have HH2 : Hid (AgB w (.slice la l.length lc) fi (r1, r2) 0 0 W) := ⟨a1, a2, a3, a4, a5⟩
    have HH1 := Lib.hid h1
    have HPRE := Lib.hid h1
    have k0 := (blk_cell bX 0).trans rfl
    have k1 := (blk_cell bX 1).trans rfl
    have k2 := (blk_cell bX 2).trans rfl
    have k3 := (blk_cell bX 3).trans rfl
    have k4 := (blk_cell bX 4).trans rfl
    have m2 := a2.cell
    have m3 := (blk_cell a3 0).trans rfl
    have m4 := (blk_cell a3 1).trans rfl
    simp only [List.getElem?_toArray, List.getElem?_cons_zero, List.getElem?_cons_succ] at k0 k1 k2 k3 k4 m3 m4
    have HGO : Hid (∀ X, Ext W X → askIs fi (r1, r2) x.1 = false → KeepsFrom W0.heap.size W X ∧ KpT W0.heap.size W X ∧ AgI p w W0.heap.size (.slice la l.length lc) fi (r1, r2) (pre ++ [x]) X) := fun X hX he =>
      ⟨keepsFrom_ext hX _, Ext.kpT hX hws, ⟨fun y hy => (List.mem_append.1 hy).elim (HH1.out y) (fun e => by rw [List.mem_singleton.1 e]; exact he), HH2.out.ext hX, Nat.le_trans hws hX.size⟩, Ext.below (hEw.trans hX)⟩
    have HIS : Hid (askIs fi (r1, r2) x.1 = (decide ((x.1.flow : Int) = fi) && decide (x.1.ref = (r1, r2)))) := rfl
    have hmx : Try.prog.follows .mixedOrders = true := by kernel_rfl
    by_cases hf : (x.1.flow : Int) = fi
    case neg =>
      have bf : ((x.1.flow : Int) == fi) = false := by simpa using hf
      have HE : Hid (askIs fi (r1, r2) x.1 = false) := by show _ = _; rw [HIS.out]; simp [hf]
      clear hf h1 a1 a2 a3 a4 a5
      gi_wp2
      exact HGO.out _ (Chg.refl _ _) HE.out
    subst hf
    clear h1 HH1
    have hfl : x.1.flow < l.length := by have := hao.flow; have := HOK.out.1; omega
    have hfi : (x.1.flow : Int) < (l.length : Int) := by omega
    have hsq : 0 ≤ (x.1.flow : Int) := by omega
    have hx := List.getElem?_eq_getElem hfl
    have hgd : l.getD x.1.flow 0 = l[x.1.flow] := by rw [List.getD_eq_getElem?_getD, hx]; rfl
    have HGD := Lib.hid hgd
    obtain ⟨hu64, b2, o2, rfl, _, hb2, cu⟩ := HL.out.get hx
    have hur := HOK.out.2 _ (List.getElem_mem hfl)
    have hmr := leastA_rng HOK.out hao
    have HLS := Lib.hid (fun (X : World) (hX : Ext W X) => askLeast_any p x.1 l _ X hao (HL.out.ext (hEw.trans hX)) HOK.out)
    have hu := fun (X : World) (hX : Chg (fun q => q = w.heap.size + 1 + 1 + 1 + 1 ∨ q = w.heap.size + 1 + 1 + 1 + 1 + 1) W X) => hX.cell (Ext.cell hEw cu) (by simp only; omega)
    have hBx5 : w.heap.size + 1 + 1 + 1 + 1 + 1 < Bx := by have := hs3.out; omega
    have hx0 : ∀ X, Chg (fun q => q = w.heap.size + 1 + 1 + 1 + 1 ∨ q = w.heap.size + 1 + 1 + 1 + 1 + 1) W X → X.cell? ⟨Bx, 0, none⟩ = some (.int .i64 x.1.flow) := fun X hX => hX.cell k0 (by simp only; omega)
    have hx1 : ∀ X, Chg (fun q => q = w.heap.size + 1 + 1 + 1 + 1 ∨ q = w.heap.size + 1 + 1 + 1 + 1 + 1) W X → X.cell? ⟨Bx, 1, none⟩ = some (.int .i64 x.1.src) := fun X hX => hX.cell k1 (by simp only; omega)
    have hx2 : ∀ X, Chg (fun q => q = w.heap.size + 1 + 1 + 1 + 1 ∨ q = w.heap.size + 1 + 1 + 1 + 1 + 1) W X → X.cell? ⟨Bx, 2, none⟩ = some (.int .i64 x.1.more) := fun X hX => hX.cell k2 (by simp only; omega)
    have hx3 : ∀ X, Chg (fun q => q = w.heap.size + 1 + 1 + 1 + 1 ∨ q = w.heap.size + 1 + 1 + 1 + 1 + 1) W X → X.cell? ⟨Bx, 3, none⟩ = some (.string x.1.ref.1) := fun X hX => hX.cell k3 (by simp only; omega)
    have hx4 : ∀ X, Chg (fun q => q = w.heap.size + 1 + 1 + 1 + 1 ∨ q = w.heap.size + 1 + 1 + 1 + 1 + 1) W X → X.cell? ⟨Bx, 4, none⟩ = some (.int .i64 x.1.ref.2) := fun X hX => hX.cell k4 (by simp only; omega)
    have hyl : ∀ X, Chg (fun q => q = w.heap.size + 1 + 1 + 1 + 1 ∨ q = w.heap.size + 1 + 1 + 1 + 1 + 1) W X → X.cell? ⟨w.heap.size + 1, 0, none⟩ = some (.slice (some ⟨b2, o2, none⟩) l.length lc) := fun X hX => hX.cell a1.cell (by simp only; omega)
    have hyf : ∀ X, Chg (fun q => q = w.heap.size + 1 + 1 + 1 + 1 ∨ q = w.heap.size + 1 + 1 + 1 + 1 + 1) W X → X.cell? ⟨w.heap.size + 1 + 1, 0, none⟩ = some (.int .i64 x.1.flow) := fun X hX => hX.cell a2.cell (by simp only; omega)
    clear hBx5
    have hEd : Chg (fun q => q = w.heap.size + 1 + 1 + 1 + 1 ∨ q = w.heap.size + 1 + 1 + 1 + 1 + 1) W W.drew := (Chg.refl _ _).drew
    have hEe : Ext W W.drew := (Chg.refl _ _).drew
    unfold askV at HLS
    unfold RetE at HLS
    have HMR := Lib.hid (rfl : leastA l x.1 = leastA l x.1)
    generalize hm : leastA l x.1 = m at HLS hmr
    have HM := Lib.hid hm
    clear hm hgd hx a1 a2 a3 a4 a5 cu hao HMR
    have hub : 0 ≤ l[x.1.flow] ∧ l[x.1.flow] ≤ 1000 := hur
    generalize l[x.1.flow] = u at *
    obtain ⟨u0, u1⟩ := hub
    obtain ⟨m0, m1⟩ := hmr
    have hwr : IntKind.i64.wrap (u - m) = u - m := by rw [IntKind.wrap_i64] <;> omega
    gi_wp2
    · have he1 := str_eq.1 (show (x.1.ref.1.toList == r1.toList) = true by rw [beq_iff_eq]; assumption)
      have he2 : x.1.ref.2 = r2 := by assumption
      have HIS2 : Hid (askIs (x.1.flow : Int) (r1, r2) x.1 = true) := by show _ = _; rw [HIS.out, ← he1, ← he2]; simp
      subst he1
      subst he2
      clear hwr
      refine region_lift (fun X => Chg (fun q => q = w.heap.size + 1 + 1 + 1 + 1 ∨ q = w.heap.size + 1 + 1 + 1 + 1 + 1) W X) (by kernel_rfl) (by kernel_rfl) (by rintro ⟨_, _, h⟩; exact h) hEd (fun hHeld => ?_)
      refine wpAnyH_take (i := 0) (oi := _) (v := ?_) rfl (by kernel_rfl) (by kernel_rfl) (by kernel_rfl) (fun _ _ _ h => h) (Or.inl ⟨by rfl, ?_⟩) (by assumption) ?_
      rotate_left
      · (intro X hSw; (try dsimp only at hSw); go_simp; try with_reducible rfl)
      try simp only [Act.put, List.setIfInBounds_toArray, List.set_cons_zero, List.set_cons_succ]
      refine wpAnyH_take (i := 1) (oi := _) (v := ?_) rfl (by kernel_rfl) (by kernel_rfl) (by kernel_rfl) (fun _ _ _ h => h) (Or.inl ⟨by rfl, ?_⟩) (by assumption) ?_
      rotate_left
      · (intro X hSw; (try dsimp only at hSw); go_simp; try with_reducible rfl)
      try simp only [Act.put, List.setIfInBounds_toArray, List.set_cons_zero, List.set_cons_succ]
      refine wpAnyH_take (i := 4) (oi := _) (v := ?_) rfl (by kernel_rfl) (by kernel_rfl) (by kernel_rfl) (fun _ _ _ h => h) (Or.inl ⟨by rfl, ?_⟩) (by assumption) ?_
      rotate_left
      · (intro X hSw; (try dsimp only at hSw); go_simp; try with_reducible rfl)
      try simp only [Act.put, List.setIfInBounds_toArray, List.set_cons_zero, List.set_cons_succ]
      refine wpAnyH_take (i := 5) (oi := _) (v := ?_) rfl (by kernel_rfl) (by kernel_rfl) (by kernel_rfl) (fun _ _ _ h => h) (Or.inl ⟨by rfl, ?_⟩) (by assumption) ?_
      rotate_left
      · (intro X hSw; (try dsimp only at hSw); go_simp; try with_reducible rfl)
      try simp only [Act.put, List.setIfInBounds_toArray, List.set_cons_zero, List.set_cons_succ]
      refine wpAnyH_take (i := 2) (oi := _) (v := ?_) rfl (by kernel_rfl) (by kernel_rfl) (by kernel_rfl) (fun _ _ _ h => h) (Or.inl ⟨by rfl, ?_⟩) (by assumption) ?_
      rotate_left
      · (intro X hSw; (try dsimp only at hSw); go_simp; try with_reducible rfl)
      try simp only [Act.put, List.setIfInBounds_toArray, List.set_cons_zero, List.set_cons_succ]
      refine wpAnyH_take (i := 3) (oi := _) (v := ?_) rfl (by kernel_rfl) (by kernel_rfl) (by kernel_rfl) (fun _ _ _ h => h) (Or.inl ⟨by rfl, ?_⟩) (by assumption) ?_
      rotate_left
      · (intro X hSw; (try dsimp only at hSw); go_simp; try with_reducible rfl)
      try simp only [Act.put, List.setIfInBounds_toArray, List.set_cons_zero, List.set_cons_succ]
      refine wpAnyH_ready (rs := [6]) (by kernel_rfl) (by simp) ?_
      refine AllReadyH.cons (o := _) rfl (fun K hK => ?_) AllReadyH.nil
      go_simp
      refine (HLS.out _ hEe).mono ?_
      rintro e W5 ⟨rfl, E5⟩
      have hE5 := hEe.trans E5
      have hC5 : Chg (fun q => q = w.heap.size + 1 + 1 + 1 + 1 ∨ q = w.heap.size + 1 + 1 + 1 + 1 + 1) W W5 := hE5.mono (fun _ _ h => h.elim)
      go_simp
      refine hK.out _ _ (hC5) (fun hHeld2 => ?_)
      clear hK K
      try simp only [Act.put, List.setIfInBounds_toArray, List.set_cons_zero, List.set_cons_succ]
      have H25 := Lib.hid (HH2.out.ext hE5)
      have q4 := H25.out.2.2.2.1.cell
      have g4 := H25.out.2.2.2.1.frozen
      have q5 := H25.out.2.2.2.2.cell
      have g5 := H25.out.2.2.2.2.frozen
      have hwr : IntKind.i64.wrap (u - m) = u - m := by rw [IntKind.wrap_i64] <;> omega
      refine wpAnyH_take (i := 7) (oi := _) (v := ?_) rfl (by kernel_rfl) (by kernel_rfl) (by kernel_rfl) (fun _ _ _ h => h) (Or.inl ⟨by rfl, ?_⟩) (by assumption) ?_
      rotate_left
      · (intro X hSw; (try dsimp only at hSw); go_simp; try with_reducible rfl)
      try simp only [Act.put, List.setIfInBounds_toArray, List.set_cons_zero, List.set_cons_succ]
      clear hwr
      refine wpAnyH_ready (rs := [8]) (by kernel_rfl) (by simp) ?_
      refine AllReadyH.cons (o := _) rfl (fun K hK => ?_) AllReadyH.nil
      go_simp
      refine hK.out _ _ (hC5.setCell _ _ (.inl (.inl (Eq.refl _)))) (fun hHeld2 => ?_)
      clear hK K
      try simp only [Act.put, List.setIfInBounds_toArray, List.set_cons_zero, List.set_cons_succ]
      have q6 := (Boxed.other (B := w.heap.size + 1 + 1 + 1 + 1 + 1) (B' := w.heap.size + 1 + 1 + 1 + 1) H25.out.2.2.2.2 (by omega) (.int .i64 (u - m))).cell
      have g6 := (Boxed.other (B := w.heap.size + 1 + 1 + 1 + 1 + 1) (B' := w.heap.size + 1 + 1 + 1 + 1) H25.out.2.2.2.2 (by omega) (.int .i64 (u - m))).frozen
      refine wpAnyH_ready (rs := [9]) (by kernel_rfl) (by simp) ?_
      refine AllReadyH.cons (o := _) rfl (fun K hK => ?_) AllReadyH.nil
      go_simp
      refine hK.out _ _ ((hC5.setCell _ _ (.inl (.inl (Eq.refl _)))).setCell _ _ (.inl (.inr (Eq.refl _)))) (fun hHeld2 => ?_)
      clear hK K
      try simp only [Act.put, List.setIfInBounds_toArray, List.set_cons_zero, List.set_cons_succ]
      refine wpAnyH_done (by kernel_rfl) ?_ _
      have hs5 := hE5.size
      have HQ : Hid (KeepsFrom W0.heap.size W (agSet w (u - m) 0 W5) ∧ AgIx p l w (.slice (some ⟨b2, o2, none⟩) l.length lc) x.1.flow (x.1.ref.1, x.1.ref.2) .ret (pre ++ [x]) (agSet w (u - m) 0 W5)) :=
        ⟨(keepsFrom_ext hE5 _).trans ((agSet_others w _ _ _).from _), ⟨rfl, pre, x, rfl, HPRE.out, HIS2.out, by rw [HM.out, HGD.out]; exact H25.out.set⟩, agSet_below _ _ (Ext.below (hEw.trans hE5))⟩
      gi_wp2
      exact HQ.out
    · exact HGO.out _ (Chg.refl _ _) (by rw [HIS.out]; have h : ¬ x.1.ref.2 = r2 := by assumption
                                         simp [Prod.ext_iff, h])
    · exact HGO.out _ (Chg.refl _ _) (by rw [HIS.out]; have h : ¬ x.1.ref.1.toList = r1.toList := by assumption
                                         have h2 : x.1.ref.1 ≠ r1 := fun e => h (by rw [e])
                                         simp [Prod.ext_iff, h2])
  case done =>
    rintro D ys W hD hys ⟨⟨h1, h2, _⟩, hB⟩ hK
    have HT := Lib.hid (age_none (p := p) (l := l) (flow := fi) (r := (r1, r2)) HC.out (fun x hx => by
      rw [← hys] at hx
      obtain ⟨y, hy, rfl⟩ := List.mem_map.1 hx
      exact h1 y hy))
    have q4 := h2.2.2.2.1
    have q5 := h2.2.2.2.2
    have r4 := q4.cell
    have r5 := q5.cell
    have g4 := q4.frozen
    have g5 := q5.frozen
    have HS := Lib.hid (h2.set (c := 0) (d := 1))
    have hd6 := Lib.hid ((agSet_others w 0 1 W).same D _ hK rfl)
    have hB6 := Lib.hid (agSet_below 0 1 hB)
    clear q4 q5 h2
    gi_wp2
    exact ag_leave hd6.out (by omega) HS.out hB6.out HT.out rfl rfl
  case stop =>
    rintro D c pre W hD hpre ⟨⟨rfl, ys, x, rfl, h3, h4, h5⟩, hB⟩ hK
    have HT := Lib.hid (age_some (p := p) (l := l) (flow := fi) (r := (r1, r2)) HC.out (by rw [List.map_append] at hpre; exact hpre) (fun y hy => by obtain ⟨z, hz, rfl⟩ := List.mem_map.1 hy; exact h3 z hz) h4)
    gi_wp2
    exact ag_leave hK (by omega) h5 hB HT.out rfl rfl
end Go.Proofs.Ytjdficgejjkaoaa
