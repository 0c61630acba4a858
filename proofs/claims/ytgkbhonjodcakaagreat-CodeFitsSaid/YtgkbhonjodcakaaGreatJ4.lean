/- What stands in this text: NChk, LateP, RefNChk, LateQ. -/
import Derived.Test.YtgkbhonjodcakaaGreatJ2
import Derived.Test.YtgkbhonjodcakaaGreatJ3
import Derived.RangeFuncNested
import Derived.Maps.OwnIn
import Derived.Deep.RegionHeld3
namespace Go.Proofs.YtgkbhonjodcakaaGreat
open Go.RowKit Go.Shelf
attribute [local go_sem] Oper.semAt_some
set_option linter.unusedVariables false
set_option linter.unusedSimpArgs false

def namesT (p : PrD) : List ByteArray := (thingsL p).map (·.1)
/-- Each name means one thing, that is there. -/
def okN (p : PrD) : Prop := (namesT p).Nodup ∧ (∀ s, s ∈ askedL p → s ∈ namesT p) ∧ p.outs.Nodup
open Classical in
/-- The plain answer. -/
noncomputable def namesP (p : PrD) : Int := if progP p = false then 1 else if okN p then 0 else 6
def RetE (n : Int) (w : World) (e : Ending) (w' : World) : Prop := e = .returned (.int .i64 n) ∧ Ext w w'
theorem names_1 {p : PrD} (h : progP p = false) : namesP p = 1 := by unfold namesP; rw [if_pos h]
theorem names_0 {p : PrD} (h : progP p = true) (ho : okN p) : namesP p = 0 := by unfold namesP; rw [if_neg (by rw [h]; decide), if_pos ho]
theorem names_6 {p : PrD} (h : progP p = true) (ho : ¬ okN p) : namesP p = 6 := by unfold namesP; rw [if_neg (by rw [h]; decide), if_neg ho]
theorem nodup_snoc {l : List ByteArray} {a : ByteArray} : (l ++ [a]).Nodup ↔ l.Nodup ∧ a ∉ l := by
  rw [List.nodup_append]
  constructor
  · rintro ⟨h1, _, h3⟩
    exact ⟨h1, fun h => h3 a h a (by simp) rfl⟩
  · rintro ⟨h1, h2⟩
    exact ⟨h1, by simp, fun x hx y hy => by simp at hy; subst hy; rintro rfl; exact h2 hx⟩
theorem any_mem {l : List ByteArray} {s : ByteArray} : (l.any fun q => decide (q = s)) = true ↔ s ∈ l := by
  rw [List.any_eq_true]
  exact ⟨fun ⟨x, hx, e⟩ => by rw [← of_decide_eq_true e]; exact hx, fun h => ⟨s, h, by simp⟩⟩
theorem any_nmem {l : List ByteArray} {s : ByteArray} (h : (l.any fun q => decide (q = s)) = false) : s ∉ l := fun hm => by rw [any_mem.2 hm] at h; cases h
theorem nodup_cut {l pre rest : List ByteArray} {a : ByteArray} (h : l = pre ++ a :: rest) (hm : a ∈ pre) : ¬ l.Nodup := by
  subst h
  rw [List.nodup_append]
  rintro ⟨_, _, h3⟩
  exact h3 a hm a (by simp) rfl
def clN (x : Thing) : ByteArray := clipS x.1
theorem names_size {p : PrD} {w : World} {v v' : Value} (hi : RdInV w 0 false p.ins v) (hf : RdFlV w 0 false p.flows v') : ∀ x, x ∈ thingsL p → x.1.size ≤ maxLen := by
  intro x hx
  obtain ⟨_, _, _, _, _, _, hi, _⟩ := hi
  obtain ⟨_, _, _, _, _, _, hf, _⟩ := hf
  obtain ⟨k, hk⟩ := List.getElem?_of_mem hx
  unfold thingsL at hk
  by_cases h : k < p.ins.length
  · rw [List.getElem?_append_left (by simpa using h), List.getElem?_map, List.getElem?_eq_getElem h] at hk
    cases hk
    exact (hi k _ (List.getElem?_eq_getElem h)).1
  · rw [List.getElem?_append_right (by simpa using h)] at hk
    have hk2 : k - (p.ins.map inT).length < p.flows.length := by
      have := (List.getElem?_eq_some_iff.1 hk).1
      rwa [flTs_len] at this
    rw [flTs_at 0 _ _ hk2, List.getElem?_eq_getElem hk2] at hk
    cases hk
    exact (hf _ _ (List.getElem?_eq_getElem hk2)).1
theorem names_clip {l : List Thing} (h : ∀ x, x ∈ l → x.1.size ≤ maxLen) : l.map clN = l.map (·.1) := List.map_congr_left (fun x hx => clipS_same (h x hx))
theorem progP_parts {p : PrD} : progP p = true ↔ (1 ≤ p.st ∧ p.st ≤ 8 ∧ p.ins.length ≤ 64 ∧ p.flows.length ≤ 128 ∧ p.outs.length ≤ p.ins.length + p.flows.length) ∧ (∀ x, x ∈ p.ins → inBad p.st x = false) ∧ (∀ x, x ∈ p.flows → flBad p.st x = false) ∧ (∀ s, s ∈ p.outs → nameP s = true) := by
  simp only [progP, Bool.and_eq_true, decide_eq_true_eq, Bool.not_eq_true', List.any_eq_false]
  constructor
  · rintro ⟨⟨⟨⟨⟨⟨⟨h1, h2⟩, h3⟩, h4⟩, h5⟩, h6⟩, h7⟩, h8⟩
    exact ⟨⟨h1, h2, h3, h4, h5⟩, fun x hx => by simpa using h6 x hx, fun x hx => by simpa using h7 x hx, fun s hs => by simpa using h8 s hs⟩
  · rintro ⟨⟨h1, h2, h3, h4, h5⟩, h6, h7, h8⟩
    exact ⟨⟨⟨⟨⟨⟨⟨h1, h2⟩, h3⟩, h4⟩, h5⟩, fun x hx => by simp [h6 x hx]⟩, fun x hx => by simp [h7 x hx]⟩, fun s hs => by simp [h8 s hs]⟩
theorem prog_ok {p : PrD} (h : progP p = true) : p.ins.length ≤ 64 ∧ p.flows.length ≤ 128 ∧ p.outs.length ≤ p.ins.length + p.flows.length ∧ (∀ x, x ∈ p.flows → okE 32 200 x.body = true) ∧ (∀ s, s ∈ p.outs → nameP s = true) := by
  simp only [progP, Bool.and_eq_true, decide_eq_true_eq, Bool.not_eq_true', List.any_eq_false] at h
  obtain ⟨⟨⟨⟨⟨⟨⟨_, _⟩, h3⟩, h4⟩, h5⟩, _⟩, h7⟩, h8⟩ := h
  refine ⟨h3, h4, h5, fun x hx => ?_, fun s hs => by simpa using h8 s hs⟩
  have := h7 x hx
  simp only [flBad, Bool.or_eq_true, not_or, Bool.not_eq_true', Bool.not_eq_false] at this
  exact this.2
theorem asked_size {p : PrD} (h : ∀ x, x ∈ p.flows → okE 32 200 x.body = true) (ho : ∀ s, s ∈ p.outs → nameP s = true) : ∀ s, s ∈ askedL p → s.size ≤ maxLen := by
  intro s hs
  have h40 : s.size ≤ 40 := by
    rcases List.mem_append.1 hs with hs | hs
    · revert h hs
      generalize p.flows = l
      intro h hs
      induction l with
      | nil => simp [namesF] at hs
      | cons x r ih =>
        rcases List.mem_append.1 hs with hs | hs
        · obtain ⟨q, hq, rfl⟩ := List.mem_map.1 hs
          exact gthE_names x.body 32 [] 0 (ok_wf' (h x (by simp))).1 (fun r h => by simp at h) q hq
        · exact ih (fun y hy => h y (by simp [hy])) hs
    · exact nameP_size (ho s hs)
  unfold maxLen
  omega
theorem res_cell {W : World} {tmps : Array Value} {b : Nat} {v : Value} (hc : W.cell? ⟨b, 0, none⟩ = some v) (h : tmps[2]?.getD undef = .pointer (some ⟨b, 0, none⟩)) : (results Tryz.f21 tmps).run Tryz.prog W = .ok v W := by
  simp [results, Tryz.results21, go_sem]
  rw [h]
  simp [go_sem, hc]
theorem Chg.of_grown {S : Nat → Prop} {w w' : World} {b : Nat} (hg : w.grownBy w' (some b)) (hS : S b) : Chg S w w' :=
  ⟨hg.os, hg.tape, hg.output, hg.size, fun k hk hn => hg.block k hk (fun e => hn (by simp only [Option.some.injEq] at e; rw [e]; exact hS))⟩
theorem Chg.eq_heap {b : Nat} {w w' : World} (h : Chg (fun k => k = b) w w') {c : Nat} {o : Obj} (ho : w.heap[c]? = some o) (hne : c ≠ b) : w'.heap[c]? = some o := h.heap ho hne
theorem put_heap {W : World} {D E : Nat} {o o' : Obj} (h : W.heap[D]? = some o) (hne : D ≠ E) : (W.putObj E o').heap[D]? = some o :=
  ((grownBy_putObj' W E o').block D (Array.getElem?_eq_some_iff.1 h).1 (fun e => hne (by simp only [Option.some.injEq] at e; exact e))).trans h
theorem one_leave {w W : World} {D : Nat} {n N : Int} {tmps : Array Value} (hd : W.heap[D]? = some (.deferred (some []))) (hDw : w.heap.size ≤ D) (rb : Boxed W (w.heap.size + 1) 30 (.int .i64 n)) (hE : Below w.heap.size w W) (hn : N = n)
    (ht : tmps[2]?.getD undef = .pointer (some ⟨w.heap.size + 1, 0, none⟩)) : LeavesInM Fence.wide 8 Tryz.prog Tryz.f21 tmps (RetE N w) [{ target := .collected D, args := #[] }] .returning W := by
  have hne : w.heap.size + 1 ≠ D := fun e => by rw [← e, rb] at hd; cases hd
  have rb1 : Boxed (W.putObj D (.deferred none)) (w.heap.size + 1) 30 (.int .i64 n) := put_heap rb hne
  refine ⟨by simp, .inl ⟨_, _, rfl, run_takeDeferred hd, ?_⟩⟩
  exact ⟨_, res_cell rb1.cell ht, by rw [hn], Ext.of_below (hE.trans (belowK_b (w := w) (Nat.le_refl _) W D _ _ hDw hd rfl rfl))⟩
theorem two_leave {w W : World} {D D2 : Nat} {n N : Int} {tmps : Array Value} (hd : W.heap[D]? = some (.deferred (some []))) (hd2 : W.heap[D2]? = some (.deferred (some []))) (hne : D ≠ D2) (hDw : w.heap.size ≤ D) (hDw2 : w.heap.size ≤ D2)
    (rb : Boxed W (w.heap.size + 1) 30 (.int .i64 n)) (hE : Below w.heap.size w W) (hn : N = n)
    (ht : tmps[2]?.getD undef = .pointer (some ⟨w.heap.size + 1, 0, none⟩)) : LeavesInM Fence.wide 8 Tryz.prog Tryz.f21 tmps (RetE N w) [{ target := .collected D2, args := #[] }, { target := .collected D, args := #[] }] .returning W := by
  have hne2 : w.heap.size + 1 ≠ D2 := fun e => by rw [← e, rb] at hd2; cases hd2
  have rb1 : Boxed (W.putObj D2 (.deferred none)) (w.heap.size + 1) 30 (.int .i64 n) := put_heap rb hne2
  refine ⟨by simp, .inl ⟨_, _, rfl, run_takeDeferred hd2, ?_⟩⟩
  exact one_leave (put_heap hd hne) hDw rb1 (hE.trans (belowK_b (w := w) (Nat.le_refl _) W D2 _ _ hDw2 hd2 rfl rfl)) hn ht
/-- Between two rounds over things. -/
def CI (w : World) (M : Nat) (cs : Array Value) (pre : List Thing) (W : World) : Prop := ((pre.map clN).Nodup ∧ ThV W M pre.length (pre.map clN) ∧ Boxed W (M + 1) 149 (.map (some M)) ∧ Boxed W (w.heap.size + 1) 30 (.int .i64 0) ∧ W.heap[w.heap.size]? = some (.cells cs 26 (0, 0)) ∧ M + 3 ≤ W.heap.size) ∧ Below w.heap.size w W
/-- A round has left: a name is there twice. -/
def CIx (w : World) (c : Code) (pre : List Thing) (W : World) : Prop := (c = .ret ∧ (∃ ys x, pre = ys ++ [x] ∧ clN x ∈ ys.map clN) ∧ Boxed W (w.heap.size + 1) 30 (.int .i64 6)) ∧ Below w.heap.size w W
theorem CI.own {w : World} {M N : Nat} {cs : Array Value} (hM : w.heap.size ≤ M) (hN : M < N) : OwnFrom N (CI w M cs) :=
  OwnFrom.and (fun _ _ _ _ hs hg hr => ⟨hs.1, hs.2.1.kept hg (fun e => by have := (hr _ e.symm).1; omega), bkept hs.2.2.1 hg hr, bkept hs.2.2.2.1 hg hr, blkept hs.2.2.2.2.1 hg hr, by have := hg.size; have := hs.2.2.2.2.2; omega⟩) (ownFrom_below (Nat.le_refl _) (by omega))
theorem CIx.own {w : World} {N : Nat} (hN : w.heap.size ≤ N) (c : Code) : OwnFrom N (CIx w c) :=
  fun _ _ _ _ hs hg hr => ⟨⟨hs.1.1, hs.1.2.1, bkept hs.1.2.2 hg hr⟩, ownFrom_below (β := Unit) (Nat.le_refl _) (by omega) () _ _ _ hs.2 hg hr⟩
/-- Between two rounds over what is asked for. -/
def CJ (p : PrD) (w : World) (M D : Nat) (cs : Array Value) (pre : List ByteArray) (W : World) : Prop := ((∀ s, s ∈ pre → clipS s ∈ namesT p) ∧ ThV W M (thingsL p).length (namesT p) ∧ Boxed W (M + 1) 149 (.map (some M)) ∧ Boxed W (w.heap.size + 1) 30 (.int .i64 0) ∧ W.heap[w.heap.size]? = some (.cells cs 26 (0, 0)) ∧ W.heap[D]? = some (.deferred (some []))) ∧ Below w.heap.size w W
/-- A round has left: one is not there. -/
def CJx (p : PrD) (w : World) (D : Nat) (c : Code) (pre : List ByteArray) (W : World) : Prop := (c = .ret ∧ (∃ ys x, pre = ys ++ [x] ∧ clipS x ∉ namesT p) ∧ Boxed W (w.heap.size + 1) 30 (.int .i64 6) ∧ W.heap[D]? = some (.deferred (some []))) ∧ Below w.heap.size w W
theorem dkept {W W' : World} {row : Option Nat} {D N : Nat} {o : Obj} (h : W.heap[D]? = some o) (hD : D < N) (hg : W.grownBy W' row) (hr : ∀ r, row = some r → N ≤ r ∧ ∃ o : Obj, W.heap[r]? = some o ∧ o.isCells = false) : W'.heap[D]? = some o :=
  (hg.block D (Array.getElem?_eq_some_iff.1 h).1 (fun e => by have := (hr D e.symm).1; omega)).trans h
theorem CJ.own {p : PrD} {w : World} {M N D : Nat} {cs : Array Value} (hM : w.heap.size ≤ M) (hN : M < N) (hD : D < N) : OwnFrom N (CJ p w M D cs) :=
  OwnFrom.and (fun _ _ _ _ hs hg hr => ⟨hs.1, hs.2.1.kept hg (fun e => by have := (hr _ e.symm).1; omega), bkept hs.2.2.1 hg hr, bkept hs.2.2.2.1 hg hr, blkept hs.2.2.2.2.1 hg hr, dkept hs.2.2.2.2.2 hD hg hr⟩) (ownFrom_below (Nat.le_refl _) (by omega))
theorem CJx.own {p : PrD} {w : World} {N D : Nat} (hN : w.heap.size ≤ N) (hD : D < N) (c : Code) : OwnFrom N (CJx p w D c) :=
  fun _ _ _ _ hs hg hr => ⟨⟨hs.1.1, hs.1.2.1, bkept hs.1.2.2.1 hg hr, dkept hs.1.2.2.2 hD hg hr⟩, ownFrom_below (β := Unit) (Nat.le_refl _) (by omega) () _ _ _ hs.2 hg hr⟩
set_option maxRecDepth 100000 in
set_option maxHeartbeats 4000000 in
theorem nCheck_any (p : PrD) (cs : Array Value) (w : World) (h : RdPr w 0 false p cs) : Calls Tryz.prog 21 #[.agg cs] w (RetE (namesP p) w) := by
  have H := Lib.hid h
  have hst := h
  obtain ⟨vi, vf, vo, rfl, _, hi, hf, ho⟩ := h
  obtain ⟨ai, ci, rfl, ri⟩ := hi
  obtain ⟨af, cf, rfl, rf⟩ := hf
  obtain ⟨ao, co, rfl, ro⟩ := ho
  have hi : RdInV w 0 false p.ins (.slice ai p.ins.length ci) := ⟨_, _, rfl, ri⟩
  have hf : RdFlV w 0 false p.flows (.slice af p.flows.length cf) := ⟨_, _, rfl, rf⟩
  have ho : RdStrV w 0 false p.outs (.slice ao p.outs.length co) := ⟨_, _, rfl, ro⟩
  clear ri rf ro hst
  have HI := Lib.hid hi
  have HF := Lib.hid hf
  have HO := Lib.hid ho
  clear hi hf ho
  have hmm := @run_makeMap Tryz.prog
  have e0 : Ext w ((w.alloc (.cells #[.int .i64 p.st, .slice ai p.ins.length ci, .slice af p.flows.length cf, .slice ao p.outs.length co] 26)).alloc (.cells #[.int .i64 0] 30)) := ((Chg.refl _ _).alloc _).alloc _
  have xb : ((w.alloc (.cells #[.int .i64 p.st, .slice ai p.ins.length ci, .slice af p.flows.length cf, .slice ao p.outs.length co] 26)).alloc (.cells #[.int .i64 0] 30)).heap[w.heap.size]? = some (.cells #[.int .i64 p.st, .slice ai p.ins.length ci, .slice af p.flows.length cf, .slice ao p.outs.length co] 26 (0, 0)) := Ext.heap ((Chg.refl _ _).alloc _) (heap_alloc_new _ _)
  have rb := Boxed.new (w.alloc (.cells #[.int .i64 p.st, .slice ai p.ins.length ci, .slice af p.flows.length cf, .slice ao p.outs.length co] 26)) 30 (.int .i64 0)
  rw [World.size_alloc] at rb
  have x0 := blk_cell xb 0
  have x1 := blk_cell xb 1
  have x2 := blk_cell xb 2
  have x3 := blk_cell xb 3
  simp only [List.getElem?_toArray, List.getElem?_cons_zero, List.getElem?_cons_succ] at x0 x1 x2 x3
  refine (callsIn_wide (n := 8)).1 ?_
  refine callsIn_of_wp_marks Tryz.func21 rfl trivial ?_ rfl
  simp only [Tryz.ntmps21, List.size_toArray, List.length_cons, List.length_nil, Nat.reduceAdd, Nat.reduceSub, Array.replicate_succ, Array.replicate_zero, List.push_toArray, List.append_toArray, List.nil_append, List.cons_append]
  gi_wp2
  refine ⟨trivial, (callsIn_wide.2 (prCheck_any p _ _ (H.out.ext e0))).mono ?_⟩
  rintro e w1 ⟨he, E1⟩
  generalize ((w.alloc (.cells #[.int .i64 p.st, .slice ai p.ins.length ci, .slice af p.flows.length cf, .slice ao p.outs.length co] 26)).alloc (.cells #[.int .i64 0] 30)) = Wa at *
  have F1 := e0.trans E1
  have xb1 := Ext.heap E1 xb
  have rb1 : Boxed w1 (w.heap.size + 1) 30 (.int .i64 0) := Ext.heap E1 rb
  clear x0 x1 x2 x3 xb rb E1 e0
  have x0 := blk_cell xb1 0
  have x1 := blk_cell xb1 1
  have x2 := blk_cell xb1 2
  have x3 := blk_cell xb1 3
  simp only [List.getElem?_toArray, List.getElem?_cons_zero, List.getElem?_cons_succ] at x0 x1 x2 x3
  have r0 := rb1.cell
  have g0 := rb1.frozen
  cases hpr : progP p
  · rw [hpr] at he
    subst he
    gi_wp2
    have rb2 := Boxed.set (.int .i64 1) rb1
    exact ⟨_, res_cell rb2.cell rfl, by rw [names_1 hpr], F1.setCell _ _ (.inr (by show _ ≤ w.heap.size + 1; omega))⟩
  rw [hpr] at he
  subst he
  have hM : w.heap.size + 2 ≤ w1.heap.size := by have := lt_of_block rb1; omega
  have E2 : Ext w1 ((w1.alloc (.map #[] 0)).alloc (.cells #[.map (some w1.heap.size)] 149)) := ((Chg.refl _ _).alloc _).alloc _
  have xb2 := Ext.heap E2 xb1
  have rb2 : Boxed _ (w.heap.size + 1) 30 (.int .i64 0) := Ext.heap E2 rb1
  have th2 := (ThV.made w1).alloc (.cells #[.map (some w1.heap.size)] 149)
  have tb2 := Boxed.new (w1.alloc (.map #[] 0)) 149 (.map (some w1.heap.size))
  rw [World.size_alloc] at tb2
  have hs2 : ((w1.alloc (.map #[] 0)).alloc (.cells #[.map (some w1.heap.size)] 149)).heap.size = w1.heap.size + 2 := by simp
  clear x0 x1 x2 x3 r0 g0
  have x0 := blk_cell xb2 0
  have x1 := blk_cell xb2 1
  have x2 := blk_cell xb2 2
  have x3 := blk_cell xb2 3
  simp only [List.getElem?_toArray, List.getElem?_cons_zero, List.getElem?_cons_succ] at x0 x1 x2 x3
  gi_wp2
  refine ⟨trivial, (callsIn_wide.2 (things_any _ _ _ _ _ _ rfl)).mono ?_⟩
  rintro e w' ⟨rfl, rfl⟩
  have F2 := F1.trans E2
  generalize hM1 : w1.heap.size = M at *
  generalize ((w1.alloc (.map #[] 0)).alloc (.cells #[.map (some M)] 149)) = Wm at *
  rw [hs2]
  have F3 : Ext w (Wm.alloc (.cells #[.int .i64 p.st, .slice ai p.ins.length ci, .slice af p.flows.length cf, .slice ao p.outs.length co] 26)) := F2.alloc _
  have E3 : Ext Wm (Wm.alloc (.cells #[.int .i64 p.st, .slice ai p.ins.length ci, .slice af p.flows.length cf, .slice ao p.outs.length co] 26)) := (Chg.refl _ _).alloc _
  have xb3 := Ext.heap E3 xb2
  have rb3 : Boxed _ (w.heap.size + 1) 30 (.int .i64 0) := Ext.heap E3 rb2
  have tb3 : Boxed _ (M + 1) 149 (.map (some M)) := Ext.heap E3 tb2
  have th3 := th2.alloc (.cells #[.int .i64 p.st, .slice ai p.ins.length ci, .slice af p.flows.length cf, .slice ao p.outs.length co] 26)
  have bs3 := heap_alloc_new Wm (.cells #[.int .i64 p.st, .slice ai p.ins.length ci, .slice af p.flows.length cf, .slice ao p.outs.length co] 26)
  rw [hs2] at bs3
  have hs3 : (Wm.alloc (.cells #[.int .i64 p.st, .slice ai p.ins.length ci, .slice af p.flows.length cf, .slice ao p.outs.length co] 26)).heap.size = M + 3 := by rw [World.size_alloc, hs2]
  generalize (Wm.alloc (.cells #[.int .i64 p.st, .slice ai p.ins.length ci, .slice af p.flows.length cf, .slice ao p.outs.length co] 26)) = W0 at *
  clear x0 x1 x2 x3 E3 E2 F2 xb2 rb2 tb2 th2 hs2 xb1 rb1 F1
  have y1 := blk_cell bs3 1
  have y2 := blk_cell bs3 2
  simp only [List.getElem?_toArray, List.getElem?_cons_zero, List.getElem?_cons_succ] at y1 y2
  obtain ⟨hp64, hp128, hpo, hpok, hpon⟩ := prog_ok hpr
  have hmax : (thingsL p).length < maxLen := by rw [thingsL_len]; unfold maxLen; omega
  have hnsz := names_size HI.out HF.out
  gi_wp2
  refine wpIn_rangeFunc_ownH rfl (by omega) (gf := 105) (lb := #[.pointer (some ⟨M + 2, 0, none⟩)]) rfl trivial (enters_of Tryz.func105 (by kernel_rfl) rfl)
    (things_iterC Fence.wide 7 trivial rfl (by omega) (M + 2) p w W0 F3 ai af ao ci cf co HI.out HF.out (by omega) y1 y2) kpC_t (kpC_b (by omega) (by omega)) (Below.refl _ _) (fun _ => rfl)
    (CI w M #[.int .i64 p.st, .slice ai p.ins.length ci, .slice af p.flows.length cf, .slice ao p.outs.length co]) (CIx w) (CI.own (by omega) (by omega)) (CIx.own (by omega)) ⟨⟨by simp, th3, tb3, rb3, xb3, by omega⟩, Ext.below F3⟩
    (fun x a' W => ∃ Bx, W0.heap.size ≤ Bx ∧ W.heap[Bx]? = some (.cells #[.int .i64 x.2.1, .int .u8 x.2.2.1, .int .i64 x.2.2.2] 153 (0, 0)) ∧ W0.heap.size ≤ W.heap.size ∧ a' = { tmps := #[.agg #[.int .i64 p.st, .slice ai p.ins.length ci, .slice af p.flows.length cf, .slice ao p.outs.length co], .pointer (some ⟨w.heap.size, 0, none⟩), .pointer (some ⟨w.heap.size + 1, 0, none⟩), .pointer (some ⟨M + 1, 0, none⟩), .string (clN x), .pointer (some ⟨Bx, 0, none⟩), undef, undef, undef, undef, undef, undef, undef, undef, .agg #[.int .i64 p.st, .slice ai p.ins.length ci, .slice af p.flows.length cf, .slice ao p.outs.length co], .bool true, .bool false, .map (some M), .agg #[.int .i64 p.st, .slice ai p.ins.length ci, .slice af p.flows.length cf, .slice ao p.outs.length co], .func (.func 105) #[] #[.pointer (some ⟨M + 2, 0, none⟩)], .string (clN x), .agg #[.int .i64 x.2.1, .int .u8 x.2.2.1, .int .i64 x.2.2.2], undef, undef, undef, undef, undef, undef, undef, undef, undef, undef, undef, undef, undef, undef, undef, undef, undef, undef, undef, undef, undef, undef, undef, undef, undef, undef, undef, undef, undef, undef, undef, undef, undef, undef, undef], defers := [] })
    (fun x a' _ X Y row hs hg hr => by obtain ⟨Bx, h1, h2, h3, h4⟩ := hs; exact ⟨Bx, h1, blkept h2 hg hr, by have := hg.size; omega, h4⟩)
    ?assign ?body ?done ?stop
  case assign =>
    rintro l pre x W K ⟨⟨hn, th, tb, rb, xb, hws⟩, hB⟩ hK
    simp only [thingC]
    gi_wp2
    have hWs : W0.heap.size ≤ W.heap.size := by omega
    have E : Ext W (W.alloc (.cells #[.int .i64 x.2.1, .int .u8 x.2.2.1, .int .i64 x.2.2.2] 153)) := (Chg.refl _ _).alloc _
    exact hK _ _ ((KeepsOthers.alloc _ _).from _) (E.mono (fun _ _ h => h.elim)) ⟨⟨hn, th.alloc _, tb.alloc _, rb.alloc _, Ext.heap E xb, by simp; omega⟩, hB.alloc hB.size _⟩ ⟨W.heap.size, hWs, World.alloc_heap_new W _, by simp; omega, rfl⟩
  case body =>
    rintro l pre x a' W hl ⟨r, hr⟩ ⟨⟨hn, th, tb, rb, xb, hws⟩, hB⟩ ⟨Bx, hBx, bX, hWs, rfl⟩ hlt
    have hsx : (clN x).size ≤ maxLen := clipS_size _
    obtain ⟨q1, q2, q3, hlook⟩ := th.look hsx
    have E : Ext W (W.alloc (.cells #[.int .i64 q1, .int .u8 q2, .int .i64 q3] 153)) := (Chg.refl _ _).alloc _
    have tb1 : Boxed _ (M + 1) 149 (.map (some M)) := Ext.heap E tb
    have rb1 : Boxed _ (w.heap.size + 1) 30 (.int .i64 0) := Ext.heap E rb
    have xb1 := Ext.heap E xb
    have bX1 := Ext.heap E bX
    have k1 := tb.cell
    have k2 := tb1.cell
    have k3 := rb1.cell
    have k4 := rb1.frozen
    have c0 := blk_cell bX1 0
    have c1 := blk_cell bX1 1
    have c2 := blk_cell bX1 2
    simp only [List.getElem?_toArray, List.getElem?_cons_zero, List.getElem?_cons_succ] at c0 c1 c2
    obtain ⟨w', hput, th', hg'⟩ := (th.alloc (.cells #[.int .i64 q1, .int .u8 q2, .int .i64 q3] 153)).put hsx (by omega) x.2.1 x.2.2.1 x.2.2.2
    have W1s : (W.alloc (.cells #[.int .i64 q1, .int .u8 q2, .int .i64 q3] 153)).heap.size = W.heap.size + 1 := by simp
    have hB1 : Below w.heap.size w (W.alloc (.cells #[.int .i64 q1, .int .u8 q2, .int .i64 q3] 153)) := hB.alloc hB.size _
    have hK1 : KeepsOthers W (W.alloc (.cells #[.int .i64 q1, .int .u8 q2, .int .i64 q3] 153)) := KeepsOthers.alloc _ _
    have hC1 : Chg (KpS w.heap.size (M + 2)) W (W.alloc (.cells #[.int .i64 q1, .int .u8 q2, .int .i64 q3] 153)) := E.mono (fun _ _ h => h.elim)
    cases hb : ((pre.map clN).any fun q => decide (q = clN x))
    · rw [hb] at hlook
      have hnm := any_nmem hb
      have hC : Chg (fun k => k = M) _ w' := Chg.of_grown hg' rfl
      have HQ : Hid (KeepsFrom W0.heap.size W w' ∧ Chg (KpS w.heap.size (M + 2)) W w' ∧ CI w M #[.int .i64 p.st, .slice ai p.ins.length ci, .slice af p.flows.length cf, .slice ao p.outs.length co] (pre ++ [x]) w') := by
        refine ⟨(hK1.from _).trans (KeepsFrom.of_grownBy hg' (fun j e => by cases e; omega)), hC1.trans (Chg.of_grown hg' ⟨by omega, by omega⟩), ⟨?_, ?_, hC.eq_heap tb1 (by omega), hC.eq_heap rb1 (by omega), hC.eq_heap xb1 (by omega), ?_⟩, hB1.grown hg' hB1.size (fun k e => by cases e; omega)⟩
        · rw [List.map_append]; exact nodup_snoc.2 ⟨hn, hnm⟩
        · rw [List.map_append, List.length_append]; exact th'
        · have := hg'.size; omega
      clear hnm hC hK1 hC1 hB1 th' hg'
      gi_wp2
      exact HQ.out
    · rw [hb] at hlook
      have hmm := any_mem.1 hb
      have HQ : Hid (KeepsFrom W0.heap.size W ((W.alloc (.cells #[.int .i64 q1, .int .u8 q2, .int .i64 q3] 153)).setCell ⟨w.heap.size + 1, 0, none⟩ (.int .i64 6)) ∧ CIx w .ret (pre ++ [x]) ((W.alloc (.cells #[.int .i64 q1, .int .u8 q2, .int .i64 q3] 153)).setCell ⟨w.heap.size + 1, 0, none⟩ (.int .i64 6))) :=
        ⟨(hK1.trans (KeepsOthers.setCell _ _ _)).from _, ⟨rfl, ⟨pre, x, rfl, hmm⟩, Boxed.set _ rb1⟩, hB1.setCell (p := ⟨w.heap.size + 1, 0, none⟩) (by show _ ≤ w.heap.size + 1; omega) _⟩
      clear hmm hK1 hC1 hB1 th' hg' hput
      gi_wp2
      exact HQ.out
  case done =>
    rintro D ys W hD rfl ⟨⟨hn, th, tb, rb, xb, hws⟩, hB⟩ hK
    rw [names_clip hnsz] at hn th
    have hn : (namesT p).Nodup := hn
    have th : ThV W M (thingsL p).length (namesT p) := th
    have x0 := blk_cell xb 0
    have x1 := blk_cell xb 1
    have x2 := blk_cell xb 2
    have x3 := blk_cell xb 3
    simp only [List.getElem?_toArray, List.getElem?_cons_zero, List.getElem?_cons_succ] at x0 x1 x2 x3
    have hDl := lt_of_block hK
    gi_wp2
    refine ⟨trivial, (callsIn_wide.2 (asked_any _ _ _ _ _ _ rfl)).mono ?_⟩
    rintro e w' ⟨rfl, rfl⟩
    have E : Ext W (W.alloc (.cells #[.int .i64 p.st, .slice ai p.ins.length ci, .slice af p.flows.length cf, .slice ao p.outs.length co] 26)) := (Chg.refl _ _).alloc _
    have xb1 := Ext.heap E xb
    have rb1 : Boxed _ (w.heap.size + 1) 30 (.int .i64 0) := Ext.heap E rb
    have tb1 : Boxed _ (M + 1) 149 (.map (some M)) := Ext.heap E tb
    have th1 := th.alloc (.cells #[.int .i64 p.st, .slice ai p.ins.length ci, .slice af p.flows.length cf, .slice ao p.outs.length co] 26)
    have hK1 := Ext.heap E hK
    have bs1 := heap_alloc_new W (.cells #[.int .i64 p.st, .slice ai p.ins.length ci, .slice af p.flows.length cf, .slice ao p.outs.length co] 26)
    have hB1 : Below w.heap.size w (W.alloc (.cells #[.int .i64 p.st, .slice ai p.ins.length ci, .slice af p.flows.length cf, .slice ao p.outs.length co] 26)) := hB.alloc hB.size _
    have hs1 : (W.alloc (.cells #[.int .i64 p.st, .slice ai p.ins.length ci, .slice af p.flows.length cf, .slice ao p.outs.length co] 26)).heap.size = W.heap.size + 1 := by simp
    generalize (W.alloc (.cells #[.int .i64 p.st, .slice ai p.ins.length ci, .slice af p.flows.length cf, .slice ao p.outs.length co] 26)) = V0 at *
    generalize W.heap.size = Bs at *
    clear x0 x1 x2 x3 E xb rb tb th hK hB y1 y2 bs3 xb3 rb3 tb3 th3
    have y2 := blk_cell bs1 2
    have y3 := blk_cell bs1 3
    simp only [List.getElem?_toArray, List.getElem?_cons_zero, List.getElem?_cons_succ] at y2 y3
    have HN := Lib.hid hn
    clear hn
    gi_wp2
    refine wpIn_rangeFunc_ownH rfl (by omega) (gf := 106) (lb := #[.pointer (some ⟨Bs, 0, none⟩)]) rfl trivial (enters_of Tryz.func106 (by kernel_rfl) rfl)
      (asked_iter 7 (by omega) Bs p V0 af ao cf co (HF.out.ext (Ext.of_below hB1)) (HO.out.ext (Ext.of_below hB1)) hpok (by omega) y2 y3) kpA_t (kpA_b (Nat.le_refl _)) (Below.refl _ _) (fun _ => rfl)
      (CJ p w M D #[.int .i64 p.st, .slice ai p.ins.length ci, .slice af p.flows.length cf, .slice ao p.outs.length co]) (CJx p w D) (CJ.own (by omega) (by omega) (by omega)) (CJx.own (by omega) (by omega)) ⟨⟨fun s h => by simp at h, th1, tb1, rb1, xb1, hK1⟩, hB1⟩
      (fun x a' W => a' = { tmps := #[.agg #[.int .i64 p.st, .slice ai p.ins.length ci, .slice af p.flows.length cf, .slice ao p.outs.length co], .pointer (some ⟨w.heap.size, 0, none⟩), .pointer (some ⟨w.heap.size + 1, 0, none⟩), .pointer (some ⟨M + 1, 0, none⟩), undef, undef, undef, undef, .string (clipS x), undef, undef, undef, undef, undef, .agg #[.int .i64 p.st, .slice ai p.ins.length ci, .slice af p.flows.length cf, .slice ao p.outs.length co], .bool true, .bool false, .map (some M), .agg #[.int .i64 p.st, .slice ai p.ins.length ci, .slice af p.flows.length cf, .slice ao p.outs.length co], .func (.func 105) #[] #[.pointer (some ⟨M + 2, 0, none⟩)], undef, undef, undef, undef, undef, undef, undef, undef, undef, undef, undef, undef, .agg #[.int .i64 p.st, .slice ai p.ins.length ci, .slice af p.flows.length cf, .slice ao p.outs.length co], .func (.func 106) #[] #[.pointer (some ⟨Bs, 0, none⟩)], .string (clipS x), undef, undef, undef, undef, undef, undef, undef, undef, undef, undef, undef, undef, undef, undef, undef, undef, undef, undef, undef, undef, undef, undef], defers := [] })
      (fun x a' _ X Y row hs hg hr => hs)
      ?assign2 ?body2 ?done2 ?stop2
    case assign2 =>
      rintro l pre x W K hI hK
      simp only [nameC]
      gi_wp2
      exact hK _ _ ((KeepsOthers.refl _).from _) ⟨Below.refl _ _, fun _ _ h _ => h⟩ hI rfl
    case body2 =>
      rintro l pre x a' W hl ⟨r, hr⟩ ⟨⟨hall, th, tb, rb, xb, hd⟩, hB⟩ rfl hlt
      have hsx : (clipS x).size ≤ maxLen := clipS_size _
      obtain ⟨q1, q2, q3, hlook⟩ := th.look hsx
      have E : Ext W (W.alloc (.cells #[.int .i64 q1, .int .u8 q2, .int .i64 q3] 153)) := (Chg.refl _ _).alloc _
      have rb1 : Boxed _ (w.heap.size + 1) 30 (.int .i64 0) := Ext.heap E rb
      have k1 := tb.cell
      have k3 := rb1.cell
      have k4 := rb1.frozen
      have hB1 : Below w.heap.size w (W.alloc (.cells #[.int .i64 q1, .int .u8 q2, .int .i64 q3] 153)) := hB.alloc hB.size _
      have hK1 : KeepsOthers W (W.alloc (.cells #[.int .i64 q1, .int .u8 q2, .int .i64 q3] 153)) := KeepsOthers.alloc _ _
      have hlW : V0.heap.size ≤ W.heap.size := by have := lt_of_block hr; omega
      cases hb : ((namesT p).any fun q => decide (q = clipS x))
      · rw [hb] at hlook
        have hnm := any_nmem hb
        have HQ : Hid (KeepsFrom V0.heap.size W ((W.alloc (.cells #[.int .i64 q1, .int .u8 q2, .int .i64 q3] 153)).setCell ⟨w.heap.size + 1, 0, none⟩ (.int .i64 6)) ∧ CJx p w D .ret (pre ++ [x]) ((W.alloc (.cells #[.int .i64 q1, .int .u8 q2, .int .i64 q3] 153)).setCell ⟨w.heap.size + 1, 0, none⟩ (.int .i64 6))) :=
          ⟨(hK1.trans (KeepsOthers.setCell _ _ _)).from _, ⟨rfl, ⟨pre, x, rfl, hnm⟩, Boxed.set _ rb1, (KeepsOthers.setCell _ _ _).same D _ (Ext.heap E hd) rfl⟩, hB1.setCell (p := ⟨w.heap.size + 1, 0, none⟩) (by show _ ≤ w.heap.size + 1; omega) _⟩
        clear hnm hK1 hB1
        gi_wp2
        exact HQ.out
      · rw [hb] at hlook
        have hmm := any_mem.1 hb
        have HQ : Hid (KeepsFrom V0.heap.size W (W.alloc (.cells #[.int .i64 q1, .int .u8 q2, .int .i64 q3] 153)) ∧ KpA V0.heap.size W (W.alloc (.cells #[.int .i64 q1, .int .u8 q2, .int .i64 q3] 153)) ∧ CJ p w M D #[.int .i64 p.st, .slice ai p.ins.length ci, .slice af p.flows.length cf, .slice ao p.outs.length co] (pre ++ [x]) (W.alloc (.cells #[.int .i64 q1, .int .u8 q2, .int .i64 q3] 153))) :=
          ⟨hK1.from _, Ext.kpA E hlW, ⟨fun s hs => (List.mem_append.1 hs).elim (hall s) (fun h => by simp at h; subst h; exact hmm), th.alloc _, tb.alloc _, rb1, Ext.heap E xb, Ext.heap E hd⟩, hB1⟩
        clear hmm hK1 hB1
        gi_wp2
        exact HQ.out
    case done2 =>
      rintro D2 ys W hD2 rfl ⟨⟨hall, th, tb, rb, xb, hd⟩, hB⟩ hK
      have hall' : ∀ s, s ∈ askedL p → s ∈ namesT p := fun s hs => by have := hall s hs; rwa [clipS_same (asked_size hpok hpon s hs)] at this
      have HALL := Lib.hid hall'
      have E : Ext W (W.alloc (.map #[] 0)) := (Chg.refl _ _).alloc _
      have xb1 := Ext.heap E xb
      have rb1 : Boxed _ (w.heap.size + 1) 30 (.int .i64 0) := Ext.heap E rb
      have hd1 := Ext.heap E hd
      have hK1 := Ext.heap E hK
      have om := OutV.made W
      have hX1 : Ext w (W.alloc (.map #[] 0)) := (Ext.of_below hB).trans E
      have hWw : w.heap.size + 2 ≤ W.heap.size := by have := lt_of_block rb; omega
      have x3 := blk_cell xb1 3
      simp only [List.getElem?_toArray, List.getElem?_cons_zero, List.getElem?_cons_succ] at x3
      have hDD : D ≠ D2 := by omega
      have hDl := lt_of_block hd
      have hDl2 := lt_of_block hK
      clear hall hall' th tb E xb rb hd hK hB
      gi_wp2
      generalize (W.alloc (.map #[] 0)) = V1 at *
      generalize W.heap.size = M2 at *
      gi_loopw [47] (fun i wr => ∃ k : Nat, k ≤ p.outs.length ∧ i = .int .i64 k ∧ (p.outs.take k).Nodup ∧ OutV wr M2 k (p.outs.take k) ∧ Boxed wr (w.heap.size + 1) 30 (.int .i64 0) ∧ wr.heap[D]? = some (.deferred (some [])) ∧ wr.heap[D2]? = some (.deferred (some [])) ∧ Ext w wr) (fun i _ => p.outs.length - (intOf i).toNat)
      case atStart => exact ⟨0, Nat.zero_le _, rfl, by simp, om, rb1, hd1, hK1, hX1⟩
      case round =>
        clear om rb1 hd1 hK1 hX1 xb1 x3
        obtain ⟨k, hk, rfl, hnd, om, rb, hd, hK, hX⟩ := hrel
        by_cases hlt : k < p.outs.length
        · have hx := List.getElem?_eq_getElem hlt
          have q1 : (k : Int) < (p.outs.length : Int) := by omega
          obtain ⟨_, _, e, _, _, _, hr, _⟩ := HO.out.ext hX
          simp only [Value.slice.injEq, true_and] at e
          obtain ⟨rfl, rfl⟩ := e
          obtain ⟨hsz, b, o, rfl, _, hb, c0⟩ := hr k _ hx
          have htk : p.outs.take (k + 1) = p.outs.take k ++ [p.outs[k]] := by rw [List.take_add_one, hx]; rfl
          have hcut : p.outs = p.outs.take k ++ p.outs[k] :: p.outs.drop (k + 1) := by rw [← List.drop_eq_getElem_cons hlt, List.take_append_drop]
          generalize p.outs[k] = s at *
          have HTK := Lib.hid htk
          have HCUT := Lib.hid hcut
          clear hr hx htk hcut
          have hlook := om.look hsz
          have r0 := rb.cell
          have g0 := rb.frozen
          obtain ⟨w', hput, om', hC⟩ := om.put hsz (by unfold maxLen; omega)
          cases hb : ((p.outs.take k).any fun q => decide (q = s))
          · rw [hb] at hlook
            have HND : Hid ((p.outs.take (k + 1)).Nodup) := by
              show List.Nodup _
              rw [HTK.out]
              exact nodup_snoc.2 ⟨hnd, any_nmem hb⟩
            rw [← HTK.out] at om'
            have rb' : Boxed w' (w.heap.size + 1) 30 (.int .i64 0) := hC.eq_heap rb (by omega)
            have hd' := hC.eq_heap hd (by omega)
            have hK' := hC.eq_heap hK (by omega)
            have hX' : Ext w w' := Ext.then hX hC (fun b hb => by omega)
            have OM := Lib.hid om'
            clear om rb hd hK hX hC hnd hb om' r0 g0
            gi_wp2
            go_roundw
            case rel => exact ⟨k + 1, by omega, by go_num, HND.out, OM.out, rb', hd', hK', hX'⟩
            case measure => simp [intOf]; omega
          · rw [hb] at hlook
            have hmm := any_mem.1 hb
            have HN6 := Lib.hid (names_6 hpr (fun ho => nodup_cut HCUT.out hmm ho.2.2))
            have rb6 := Boxed.set (.int .i64 6) rb
            have hd6 := (KeepsOthers.setCell wr ⟨w.heap.size + 1, 0, none⟩ (.int .i64 6)).same D _ hd rfl
            have hK6 := (KeepsOthers.setCell wr ⟨w.heap.size + 1, 0, none⟩ (.int .i64 6)).same D2 _ hK rfl
            have hX6 : Below w.heap.size w (wr.setCell ⟨w.heap.size + 1, 0, none⟩ (.int .i64 6)) := (Ext.below hX).setCell (p := ⟨w.heap.size + 1, 0, none⟩) (by show _ ≤ w.heap.size + 1; omega) _
            clear hput om' hC
            gi_wp2
            exact two_leave hd6 hK6 hDD (by omega) (by omega) rb6 hX6 HN6.out rfl
        · obtain rfl : k = p.outs.length := by omega
          rw [List.take_length] at hnd
          have HN0 := Lib.hid (names_0 hpr ⟨HN.out, HALL.out, hnd⟩)
          have r0 := rb.cell
          have g0 := rb.frozen
          have rb6 := Boxed.set (.int .i64 0) rb
          have hd6 := (KeepsOthers.setCell wr ⟨w.heap.size + 1, 0, none⟩ (.int .i64 0)).same D _ hd rfl
          have hK6 := (KeepsOthers.setCell wr ⟨w.heap.size + 1, 0, none⟩ (.int .i64 0)).same D2 _ hK rfl
          have hX6 : Below w.heap.size w (wr.setCell ⟨w.heap.size + 1, 0, none⟩ (.int .i64 0)) := (Ext.below hX).setCell (p := ⟨w.heap.size + 1, 0, none⟩) (by show _ ≤ w.heap.size + 1; omega) _
          gi_wp2
          exact two_leave hd6 hK6 hDD (by omega) (by omega) rb6 hX6 HN0.out rfl
    case stop2 =>
      rintro D2 c pre W hD2 hpre ⟨⟨rfl, ⟨ys, x, rfl, hm⟩, rb, hd⟩, hB⟩ hK
      gi_wp2
      refine two_leave hd hK (by omega) (by omega) (by omega) rb hB (names_6 hpr (fun ho => hm ?_)) rfl
      obtain ⟨rest, hrest⟩ := hpre
      have hx : x ∈ askedL p := by rw [← hrest]; simp
      rw [clipS_same (asked_size hpok hpon x hx)]
      exact ho.2.1 x hx
  case stop =>
    rintro D c pre W hD ⟨k, _, hpre⟩ ⟨⟨rfl, ⟨ys, x, rfl, hm⟩, rb⟩, hB⟩ hK
    gi_wp2
    refine one_leave hK (by omega) rb hB (names_6 hpr (fun ho => ?_)) rfl
    have e : thingsL p = ys ++ x :: (thingsL p).drop k := by
      have := List.take_append_drop k (thingsL p)
      rw [← hpre, List.append_assoc] at this
      exact this.symm
    have e2 : namesT p = ys.map clN ++ clN x :: ((thingsL p).drop k).map clN := by
      have := congrArg (List.map clN) e
      rw [names_clip hnsz, List.map_append] at this
      exact this
    exact nodup_cut e2 hm ho.1
end Go.Proofs.YtgkbhonjodcakaaGreat
namespace Go.Proofs.YtgkbhonjodcakaaGreat
open Go.RowKit
set_option linter.unusedVariables false
set_option linter.unusedSimpArgs false

/-- One that asks: which flow, for which (below 0: none of the flows), how many rounds later, for what. -/
structure Ask where
  flow : Nat
  src : Int
  more : Int
  ref : Rf
def askOf (p : PrD) (i : Nat) (f : FlD) (r : Rf) : Ask := ⟨i, (findP r.1 p.flows p.ins).2.2.1, if (findP r.1 p.flows p.ins).1 = f.st then -r.2 else -r.2 + 1, r⟩
def asksOf (p : PrD) (i : Nat) (f : FlD) : List Ask := (gthE [] 0 f.body).map (askOf p i f)
def asksL (p : PrD) : Nat → List FlD → List Ask
  | _, [] => []
  | i, f :: r => asksOf p i f ++ asksL p (i + 1) r
def asksP (p : PrD) : List Ask := asksL p 0 p.flows
def leastA (l : List Int) (x : Ask) : Int := if x.src < 0 then x.more else l.getD x.src.toNat 0 + x.more
/-- So late they may be. -/
def Fits (p : PrD) (l : List Int) : Prop := l.length = p.flows.length ∧ (∀ n, n ∈ l → 0 ≤ n ∧ n ≤ 1000) ∧ ∀ x, x ∈ asksP p → leastA l x ≤ l.getD x.flow 0
def fitsB (p : PrD) (l : List Int) : Bool := decide (l.length = p.flows.length) && (l.all fun n => decide (0 ≤ n) && decide (n ≤ 1000)) && (asksP p).all fun x => decide (leastA l x ≤ l.getD x.flow 0)
theorem fitsB_iff {p : PrD} {l : List Int} : fitsB p l = true ↔ Fits p l := by
  simp [fitsB, Fits, and_assoc]
/-- The plain answer of Check. -/
noncomputable def lateChk (p : PrD) (l : List Int) : Bool := decide (namesP p = 0) && fitsB p l
/-- The plain answer of Age. -/
noncomputable def ageP (p : PrD) (l : List Int) (flow : Int) (r : Rf) : Int × Int :=
  if lateChk p l = false then (0, 1) else match (asksP p).find? fun x => decide ((x.flow : Int) = flow) && decide (x.ref = r) with
  | none => (0, 1)
  | some x => (l.getD x.flow 0 - leastA l x, 0)

theorem asksL_mem {p : PrD} : ∀ {l : List FlD} {i : Nat} {x : Ask}, x ∈ asksL p i l → ∃ k f r, l[k]? = some f ∧ r ∈ gthE [] 0 f.body ∧ x = askOf p (i + k) f r
  | [], _, _, h => by simp [asksL] at h
  | f :: l, i, x, h => by
    simp only [asksL, List.mem_append] at h
    rcases h with h | h
    · simp only [asksOf, List.mem_map] at h
      obtain ⟨r, hr, rfl⟩ := h
      exact ⟨0, f, r, rfl, hr, rfl⟩
    · obtain ⟨k, g, r, hk, hr, rfl⟩ := asksL_mem h
      exact ⟨k + 1, g, r, by simpa using hk, hr, by rw [show i + (k + 1) = i + 1 + k from by omega]⟩
theorem asksL_of {p : PrD} : ∀ {l : List FlD} {i k : Nat} {f : FlD} {r : Rf}, l[k]? = some f → r ∈ gthE [] 0 f.body → askOf p (i + k) f r ∈ asksL p i l
  | [], _, _, _, _, h, _ => by simp at h
  | g :: l, i, 0, f, r, h, hr => by
    simp only [List.getElem?_cons_zero, Option.some.injEq] at h
    subst h
    simp only [asksL, List.mem_append, asksOf, List.mem_map]
    exact .inl ⟨r, hr, rfl⟩
  | g :: l, i, k + 1, f, r, h, hr => by
    simp only [List.getElem?_cons_succ] at h
    simp only [asksL, List.mem_append]
    have := asksL_of (p := p) (i := i + 1) h hr
    rw [show i + 1 + k = i + (k + 1) from by omega] at this
    exact .inr this
theorem asksP_mem {p : PrD} {x : Ask} : x ∈ asksP p ↔ ∃ k f r, p.flows[k]? = some f ∧ r ∈ gthE [] 0 f.body ∧ x = askOf p k f r := by
  constructor
  · intro h
    obtain ⟨k, f, r, h1, h2, h3⟩ := asksL_mem h
    exact ⟨k, f, r, h1, h2, by rw [h3, Nat.zero_add]⟩
  · rintro ⟨k, f, r, h1, h2, rfl⟩
    have := asksL_of (p := p) (i := 0) h1 h2
    rw [Nat.zero_add] at this
    exact this
theorem findFl_src (s : ByteArray) : ∀ (l : List FlD) (i : Nat), 0 ≤ (findFl s i l).2.2.1 ∧ ((findFl s i l).2.2.1 < i + l.length ∨ (findFl s i l).2.2.1 = 0)
  | [], i => by simp [findFl]
  | x :: r, i => by
    unfold findFl
    split
    · simp; omega
    · have := findFl_src s r (i + 1)
      simp only [List.length_cons]
      omega
theorem findP_src (s : ByteArray) (fl : List FlD) : ∀ l : List InD, -1 ≤ (findP s fl l).2.2.1 ∧ ((findP s fl l).2.2.1 < fl.length ∨ (findP s fl l).2.2.1 = 0)
  | [] => by
    have := findFl_src s fl 0
    unfold findP
    omega
  | x :: r => by
    unfold findP
    split
    · simp; omega
    · exact findP_src s fl r
mutual
theorem gthE_ago : ∀ (x : Ex) (d : Nat) (l : List Rf) (ago : Int), wfE d x = true → 0 ≤ ago → ago + d ≤ 1000 → ∀ r, r ∈ gthE l ago x → r ∈ l ∨ (0 ≤ r.2 ∧ r.2 ≤ ago + d)
  | .mk op n nm args, d, l, ago, hw, h0, h1, r, hr => by
    cases d with
    | zero => simp [wfE] at hw
    | succ d =>
      simp only [wfE, Bool.and_eq_true] at hw
      rw [gthE] at hr
      have ha : 0 ≤ agoP op ago ∧ agoP op ago + d ≤ ago + (d + 1 : Nat) := by
        unfold agoP
        split
        · have : wrap64 (ago + 1) = ago + 1 := by unfold wrap64; omega
          rw [this]; omega
        · omega
      rcases gthL_ago args d _ _ hw.2 ha.1 (by omega) r hr with h | h
      · unfold stepR at h
        split at h
        · simp only [List.mem_append, List.mem_singleton] at h
          rcases h with h | rfl
          · exact .inl h
          · exact .inr ⟨h0, by simp only; omega⟩
        · exact .inl h
      · exact .inr ⟨h.1, by omega⟩
theorem gthL_ago : ∀ (xs : List Ex) (d : Nat) (l : List Rf) (ago : Int), wfL d xs = true → 0 ≤ ago → ago + d ≤ 1000 → ∀ r, r ∈ gthL l ago xs → r ∈ l ∨ (0 ≤ r.2 ∧ r.2 ≤ ago + d)
  | [], d, l, ago, _, _, _, r, hr => by rw [gthL] at hr; exact .inl hr
  | x :: xs, d, l, ago, hw, h0, h1, r, hr => by
    simp only [wfL, Bool.and_eq_true] at hw
    rw [gthL] at hr
    rcases gthL_ago xs d _ _ hw.2 h0 h1 r hr with h | h
    · exact gthE_ago x d _ _ hw.1 h0 h1 r h
    · exact .inr h
end
/-- What each that asks is like. -/
structure AskOk (p : PrD) (x : Ask) : Prop where
  flow : x.flow < p.flows.length
  src0 : -1 ≤ x.src
  src1 : x.src < p.flows.length
  more0 : -32 ≤ x.more
  more1 : x.more ≤ 1
  nm : x.ref.1.size ≤ 40
  ago0 : 0 ≤ x.ref.2
  ago1 : x.ref.2 ≤ 32
theorem ask_ok {p : PrD} (hp : progP p = true) {x : Ask} (h : x ∈ asksP p) : AskOk p x := by
  obtain ⟨k, f, r, hk, hr, rfl⟩ := asksP_mem.1 h
  have hl := (List.getElem?_eq_some_iff.1 hk).1
  obtain ⟨_, _, _, hok, _⟩ := prog_ok hp
  obtain ⟨hwf, hnd⟩ := ok_wf' (hok f (List.mem_of_getElem? hk))
  have h1 := findP_src r.1 p.flows p.ins
  have h2 := gthE_ago f.body 32 [] 0 hwf (by omega) (by omega) r hr
  have h3 := gthE_names f.body 32 [] 0 hwf (fun r h => by simp at h) r hr
  simp only [List.not_mem_nil, false_or] at h2
  refine ⟨hl, h1.1, ?_, ?_, ?_, h3, h2.1, by simp only [askOf]; omega⟩
  · simp only [askOf]; omega
  · simp only [askOf]; split <;> omega
  · simp only [askOf]; split <;> omega
/-- The list on its way: it is no greater than any that fits. -/
structure Way (p : PrD) (l : List Int) : Prop where
  len : l.length = p.flows.length
  rng : ∀ n, n ∈ l → 0 ≤ n ∧ n ≤ 1000
  low : ∀ m, Fits p m → ∀ i, l.getD i 0 ≤ m.getD i 0
/-- They are the least that fit. -/
def Least (p : PrD) (l : List Int) : Prop := Fits p l ∧ ∀ m, Fits p m → ∀ i, l.getD i 0 ≤ m.getD i 0
theorem getD_rng {l : List Int} (h : ∀ n, n ∈ l → 0 ≤ n ∧ n ≤ 1000) (i : Nat) : 0 ≤ l.getD i 0 ∧ l.getD i 0 ≤ 1000 := by
  rw [List.getD_eq_getElem?_getD]
  cases e : l[i]? with
  | none => simp
  | some n => exact h n (List.mem_of_getElem? e)
theorem least_mono {l m : List Int} (h : ∀ i, l.getD i 0 ≤ m.getD i 0) (x : Ask) : leastA l x ≤ leastA m x := by
  unfold leastA
  split
  · exact Int.le_refl _
  · have := h x.src.toNat; omega
theorem getD_set {l : List Int} {k i : Nat} {n : Int} : (l.set k n).getD i 0 = if i = k ∧ k < l.length then n else l.getD i 0 := by
  rw [List.getD_eq_getElem?_getD, List.getD_eq_getElem?_getD, List.getElem?_set]
  by_cases h : k = i
  · subst h
    by_cases hl : k < l.length
    · simp [hl]
    · simp [hl]
  · rw [if_neg h, if_neg (fun h' => h h'.1.symm)]
theorem Way.step {p : PrD} {l : List Int} (h : Way p l) {x : Ask} (hx : x ∈ asksP p) (h1 : leastA l x ≤ 1000) (h2 : l.getD x.flow 0 < leastA l x) : Way p (l.set x.flow (leastA l x)) := by
  refine ⟨by rw [List.length_set]; exact h.len, fun n hn => ?_, fun m hm i => ?_⟩
  · rcases List.mem_or_eq_of_mem_set hn with hn | rfl
    · exact h.rng n hn
    · have := (getD_rng h.rng x.flow).1; omega
  · rw [getD_set]
    split
    · rename_i hi
      rw [hi.1]
      exact Int.le_trans (least_mono (h.low m hm) x) (hm.2.2 x hx)
    · exact h.low m hm i
theorem Way.done {p : PrD} {l : List Int} (h : Way p l) (hf : ∀ x, x ∈ asksP p → leastA l x ≤ l.getD x.flow 0) : Least p l := ⟨⟨h.len, h.rng, hf⟩, h.low⟩
theorem Way.stop {p : PrD} {l : List Int} (h : Way p l) {x : Ask} (hx : x ∈ asksP p) (h1 : 1000 < leastA l x) : ∀ m, ¬ Fits p m := fun m hm => by
  have := least_mono (h.low m hm) x
  have := hm.2.2 x hx
  have := (getD_rng hm.2.1 x.flow).2
  omega
theorem names_prog {p : PrD} (h : namesP p = 0) : progP p = true := by
  cases e : progP p
  · rw [names_1 e] at h; omega
  · rfl
theorem names_okN {p : PrD} (h : namesP p = 0) : okN p := by
  have hp := names_prog h
  by_cases ho : okN p
  · exact ho
  · rw [names_6 hp ho] at h; omega
end Go.Proofs.YtgkbhonjodcakaaGreat
namespace Go.Proofs.YtgkbhonjodcakaaGreat
open Go.RowKit
set_option linter.unusedVariables false
set_option linter.unusedSimpArgs false

/-- A list of strings of one's own. -/
def NmV (w : World) (base : Nat) (l : List ByteArray) (v : Value) : Prop := w.ownsRow base 9 1 v l.length (l.map Value.string)
theorem NmV.form {w : World} {base : Nat} {l : List ByteArray} {v : Value} (h : NmV w base l v) : ∃ a cap, v = .slice a l.length cap := by
  rcases h.2 with ⟨h0, h1⟩ | ⟨g, cap, cur, h1, _⟩
  · exact ⟨none, 0, by rw [h0, h1]⟩
  · exact ⟨_, _, h1⟩
theorem NmV.get {w : World} {base n : Nat} {l : List ByteArray} {a : Option Addr} {cap : Nat} (h : NmV w base l (.slice a n cap)) {i : Nat} {s : ByteArray} (hs : l[i]? = some s) : ∃ g, a = some ⟨g, 0, none⟩ ∧ w.cell? ⟨g, i, none⟩ = some (.string s) := by
  have hi : i < l.length := (List.getElem?_eq_some_iff.1 hs).1
  have h0 := h
  rcases h.2 with ⟨h0, h1⟩ | ⟨g, c', cur, h1, _⟩
  · omega
  · simp only [Value.slice.injEq] at h1
    obtain ⟨rfl, rfl, rfl⟩ := h1
    have c0 := World.ownsRow.cellAt h i (by omega)
    rw [List.getElem?_map, hs] at c0
    exact ⟨g, rfl, c0⟩
theorem NmV.chg {w w' : World} {base : Nat} {l : List ByteArray} {v : Value} (h : NmV w base l v) {S : Nat → Prop} (hc : Chg S w w') (hS : ∀ g, v.ownBlock = some g → ¬ S g) : NmV w' base l v := by
  refine ⟨h.1, ?_⟩
  rcases h.2 with ⟨h0, h1⟩ | ⟨g, cap, cur, h1, h2, h3, h4⟩
  · exact .inl ⟨h0, h1⟩
  · exact .inr ⟨g, cap, cur, h1, h2, (hc.block g (lt_of_block h3) (hS g (by rw [h1]; rfl))).trans h3, h4⟩
theorem NmV.nil (w : World) (base : Nat) : NmV w base [] (.slice none 0 0) := World.ownsRow_nil _ _ _ _
theorem NmV.snoc {w : World} {base : Nat} {l : List ByteArray} {r : ByteArray} {v : Value} (h : w.ownsRow base 9 1 v (l.length + 1) (l.map Value.string ++ [.string r])) : NmV w base (l ++ [r]) v := by
  unfold NmV
  rw [List.length_append, List.map_append]
  exact h
theorem NmV.form1 {w : World} {base : Nat} {l : List ByteArray} {r : ByteArray} {v : Value} (h : NmV w base (l ++ [r]) v) : ∃ a cap, v = .slice a (l.length + 1) cap := by
  have := h.form
  simpa using this
theorem infoStr : (Tryz.prog.info? 9).map (fun i => (i.zero, i.size, i.bytes)) = some (some (.string ByteArray.empty), 1, 16) := by kernel_rfl
theorem flTs_names : ∀ (i : Nat) (l : List FlD), (flTs i l).map (·.1) = l.map (·.name)
  | _, [] => rfl
  | i, x :: r => by simp only [flTs, List.map_cons, flTs_names (i + 1) r, flT]
theorem namesT_eq (p : PrD) : namesT p = p.ins.map (·.name) ++ p.flows.map (·.name) := by
  unfold namesT thingsL
  rw [List.map_append, flTs_names, List.map_map]
  rfl
theorem namesF_mem {l : List FlD} {x : FlD} {s : ByteArray} (hx : x ∈ l) (hs : s ∈ namesE x.body) : s ∈ namesF l := by
  induction l with
  | nil => simp at hx
  | cons y r ih =>
    simp only [namesF, List.mem_append]
    rcases List.mem_cons.1 hx with rfl | hx
    · exact .inl hs
    · exact .inr (ih hx)
end Go.Proofs.YtgkbhonjodcakaaGreat
namespace Go.Proofs.YtgkbhonjodcakaaGreat
open Go.RowKit
set_option linter.unusedVariables false
set_option linter.unusedSimpArgs false

/-- The age of what a flow asks for. -/
theorem ageP_of {p : PrD} {l : List Int} (h : lateChk p l = true) {i : Nat} {f : FlD} {r : Rf} (hi : p.flows[i]? = some f) (hr : r ∈ gthE [] 0 f.body) : ageP p l i r = (l.getD i 0 - leastA l (askOf p i f r), 0) := by
  unfold ageP
  rw [h, if_neg (by simp)]
  have hx : askOf p i f r ∈ asksP p := asksP_mem.2 ⟨i, f, r, hi, hr, rfl⟩
  cases e : (asksP p).find? (fun x => decide ((x.flow : Int) = (i : Int)) && decide (x.ref = r)) with
  | none =>
    have := List.find?_eq_none.1 e _ hx
    simp [askOf] at this
  | some x =>
    have h1 := List.find?_some e
    have h2 := List.mem_of_find?_eq_some e
    obtain ⟨k, f', r', hk, _, rfl⟩ := asksP_mem.1 h2
    simp only [askOf, Bool.and_eq_true] at h1
    obtain ⟨h1, h3⟩ := h1
    have h1 := of_decide_eq_true h1
    obtain rfl := of_decide_eq_true h3
    obtain rfl : k = i := by omega
    rw [hi] at hk
    simp only [Option.some.injEq] at hk
    subst hk
    rfl
theorem lateChk_iff {p : PrD} {l : List Int} : lateChk p l = true ↔ namesP p = 0 ∧ Fits p l := by
  unfold lateChk
  rw [Bool.and_eq_true, decide_eq_true_eq, fitsB_iff]
theorem age_ge {p : PrD} {l : List Int} (h : lateChk p l = true) {i : Nat} {f : FlD} {r : Rf} (hi : p.flows[i]? = some f) (hr : r ∈ gthE [] 0 f.body) : 0 ≤ l.getD i 0 - leastA l (askOf p i f r) := by
  have := (lateChk_iff.1 h).2.2.2 _ (asksP_mem.2 ⟨i, f, r, hi, hr, rfl⟩)
  have e : (askOf p i f r).flow = i := rfl
  rw [e] at this
  omega
end Go.Proofs.YtgkbhonjodcakaaGreat
