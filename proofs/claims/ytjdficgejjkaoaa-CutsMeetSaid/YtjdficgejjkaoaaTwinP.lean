/- The twin of a program. -/
import Derived.Test.YtjdficgejjkaoaaTwinF
namespace Go.Proofs.Ytjdficgejjkaoaa
open Go.RowKit
set_option linter.unusedVariables false
theorem ownsRow_base {w : World} {base base' : Nat} {e : TypeId} {size n : Nat} {v : Value} {xs : List Value} (h : w.ownsRow base e size v n xs) (hb : base' ≤ base) : w.ownsRow base' e size v n xs := by
  refine ⟨h.1, ?_⟩
  rcases h.2 with h | ⟨g, cap, cur, h1, h2, h3⟩
  · exact .inl h
  · exact .inr ⟨g, cap, cur, h1, Nat.le_trans hb h2, h3⟩
theorem ownsRow_ext {w w1 : World} {base : Nat} {e : TypeId} {size n : Nat} {v : Value} {xs : List Value} (h : w.ownsRow base e size v n xs) (he : Ext w w1) : w1.ownsRow base e size v n xs := by
  refine ⟨h.1, ?_⟩
  rcases h.2 with h | ⟨g, cap, cur, h1, h2, h3, h4⟩
  · exact .inl h
  · exact .inr ⟨g, cap, cur, h1, h2, he.heap h3, h4⟩
theorem TwRow.lift {w0 w w1 w2 : World} {E sz n : Nat} {css : List Value} {v : Value} (h : TwRow w E sz n css w1 v) (h0 : Ext w0 w) (h2 : Ext w1 w2) : TwRow w0 E sz n css w2 v := by
  obtain ⟨g, rfl, hg, ho, he⟩ := h
  have := h0.size
  exact ⟨g, rfl, by omega, ownsRow_ext (ownsRow_base ho this) h2, (h0.trans he).trans h2⟩
def inMark : List Value := [.string spareS, .int .u8 0, .int .i64 0]
/-- The twin's parts. -/
structure TwPr (w : World) (p : PrD) (w' : World) (vi vf vo : Value) (ps : List (FlD × Value)) : Prop where
  ins : TwRow w 59 3 p.ins.length (p.ins.flatMap inC ++ [.string spareS, .int .u8 0, .int .i64 0]) w' vi
  fst : ps.map (·.1) = p.flows
  flows : TwRow w 55 8 p.flows.length (ps.flatMap flP ++ flMark) w' vf
  bodies : ∀ q, q ∈ ps → RdExV w' w.heap.size true q.1.body.args q.2
  outs : TwRow w 9 1 p.outs.length (p.outs.map Value.string ++ [.string spareS]) w' vo
  low : ∀ q, q ∈ ps → ∀ g, vf.ownBlock = some g → RdExV w' (g + 1) true q.1.body.args q.2
  ext : Ext w w'
theorem ownsRow_chg {w w1 : World} {base : Nat} {e : TypeId} {size n : Nat} {g cap : Nat} {xs : List Value} {S : Nat → Prop} (h : w.ownsRow base e size (.slice (some ⟨g, 0, none⟩) n cap) n xs) (he : Chg S w w1) (hs : ¬ S g) : w1.ownsRow base e size (.slice (some ⟨g, 0, none⟩) n cap) n xs := by
  refine ⟨h.1, ?_⟩
  rcases h.2 with h | ⟨g', cap', cur, h1, h2, h3, h4⟩
  · exact .inl h
  · refine .inr ⟨g', cap', cur, h1, h2, he.heap h3 ?_, h4⟩
    simp only [Value.slice.injEq, Option.some.injEq, Addr.mk.injEq] at h1
    rw [← h1.1.1]; exact hs
theorem TwRow.turn {w0 w w1 w2 : World} {E sz n : Nat} {css : List Value} {v : Value} {S : Nat → Prop} (h : TwRow w E sz n css w1 v) (h0 : Ext w0 w) (h2 : Chg S w1 w2) (hs : ∀ q, S q → q < w.heap.size) (hs0 : ∀ q, S q → w0.heap.size ≤ q) : TwRow w0 E sz n css w2 v := by
  obtain ⟨g, rfl, hg, ho, he⟩ := h
  have := h0.size
  exact ⟨g, rfl, by omega, ownsRow_chg (ownsRow_base ho this) h2 (fun h => by have := hs g h; omega), Ext.then (h0.trans he) h2 hs0⟩
theorem TwPr.of {w W w3 w4 w5 w6 : World} {p : PrD} {v3 v4 v5 : Value} {ps : List (FlD × Value)} {b : Nat} (D : Ext w W) (ht3 : TwRow W 59 3 p.ins.length (p.ins.flatMap inC ++ [.string spareS, .int .u8 0, .int .i64 0]) w3 v3) (he3 : Ext W w3)
    (hps : ps.map (·.1) = p.flows) (ht4 : TwRow w3 55 8 p.flows.length (ps.flatMap flP ++ flMark) w4 v4) (he4 : Ext w3 w4) (hb4 : ∀ q, q ∈ ps → RdExV w4 (w3.heap.size + 1) true q.1.body.args q.2 ∧ ∀ g, v4.ownBlock = some g → g = w3.heap.size)
    (ht5 : TwRow w4 9 1 p.outs.length (p.outs.map Value.string ++ [.string spareS]) w5 v5) (he5 : Ext w4 w5) (hs : Chg (fun q => q = b) w5 w6) (hb : b < W.heap.size) (hb0 : w.heap.size ≤ b) : TwPr w p w6 v3 v4 v5 ps := by
  have s3 := he3.size
  have s4 := he4.size
  have sD := D.size
  have h45 : Chg (fun q => q = b) w4 w6 := (he5.mono (fun _ _ h => h.elim)).trans hs
  have h35 : Chg (fun q => q = b) w3 w6 := (he4.mono (fun _ _ h => h.elim)).trans h45
  refine ⟨ht3.turn D h35 (fun q hq => by omega) (fun q hq => by omega), hps, ht4.turn (D.trans he3) h45 (fun q hq => by omega) (fun q hq => by omega), fun q hq => ?_, ht5.turn ((D.trans he3).trans he4) hs (fun q hq => by omega) (fun q hq => by omega), fun q hq g hg => ?_, ?_⟩
  · exact ((hb4 q hq).1.far h45 (fun q hq => by omega)).lower (by omega)
  · rw [(hb4 q hq).2 g hg]
    exact (hb4 q hq).1.far h45 (fun q hq => by omega)
  · exact Ext.then (((D.trans he3).trans he4).trans he5) hs (fun q hq => by omega)
def RetTwPr (w : World) (p : PrD) (e : Ending) (w' : World) : Prop := ∃ vi vf vo ps, e = .returned (.agg #[.int .i64 p.st, vi, vf, vo]) ∧ TwPr w p w' vi vf vo ps
set_option maxHeartbeats 4000000 in
theorem twinProg_any (p : PrD) (cs : Array Value) (w : World) (h : RdPr w 0 false p cs) : Calls Try.prog 11 #[.agg cs] w (RetTwPr w p) := by
  obtain ⟨vi, vf, vo, rfl, _, hi, hf, ho⟩ := h
  obtain ⟨ai, ci, rfl, _⟩ := hi.form
  obtain ⟨af, cf, rfl, _⟩ := hf.form
  obtain ⟨ao, co, rfl, _⟩ := ho.form
  have E0 : Ext w ((w.alloc (.cells #[.int .i64 p.st, .slice ai p.ins.length ci, .slice af p.flows.length cf, .slice ao p.outs.length co] 26)).alloc (.cells #[.int .i64 0, .slice none 0 0, .slice none 0 0, .slice none 0 0] 26)) := ((Chg.refl _ _).alloc _).alloc _
  have x0 : ((w.alloc (.cells #[.int .i64 p.st, .slice ai p.ins.length ci, .slice af p.flows.length cf, .slice ao p.outs.length co] 26)).alloc (.cells #[.int .i64 0, .slice none 0 0, .slice none 0 0, .slice none 0 0] 26)).cell? ⟨w.heap.size, 0, none⟩ = some (.int .i64 p.st) := by rw [World.cell?_alloc_past _ _ _ (by simp), World.cell?_alloc_at _ _ _ _ rfl]; rfl
  have x1 : ((w.alloc (.cells #[.int .i64 p.st, .slice ai p.ins.length ci, .slice af p.flows.length cf, .slice ao p.outs.length co] 26)).alloc (.cells #[.int .i64 0, .slice none 0 0, .slice none 0 0, .slice none 0 0] 26)).cell? ⟨w.heap.size, 1, none⟩ = some (.slice ai p.ins.length ci) := by rw [World.cell?_alloc_past _ _ _ (by simp), World.cell?_alloc_at _ _ _ _ rfl]; rfl
  have x2 : ((w.alloc (.cells #[.int .i64 p.st, .slice ai p.ins.length ci, .slice af p.flows.length cf, .slice ao p.outs.length co] 26)).alloc (.cells #[.int .i64 0, .slice none 0 0, .slice none 0 0, .slice none 0 0] 26)).cell? ⟨w.heap.size, 2, none⟩ = some (.slice af p.flows.length cf) := by rw [World.cell?_alloc_past _ _ _ (by simp), World.cell?_alloc_at _ _ _ _ rfl]; rfl
  have x3 : ((w.alloc (.cells #[.int .i64 p.st, .slice ai p.ins.length ci, .slice af p.flows.length cf, .slice ao p.outs.length co] 26)).alloc (.cells #[.int .i64 0, .slice none 0 0, .slice none 0 0, .slice none 0 0] 26)).cell? ⟨w.heap.size, 3, none⟩ = some (.slice ao p.outs.length co) := by rw [World.cell?_alloc_past _ _ _ (by simp), World.cell?_alloc_at _ _ _ _ rfl]; rfl
  have rb : ((w.alloc (.cells #[.int .i64 p.st, .slice ai p.ins.length ci, .slice af p.flows.length cf, .slice ao p.outs.length co] 26)).alloc (.cells #[.int .i64 0, .slice none 0 0, .slice none 0 0, .slice none 0 0] 26)).heap[w.heap.size + 1]? = some (.cells #[.int .i64 0, .slice none 0 0, .slice none 0 0, .slice none 0 0] 26 (0, 0)) := by have := heap_alloc_new (w.alloc (.cells #[.int .i64 p.st, .slice ai p.ins.length ci, .slice af p.flows.length cf, .slice ao p.outs.length co] 26)) (.cells #[.int .i64 0, .slice none 0 0, .slice none 0 0, .slice none 0 0] 26); simpa using this
  go_enter Try.func11, Try.ntmps11
  go_wp2_with fail
  generalize ((w.alloc (.cells #[.int .i64 p.st, .slice ai p.ins.length ci, .slice af p.flows.length cf, .slice ao p.outs.length co] 26)).alloc (.cells #[.int .i64 0, .slice none 0 0, .slice none 0 0, .slice none 0 0] 26)) = W0 at *
  have hne : w.heap.size ≠ w.heap.size + 1 := by omega
  have D : Ext w W0.drew := E0.trans ((Chg.refl _ _).drew)
  have hi0 := hi.ext D
  have hf0 := hf.ext D
  have ho0 := ho.ext D
  have d0 := (World.cell?_drew (w := W0) (a := ⟨w.heap.size, 0, none⟩)).trans x0
  have d1 := (World.cell?_drew (w := W0) (a := ⟨w.heap.size, 1, none⟩)).trans x1
  have d2 := (World.cell?_drew (w := W0) (a := ⟨w.heap.size, 2, none⟩)).trans x2
  have d3 := (World.cell?_drew (w := W0) (a := ⟨w.heap.size, 3, none⟩)).trans x3
  have rbd : W0.drew.heap[w.heap.size + 1]? = some (.cells #[.int .i64 0, .slice none 0 0, .slice none 0 0, .slice none 0 0] 26 (0, 0)) := rb
  go_region_held3 (fun W => W.cell? ⟨w.heap.size, 0, none⟩ = some (.int .i64 p.st) ∧ W.cell? ⟨w.heap.size, 1, none⟩ = some (.slice ai p.ins.length ci) ∧ W.cell? ⟨w.heap.size, 2, none⟩ = some (.slice af p.flows.length cf) ∧ W.cell? ⟨w.heap.size, 3, none⟩ = some (.slice ao p.outs.length co))
    (first | (with_reducible exact ⟨d0, d1, d2, d3⟩) | (with_reducible exact ⟨Ext.cell he3 d0, Ext.cell he3 d1, Ext.cell he3 d2, Ext.cell he3 d3⟩) | (with_reducible exact ⟨Ext.cell he4 (Ext.cell he3 d0), Ext.cell he4 (Ext.cell he3 d1), Ext.cell he4 (Ext.cell he3 d2), Ext.cell he4 (Ext.cell he3 d3)⟩) | (with_reducible exact ⟨Ext.cell he5 (Ext.cell he4 (Ext.cell he3 d0)), Ext.cell he5 (Ext.cell he4 (Ext.cell he3 d1)), Ext.cell he5 (Ext.cell he4 (Ext.cell he3 d2)), Ext.cell he5 (Ext.cell he4 (Ext.cell he3 d3))⟩) | (with_reducible exact ⟨cell_sets4 (Ext.cell he5 (Ext.cell he4 (Ext.cell he3 d0))) hne, cell_sets4 (Ext.cell he5 (Ext.cell he4 (Ext.cell he3 d1))) hne, cell_sets4 (Ext.cell he5 (Ext.cell he4 (Ext.cell he3 d2))) hne, cell_sets4 (Ext.cell he5 (Ext.cell he4 (Ext.cell he3 d3))) hne⟩))
    (first
      | (go_at_call 32; refine (twinIns_any _ _ _ hi0).mono ?_; rintro e w3 ⟨v3, rfl, ht3⟩; obtain ⟨g3, rfl, _, _, he3⟩ := id ht3; have e3 := D.trans he3)
      | (go_at_call 33; refine (twinFlows_any _ _ _ (hf.ext e3)).mono ?_; rintro e w4 ⟨v4, ps, rfl, hps, ht4, hb4⟩; obtain ⟨g4, rfl, _, _, he4⟩ := id ht4; have e4 := e3.trans he4)
      | (go_at_call 34; refine (twinTexts_any _ _ _ (ho.ext e4)).mono ?_; rintro e w5 ⟨v5, rfl, ht5⟩; obtain ⟨g5, rfl, _, _, he5⟩ := id ht5; have e5 := e4.trans he5; have rb5 := Ext.heap he5 (Ext.heap he4 (Ext.heap he3 rbd)); have y0 := blk_cell rb5 0; have y1 := blk_cell rb5 1; have y2 := blk_cell rb5 2; have y3 := blk_cell rb5 3; have z0 := blk_free rb5 0; have z1 := blk_free rb5 1; have z2 := blk_free rb5 2; have z3 := blk_free rb5 3))
  have hW0 : w.heap.size + 1 < W0.heap.size := lt_of_block rb
  have hs : Chg (fun q => q = w.heap.size + 1) w5 ((((w5.setCell ⟨w.heap.size + 1, 0, none⟩ (.int .i64 p.st)).setCell ⟨w.heap.size + 1, 1, none⟩ (.slice (some ⟨g3, 0, none⟩) p.ins.length (p.ins.length + 1))).setCell ⟨w.heap.size + 1, 2, none⟩ (.slice (some ⟨g4, 0, none⟩) p.flows.length (p.flows.length + 1))).setCell ⟨w.heap.size + 1, 3, none⟩ (.slice (some ⟨g5, 0, none⟩) p.outs.length (p.outs.length + 1))) := chg_sets4 _ _ _ _ _ _
  have hb5 := blk_set (blk_set (blk_set (blk_set (rb5) 0 (.int .i64 p.st)) 1 (.slice (some ⟨g3, 0, none⟩) p.ins.length (p.ins.length + 1))) 2 (.slice (some ⟨g4, 0, none⟩) p.flows.length (p.flows.length + 1))) 3 (.slice (some ⟨g5, 0, none⟩) p.outs.length (p.outs.length + 1))
  have r0 := blk_cell hb5 0
  have r1 := blk_cell hb5 1
  have r2 := blk_cell hb5 2
  have r3 := blk_cell hb5 3
  have hfin := TwPr.of D ht3 he3 hps ht4 he4 hb4 ht5 he5 hs (show w.heap.size + 1 < W0.drew.heap.size from hW0) (Nat.le_succ _)
  have HF := Lib.hid hfin
  clear hfin hs hb5 ht3 ht4 ht5 he3 he4 he5 e3 e4 e5 rb5 hb4 hps rb rbd D E0 hi hf ho hi0 hf0 ho0 x0 x1 x2 x3 d0 d1 d2 d3
  go_wp2_with fail
  refine bodyPost_ret (v := .agg #[.int .i64 p.st, .slice (some ⟨g3, 0, none⟩) p.ins.length (p.ins.length + 1), .slice (some ⟨g4, 0, none⟩) p.flows.length (p.flows.length + 1), .slice (some ⟨g5, 0, none⟩) p.outs.length (p.outs.length + 1)]) (by simp [results, Try.results11, go_sem, r0, r1, r2, r3]) rfl ?_
  exact ⟨_, _, _, ps, rfl, HF.out⟩
theorem TwPr.rd {w w' : World} {p : PrD} {cs : Array Value} {vi vf vo : Value} {ps : List (FlD × Value)} (h : TwPr w p w' vi vf vo ps) (hp : RdPr w 0 false p cs) : RdPr w' w.heap.size true p #[.int .i64 p.st, vi, vf, vo] := by
  obtain ⟨_, _, _, _, h1, hi, hf, ho⟩ := hp
  obtain ⟨_, _, _, i1, i2, i3, i4, _⟩ := hi
  obtain ⟨_, _, _, f1, f2, f3, f4, _⟩ := hf
  obtain ⟨_, _, _, o1, o2, o3, o4, _⟩ := ho
  refine ⟨vi, vf, vo, rfl, h1, TwIn.rd h.ins (fun i x hx => ?_) i1, TwFl.rd' h.fst h.flows h.bodies (fun i x hx => ?_) f1, TwStr.rd h.outs (fun x hx => ?_) o1⟩
  · obtain ⟨a, b, c, _⟩ := i4 i x hx
    exact ⟨a, b, c⟩
  · obtain ⟨a, b, c, d, _, _, _, _, _, _, _, _, _, e, f, g, _⟩ := f4 i x hx
    exact ⟨a, b, c, d, e, f, g⟩
  · obtain ⟨i, hi, rfl⟩ := List.getElem_of_mem hx
    exact (o4 i _ (List.getElem?_eq_getElem hi)).1
end Go.Proofs.Ytjdficgejjkaoaa
