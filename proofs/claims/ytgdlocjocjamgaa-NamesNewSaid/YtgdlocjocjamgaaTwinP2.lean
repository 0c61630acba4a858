/- The twin of a program, and how its rows lie: what comes from without, flows, their parts, outs, one behind the other. -/
import Derived.Test.YtgdlocjocjamgaaTwinP
namespace Go.Proofs.Ytgdlocjocjamgaa
open Go.RowKit
set_option linter.unusedVariables false
set_option linter.unusedSimpArgs false
/-- The rows lie one behind the other; the bodies' parts lie between flows and outs. -/
def TwOrd (w' : World) (vi vf vo : Value) (ps : List (FlD × Value)) : Prop := ∃ gi gf go m, vi.ownBlock = some gi ∧ vf.ownBlock = some gf ∧ vo.ownBlock = some go ∧ gi < gf ∧ m ≤ go ∧ gf < m ∧ ∀ q, q ∈ ps → ∀ X, Chg (fun b => b ≤ gf ∨ m ≤ b) w' X → RdExV X 0 false q.1.body.args q.2
def RetTwPr2 (w : World) (p : PrD) (e : Ending) (w' : World) : Prop := ∃ vi vf vo ps, e = .returned (.agg #[.int .i64 p.st, vi, vf, vo]) ∧ TwPr w p w' vi vf vo ps ∧ TwOrd w' vi vf vo ps
set_option maxHeartbeats 4000000 in
theorem twinProg2_any (p : PrD) (cs : Array Value) (w : World) (h : RdPr w 0 false p cs) : Calls Try.prog 11 #[.agg cs] w (RetTwPr2 w p) := by
  obtain ⟨vi, vf, vo, rfl, _, hi, hf, ho⟩ := h
  obtain ⟨ai, ci, rfl, _⟩ := hi.form
  obtain ⟨af, cf, rfl, _⟩ := hf.form
  obtain ⟨ao, co, rfl, _⟩ := ho.form
  have E0 : Ext w ((w.alloc (.cells #[.int .i64 p.st, .slice ai p.ins.length ci, .slice af p.flows.length cf, .slice ao p.outs.length co] 26)).alloc (.cells #[.int .i64 0, .slice none 0 0, .slice none 0 0, .slice none 0 0] 26)) := ((Chg.refl _ _).alloc _).alloc _
  have x0 : ((w.alloc (.cells #[.int .i64 p.st, .slice ai p.ins.length ci, .slice af p.flows.length cf, .slice ao p.outs.length co] 26)).alloc (.cells #[.int .i64 0, .slice none 0 0, .slice none 0 0, .slice none 0 0] 26)).cell? ⟨w.heap.size, 0, none⟩ = some (.int .i64 p.st) := by rw [World.cell?_alloc_past _ _ _ (by simp), World.cell?_alloc_at _ _ _ _ rfl]; rfl
  have x1 : ((w.alloc (.cells #[.int .i64 p.st, .slice ai p.ins.length ci, .slice af p.flows.length cf, .slice ao p.outs.length co] 26)).alloc (.cells #[.int .i64 0, .slice none 0 0, .slice none 0 0, .slice none 0 0] 26)).cell? ⟨w.heap.size, 1, none⟩ = some (.slice ai p.ins.length ci) := by rw [World.cell?_alloc_past _ _ _ (by simp), World.cell?_alloc_at _ _ _ _ rfl]; rfl
  have x2 : ((w.alloc (.cells #[.int .i64 p.st, .slice ai p.ins.length ci, .slice af p.flows.length cf, .slice ao p.outs.length co] 26)).alloc (.cells #[.int .i64 0, .slice none 0 0, .slice none 0 0, .slice none 0 0] 26)).cell? ⟨w.heap.size, 2, none⟩ = some (.slice af p.flows.length cf) := by rw [World.cell?_alloc_past _ _ _ (by simp), World.cell?_alloc_at _ _ _ _ rfl]; rfl
  have x3 : ((w.alloc (.cells #[.int .i64 p.st, .slice ai p.ins.length ci, .slice af p.flows.length cf, .slice ao p.outs.length co] 26)).alloc (.cells #[.int .i64 0, .slice none 0 0, .slice none 0 0, .slice none 0 0] 26)).cell? ⟨w.heap.size, 3, none⟩ = some (.slice ao p.outs.length co) := by rw [World.cell?_alloc_past _ _ _ (by simp), World.cell?_alloc_at _ _ _ _ rfl]; rfl
  have rb : ((w.alloc (.cells #[.int .i64 p.st, .slice ai p.ins.length ci, .slice af p.flows.length cf, .slice ao p.outs.length co] 26)).alloc (.cells #[.int .i64 0, .slice none 0 0, .slice none 0 0, .slice none 0 0] 26)).heap[w.heap.size + 1]? = some (.cells #[.int .i64 0, .slice none 0 0, .slice none 0 0, .slice none 0 0] 26 (0, 0)) := by have := heap_alloc_new (w.alloc (.cells #[.int .i64 p.st, .slice ai p.ins.length ci, .slice af p.flows.length cf, .slice ao p.outs.length co] 26)) (.cells #[.int .i64 0, .slice none 0 0, .slice none 0 0, .slice none 0 0] 26); simpa using this
  go_enter Try.func11, Try.ntmps11
  go_wp2_with fail
  generalize ((w.alloc (.cells #[.int .i64 p.st, .slice ai p.ins.length ci, .slice af p.flows.length cf, .slice ao p.outs.length co] 26)).alloc (.cells #[.int .i64 0, .slice none 0 0, .slice none 0 0, .slice none 0 0] 26)) = W0 at *
  have hne : w.heap.size ≠ w.heap.size + 1 := by omega
  have D : Ext w W0.drew := E0.trans ((Chg.refl _ _).drew)
  have hi0 := hi.ext D
  have hf0 := hf.ext D
  have ho0 := ho.ext D
  have d0 := (World.cell?_drew (w := W0) (a := ⟨w.heap.size, 0, none⟩)).trans x0
  have d1 := (World.cell?_drew (w := W0) (a := ⟨w.heap.size, 1, none⟩)).trans x1
  have d2 := (World.cell?_drew (w := W0) (a := ⟨w.heap.size, 2, none⟩)).trans x2
  have d3 := (World.cell?_drew (w := W0) (a := ⟨w.heap.size, 3, none⟩)).trans x3
  have rbd : W0.drew.heap[w.heap.size + 1]? = some (.cells #[.int .i64 0, .slice none 0 0, .slice none 0 0, .slice none 0 0] 26 (0, 0)) := rb
  go_region_held3 (fun W => W.cell? ⟨w.heap.size, 0, none⟩ = some (.int .i64 p.st) ∧ W.cell? ⟨w.heap.size, 1, none⟩ = some (.slice ai p.ins.length ci) ∧ W.cell? ⟨w.heap.size, 2, none⟩ = some (.slice af p.flows.length cf) ∧ W.cell? ⟨w.heap.size, 3, none⟩ = some (.slice ao p.outs.length co))
    (first | (with_reducible exact ⟨d0, d1, d2, d3⟩) | (with_reducible exact ⟨Ext.cell he3 d0, Ext.cell he3 d1, Ext.cell he3 d2, Ext.cell he3 d3⟩) | (with_reducible exact ⟨Ext.cell he4 (Ext.cell he3 d0), Ext.cell he4 (Ext.cell he3 d1), Ext.cell he4 (Ext.cell he3 d2), Ext.cell he4 (Ext.cell he3 d3)⟩) | (with_reducible exact ⟨Ext.cell he5 (Ext.cell he4 (Ext.cell he3 d0)), Ext.cell he5 (Ext.cell he4 (Ext.cell he3 d1)), Ext.cell he5 (Ext.cell he4 (Ext.cell he3 d2)), Ext.cell he5 (Ext.cell he4 (Ext.cell he3 d3))⟩) | (with_reducible exact ⟨cell_sets4 (Ext.cell he5 (Ext.cell he4 (Ext.cell he3 d0))) hne, cell_sets4 (Ext.cell he5 (Ext.cell he4 (Ext.cell he3 d1))) hne, cell_sets4 (Ext.cell he5 (Ext.cell he4 (Ext.cell he3 d2))) hne, cell_sets4 (Ext.cell he5 (Ext.cell he4 (Ext.cell he3 d3))) hne⟩))
    (first
      | (go_at_call 22; refine (twinIns_any _ _ _ hi0).mono ?_; rintro e w3 ⟨v3, rfl, ht3⟩; obtain ⟨g3, rfl, _, _, he3⟩ := id ht3; have e3 := D.trans he3)
      | (go_at_call 23; refine (twinFlows_any _ _ _ (hf.ext e3)).mono ?_; rintro e w4 ⟨v4, ps, rfl, hps, ht4, hb4⟩; obtain ⟨g4, rfl, _, _, he4⟩ := id ht4; have e4 := e3.trans he4)
      | (go_at_call 24; refine (twinTexts_any _ _ _ (ho.ext e4)).mono ?_; rintro e w5 ⟨v5, rfl, ht5⟩; obtain ⟨g5, rfl, _, _, he5⟩ := id ht5; have e5 := e4.trans he5; have rb5 := Ext.heap he5 (Ext.heap he4 (Ext.heap he3 rbd)); have y0 := blk_cell rb5 0; have y1 := blk_cell rb5 1; have y2 := blk_cell rb5 2; have y3 := blk_cell rb5 3; have z0 := blk_free rb5 0; have z1 := blk_free rb5 1; have z2 := blk_free rb5 2; have z3 := blk_free rb5 3))
  have hW0 : w.heap.size + 1 < W0.heap.size := lt_of_block rb
  have hs : Chg (fun q => q = w.heap.size + 1) w5 ((((w5.setCell ⟨w.heap.size + 1, 0, none⟩ (.int .i64 p.st)).setCell ⟨w.heap.size + 1, 1, none⟩ (.slice (some ⟨g3, 0, none⟩) p.ins.length (p.ins.length + 1))).setCell ⟨w.heap.size + 1, 2, none⟩ (.slice (some ⟨g4, 0, none⟩) p.flows.length (p.flows.length + 1))).setCell ⟨w.heap.size + 1, 3, none⟩ (.slice (some ⟨g5, 0, none⟩) p.outs.length (p.outs.length + 1))) := chg_sets4 _ _ _ _ _ _
  have hb5 := blk_set (blk_set (blk_set (blk_set (rb5) 0 (.int .i64 p.st)) 1 (.slice (some ⟨g3, 0, none⟩) p.ins.length (p.ins.length + 1))) 2 (.slice (some ⟨g4, 0, none⟩) p.flows.length (p.flows.length + 1))) 3 (.slice (some ⟨g5, 0, none⟩) p.outs.length (p.outs.length + 1))
  have r0 := blk_cell hb5 0
  have r1 := blk_cell hb5 1
  have r2 := blk_cell hb5 2
  have r3 := blk_cell hb5 3
  have hfin := TwPr.of D ht3 he3 hps ht4 he4 hb4 ht5 he5 hs (show w.heap.size + 1 < W0.drew.heap.size from hW0) (Nat.le_succ _)
  have hord : TwOrd ((((w5.setCell ⟨w.heap.size + 1, 0, none⟩ (.int .i64 p.st)).setCell ⟨w.heap.size + 1, 1, none⟩ (.slice (some ⟨g3, 0, none⟩) p.ins.length (p.ins.length + 1))).setCell ⟨w.heap.size + 1, 2, none⟩ (.slice (some ⟨g4, 0, none⟩) p.flows.length (p.flows.length + 1))).setCell ⟨w.heap.size + 1, 3, none⟩ (.slice (some ⟨g5, 0, none⟩) p.outs.length (p.outs.length + 1))) (.slice (some ⟨g3, 0, none⟩) p.ins.length (p.ins.length + 1)) (.slice (some ⟨g4, 0, none⟩) p.flows.length (p.flows.length + 1)) (.slice (some ⟨g5, 0, none⟩) p.outs.length (p.outs.length + 1)) ps := by
    obtain ⟨_, e3', h31, h32, _⟩ := ht3
    simp only [Value.slice.injEq, Option.some.injEq, Addr.mk.injEq, and_true] at e3'
    subst e3'
    obtain ⟨_, e4', h41, h42, _⟩ := ht4
    simp only [Value.slice.injEq, Option.some.injEq, Addr.mk.injEq, and_true] at e4'
    subst e4'
    obtain ⟨_, e5', h51, h52, _⟩ := ht5
    simp only [Value.slice.injEq, Option.some.injEq, Addr.mk.injEq, and_true] at e5'
    subst e5'
    have k3 := (World.ownsRow.lt h32 g3 rfl).2
    have k4 := (World.ownsRow.lt h42 g4 rfl).2
    have hD := D.size
    have s3 := he3.size
    have hWd : W0.drew.heap.size = W0.heap.size := rfl
    refine ⟨g3, g4, g5, w4.heap.size, rfl, rfl, rfl, by omega, h51, k4, fun q hq X hX => ?_⟩
    obtain ⟨hb1, hb2⟩ := hb4 q hq
    have hg4 := hb2 g4 rfl
    have hC : Chg (fun b => b ≤ g4 ∨ w4.heap.size ≤ b) w4 X := ((he5.mono (fun _ _ h => h.elim)).trans (hs.mono (fun b _ h => .inl (by omega)))).trans hX
    exact (hb1.far (hC.mono (T := fun b => b ≤ g4) (fun b hb h => by omega)) (fun b hb => by omega)).plain.lower (Nat.zero_le _)
  have HO := Lib.hid hord
  clear hord
  have HF := Lib.hid hfin
  clear hfin hs hb5 ht3 ht4 ht5 he3 he4 he5 e3 e4 e5 rb5 hb4 hps rb rbd D E0 hi hf ho hi0 hf0 ho0 x0 x1 x2 x3 d0 d1 d2 d3
  go_wp2_with fail
  refine bodyPost_ret (v := .agg #[.int .i64 p.st, .slice (some ⟨g3, 0, none⟩) p.ins.length (p.ins.length + 1), .slice (some ⟨g4, 0, none⟩) p.flows.length (p.flows.length + 1), .slice (some ⟨g5, 0, none⟩) p.outs.length (p.outs.length + 1)]) (by simp [results, Try.results11, go_sem, r0, r1, r2, r3]) rfl ?_
  exact ⟨_, _, _, ps, rfl, HF.out, HO.out⟩
end Go.Proofs.Ytgdlocjocjamgaa
