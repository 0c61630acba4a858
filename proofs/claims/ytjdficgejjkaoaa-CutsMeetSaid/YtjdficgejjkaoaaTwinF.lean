/- The twins of flows and of programs. -/
import Derived.Test.YtjdficgejjkaoaaTwinE
namespace Go.Proofs.Ytjdficgejjkaoaa
open Go.RowKit
set_option linter.unusedVariables false
def flC (x : FlD) (v : Value) : List Value := [.string x.name, .int .u8 x.ty, .int .i64 x.st, .int .i64 x.df, .int .u8 x.body.op, .int .i64 x.body.n, .string x.body.name, v]
def RetFl (w : World) (x : FlD) (e : Ending) (w' : World) : Prop := ∃ v, e = .returned (.agg #[.string x.name, .int .u8 x.ty, .int .i64 x.st, .int .i64 x.df, .int .u8 x.body.op, .int .i64 x.body.n, .string x.body.name, v]) ∧
  RdExV w' w.heap.size true x.body.args v ∧ Ext w w'
set_option maxHeartbeats 4000000 in
theorem twinFlow_any (x : FlD) (v : Value) (w : World) (hv : RdExV w 0 false x.body.args v) :
    Calls Try.prog 63 #[.agg #[.string x.name, .int .u8 x.ty, .int .i64 x.st, .int .i64 x.df, .int .u8 x.body.op, .int .i64 x.body.n, .string x.body.name, v]] w (RetFl w x) := by
  obtain ⟨a, cap, rfl, hfit, hlc, hcm⟩ := hv.form
  have ih := twinExpr_any x.body
  have E0 : Ext w ((w.alloc (.cells #[.string x.name, .int .u8 x.ty, .int .i64 x.st, .int .i64 x.df, .int .u8 x.body.op, .int .i64 x.body.n, .string x.body.name, .slice a x.body.args.length cap] 55)).alloc (.cells #[.string ⟨#[]⟩, .int .u8 0, .int .i64 0, .int .i64 0, .int .u8 0, .int .i64 0, .string ⟨#[]⟩, .slice none 0 0] 55)) := ((Chg.refl _ _).alloc _).alloc _
  have x0 : ((w.alloc (.cells #[.string x.name, .int .u8 x.ty, .int .i64 x.st, .int .i64 x.df, .int .u8 x.body.op, .int .i64 x.body.n, .string x.body.name, .slice a x.body.args.length cap] 55)).alloc (.cells #[.string ⟨#[]⟩, .int .u8 0, .int .i64 0, .int .i64 0, .int .u8 0, .int .i64 0, .string ⟨#[]⟩, .slice none 0 0] 55)).cell? ⟨w.heap.size, 0, none⟩ = some (.string x.name) := by rw [World.cell?_alloc_past _ _ _ (by simp), World.cell?_alloc_at _ _ _ _ rfl]; rfl
  have x1 : ((w.alloc (.cells #[.string x.name, .int .u8 x.ty, .int .i64 x.st, .int .i64 x.df, .int .u8 x.body.op, .int .i64 x.body.n, .string x.body.name, .slice a x.body.args.length cap] 55)).alloc (.cells #[.string ⟨#[]⟩, .int .u8 0, .int .i64 0, .int .i64 0, .int .u8 0, .int .i64 0, .string ⟨#[]⟩, .slice none 0 0] 55)).cell? ⟨w.heap.size, 1, none⟩ = some (.int .u8 x.ty) := by rw [World.cell?_alloc_past _ _ _ (by simp), World.cell?_alloc_at _ _ _ _ rfl]; rfl
  have x2 : ((w.alloc (.cells #[.string x.name, .int .u8 x.ty, .int .i64 x.st, .int .i64 x.df, .int .u8 x.body.op, .int .i64 x.body.n, .string x.body.name, .slice a x.body.args.length cap] 55)).alloc (.cells #[.string ⟨#[]⟩, .int .u8 0, .int .i64 0, .int .i64 0, .int .u8 0, .int .i64 0, .string ⟨#[]⟩, .slice none 0 0] 55)).cell? ⟨w.heap.size, 2, none⟩ = some (.int .i64 x.st) := by rw [World.cell?_alloc_past _ _ _ (by simp), World.cell?_alloc_at _ _ _ _ rfl]; rfl
  have x3 : ((w.alloc (.cells #[.string x.name, .int .u8 x.ty, .int .i64 x.st, .int .i64 x.df, .int .u8 x.body.op, .int .i64 x.body.n, .string x.body.name, .slice a x.body.args.length cap] 55)).alloc (.cells #[.string ⟨#[]⟩, .int .u8 0, .int .i64 0, .int .i64 0, .int .u8 0, .int .i64 0, .string ⟨#[]⟩, .slice none 0 0] 55)).cell? ⟨w.heap.size, 3, none⟩ = some (.int .i64 x.df) := by rw [World.cell?_alloc_past _ _ _ (by simp), World.cell?_alloc_at _ _ _ _ rfl]; rfl
  have x4 : ((w.alloc (.cells #[.string x.name, .int .u8 x.ty, .int .i64 x.st, .int .i64 x.df, .int .u8 x.body.op, .int .i64 x.body.n, .string x.body.name, .slice a x.body.args.length cap] 55)).alloc (.cells #[.string ⟨#[]⟩, .int .u8 0, .int .i64 0, .int .i64 0, .int .u8 0, .int .i64 0, .string ⟨#[]⟩, .slice none 0 0] 55)).cell? ⟨w.heap.size, 4, none⟩ = some (.int .u8 x.body.op) := by rw [World.cell?_alloc_past _ _ _ (by simp), World.cell?_alloc_at _ _ _ _ rfl]; rfl
  have x5 : ((w.alloc (.cells #[.string x.name, .int .u8 x.ty, .int .i64 x.st, .int .i64 x.df, .int .u8 x.body.op, .int .i64 x.body.n, .string x.body.name, .slice a x.body.args.length cap] 55)).alloc (.cells #[.string ⟨#[]⟩, .int .u8 0, .int .i64 0, .int .i64 0, .int .u8 0, .int .i64 0, .string ⟨#[]⟩, .slice none 0 0] 55)).cell? ⟨w.heap.size, 5, none⟩ = some (.int .i64 x.body.n) := by rw [World.cell?_alloc_past _ _ _ (by simp), World.cell?_alloc_at _ _ _ _ rfl]; rfl
  have x6 : ((w.alloc (.cells #[.string x.name, .int .u8 x.ty, .int .i64 x.st, .int .i64 x.df, .int .u8 x.body.op, .int .i64 x.body.n, .string x.body.name, .slice a x.body.args.length cap] 55)).alloc (.cells #[.string ⟨#[]⟩, .int .u8 0, .int .i64 0, .int .i64 0, .int .u8 0, .int .i64 0, .string ⟨#[]⟩, .slice none 0 0] 55)).cell? ⟨w.heap.size, 6, none⟩ = some (.string x.body.name) := by rw [World.cell?_alloc_past _ _ _ (by simp), World.cell?_alloc_at _ _ _ _ rfl]; rfl
  have x7 : ((w.alloc (.cells #[.string x.name, .int .u8 x.ty, .int .i64 x.st, .int .i64 x.df, .int .u8 x.body.op, .int .i64 x.body.n, .string x.body.name, .slice a x.body.args.length cap] 55)).alloc (.cells #[.string ⟨#[]⟩, .int .u8 0, .int .i64 0, .int .i64 0, .int .u8 0, .int .i64 0, .string ⟨#[]⟩, .slice none 0 0] 55)).cell? ⟨w.heap.size, 7, none⟩ = some (.slice a x.body.args.length cap) := by rw [World.cell?_alloc_past _ _ _ (by simp), World.cell?_alloc_at _ _ _ _ rfl]; rfl
  have rb : ((w.alloc (.cells #[.string x.name, .int .u8 x.ty, .int .i64 x.st, .int .i64 x.df, .int .u8 x.body.op, .int .i64 x.body.n, .string x.body.name, .slice a x.body.args.length cap] 55)).alloc (.cells #[.string ⟨#[]⟩, .int .u8 0, .int .i64 0, .int .i64 0, .int .u8 0, .int .i64 0, .string ⟨#[]⟩, .slice none 0 0] 55)).heap[w.heap.size + 1]? = some (.cells #[.string ⟨#[]⟩, .int .u8 0, .int .i64 0, .int .i64 0, .int .u8 0, .int .i64 0, .string ⟨#[]⟩, .slice none 0 0] 55 (0, 0)) := by have := heap_alloc_new (w.alloc (.cells #[.string x.name, .int .u8 x.ty, .int .i64 x.st, .int .i64 x.df, .int .u8 x.body.op, .int .i64 x.body.n, .string x.body.name, .slice a x.body.args.length cap] 55)) (.cells #[.string ⟨#[]⟩, .int .u8 0, .int .i64 0, .int .i64 0, .int .u8 0, .int .i64 0, .string ⟨#[]⟩, .slice none 0 0] 55); simpa using this
  go_enter Try.func63, Try.ntmps63
  go_wp2_with fail
  generalize ((w.alloc (.cells #[.string x.name, .int .u8 x.ty, .int .i64 x.st, .int .i64 x.df, .int .u8 x.body.op, .int .i64 x.body.n, .string x.body.name, .slice a x.body.args.length cap] 55)).alloc (.cells #[.string ⟨#[]⟩, .int .u8 0, .int .i64 0, .int .i64 0, .int .u8 0, .int .i64 0, .string ⟨#[]⟩, .slice none 0 0] 55)) = W0 at *
  have hv0 := hv.ext E0
  have hne : w.heap.size ≠ w.heap.size + 1 := by omega
  have d0 := (World.cell?_drew (w := W0) (a := ⟨w.heap.size, 0, none⟩)).trans x0
  have d1 := (World.cell?_drew (w := W0) (a := ⟨w.heap.size, 1, none⟩)).trans x1
  have d2 := (World.cell?_drew (w := W0) (a := ⟨w.heap.size, 2, none⟩)).trans x2
  have d3 := (World.cell?_drew (w := W0) (a := ⟨w.heap.size, 3, none⟩)).trans x3
  have d4 := (World.cell?_drew (w := W0) (a := ⟨w.heap.size, 4, none⟩)).trans x4
  have d5 := (World.cell?_drew (w := W0) (a := ⟨w.heap.size, 5, none⟩)).trans x5
  have d6 := (World.cell?_drew (w := W0) (a := ⟨w.heap.size, 6, none⟩)).trans x6
  have d7 := (World.cell?_drew (w := W0) (a := ⟨w.heap.size, 7, none⟩)).trans x7
  go_region_held3 (fun W => W.cell? ⟨w.heap.size, 0, none⟩ = some (.string x.name) ∧ W.cell? ⟨w.heap.size, 1, none⟩ = some (.int .u8 x.ty) ∧ W.cell? ⟨w.heap.size, 2, none⟩ = some (.int .i64 x.st) ∧ W.cell? ⟨w.heap.size, 3, none⟩ = some (.int .i64 x.df) ∧ W.cell? ⟨w.heap.size, 4, none⟩ = some (.int .u8 x.body.op) ∧ W.cell? ⟨w.heap.size, 5, none⟩ = some (.int .i64 x.body.n) ∧ W.cell? ⟨w.heap.size, 6, none⟩ = some (.string x.body.name) ∧ W.cell? ⟨w.heap.size, 7, none⟩ = some (.slice a x.body.args.length cap))
    (first | (with_reducible exact ⟨d0, d1, d2, d3, d4, d5, d6, d7⟩) | (with_reducible exact ⟨Ext.cell he3 d0, Ext.cell he3 d1, Ext.cell he3 d2, Ext.cell he3 d3, Ext.cell he3 d4, Ext.cell he3 d5, Ext.cell he3 d6, Ext.cell he3 d7⟩) | (with_reducible exact ⟨cell_sets8 (Ext.cell he3 d0) hne, cell_sets8 (Ext.cell he3 d1) hne, cell_sets8 (Ext.cell he3 d2) hne, cell_sets8 (Ext.cell he3 d3) hne, cell_sets8 (Ext.cell he3 d4) hne, cell_sets8 (Ext.cell he3 d5) hne, cell_sets8 (Ext.cell he3 d6) hne, cell_sets8 (Ext.cell he3 d7) hne⟩))
    (first
      | (go_at_call 84; refine (ih _ _ (hv0.ext ((Chg.refl _ _).drew))).mono ?_; rintro e w3 ⟨v3, rfl, hv3, he3⟩; obtain ⟨a3, cap3, rfl, _⟩ := hv3.form; have rb3 := Ext.heap he3 rb; have y0 := blk_cell rb3 0; have z0 := blk_free rb3 0; have y1 := blk_cell rb3 1; have z1 := blk_free rb3 1; have y2 := blk_cell rb3 2; have z2 := blk_free rb3 2; have y3 := blk_cell rb3 3; have z3 := blk_free rb3 3; have y4 := blk_cell rb3 4; have z4 := blk_free rb3 4; have y5 := blk_cell rb3 5; have z5 := blk_free rb3 5; have y6 := blk_cell rb3 6; have z6 := blk_free rb3 6; have y7 := blk_cell rb3 7; have z7 := blk_free rb3 7))
  have hW0 : w.heap.size + 1 < W0.heap.size := lt_of_block rb
  have E3 : Ext w w3 := (E0.trans ((Chg.refl _ _).drew)).trans he3
  have hs : Chg (fun q => q = w.heap.size + 1) w3 ((((((((w3.setCell ⟨w.heap.size + 1, 0, none⟩ (.string x.name)).setCell ⟨w.heap.size + 1, 1, none⟩ (.int .u8 x.ty)).setCell ⟨w.heap.size + 1, 2, none⟩ (.int .i64 x.st)).setCell ⟨w.heap.size + 1, 3, none⟩ (.int .i64 x.df)).setCell ⟨w.heap.size + 1, 4, none⟩ (.int .u8 x.body.op)).setCell ⟨w.heap.size + 1, 5, none⟩ (.int .i64 x.body.n)).setCell ⟨w.heap.size + 1, 6, none⟩ (.string x.body.name)).setCell ⟨w.heap.size + 1, 7, none⟩ (.slice a3 x.body.args.length cap3)) := chg_sets8 _ _ _ _ _ _ _ _ _ _
  have hb4 := blk_set (blk_set (blk_set (blk_set (blk_set (blk_set (blk_set (blk_set (rb3) 0 (.string x.name)) 1 (.int .u8 x.ty)) 2 (.int .i64 x.st)) 3 (.int .i64 x.df)) 4 (.int .u8 x.body.op)) 5 (.int .i64 x.body.n)) 6 (.string x.body.name)) 7 (.slice a3 x.body.args.length cap3)
  have r0 := blk_cell hb4 0
  have r1 := blk_cell hb4 1
  have r2 := blk_cell hb4 2
  have r3 := blk_cell hb4 3
  have r4 := blk_cell hb4 4
  have r5 := blk_cell hb4 5
  have r6 := blk_cell hb4 6
  have r7 := blk_cell hb4 7
  have hv4 := hv3.far hs (fun q hq => by show q < W0.heap.size; omega)
  have hv5 := hv4.lower (lo' := w.heap.size) (by show w.heap.size ≤ W0.heap.size; omega)
  have E4 : Ext w _ := E3.then hs (fun q hq => by omega)
  clear he3 rb x0 x1 x2 x3 x4 x5 x6 x7 E0 hv0 hs hb4 hv4 hv3 E3
  go_wp2_with fail
  refine bodyPost_ret (v := .agg #[.string x.name, .int .u8 x.ty, .int .i64 x.st, .int .i64 x.df, .int .u8 x.body.op, .int .i64 x.body.n, .string x.body.name, .slice a3 x.body.args.length cap3]) (by simp [results, Try.results63, go_sem, r0, r1, r2, r3, r4, r5, r6, r7]) rfl ?_
  exact ⟨_, rfl, hv5, E4⟩
theorem infoFl : (Try.prog.info? 55).map (fun i => (i.zero, i.size, i.bytes)) = some (some (.agg #[.string ByteArray.empty, .int .u8 0, .int .i64 0, .int .i64 0, .int .u8 0, .int .i64 0, .string ByteArray.empty, .slice none 0 0]), 8, 96) := by kernel_rfl
def flP (p : FlD × Value) : List Value := flC p.1 p.2
theorem flP_len (p : FlD × Value) : (flP p).length = 8 := rfl
def RetTwFl (w : World) (l : List FlD) (e : Ending) (w' : World) : Prop := ∃ (v : Value) (ps : List (FlD × Value)), e = .returned v ∧ ps.map (·.1) = l ∧ TwRow w 55 8 l.length (ps.flatMap flP ++ flMark) w' v ∧ ∀ p, p ∈ ps → RdExV w' (w.heap.size + 1) true p.1.body.args p.2 ∧ ∀ g, v.ownBlock = some g → g = w.heap.size
set_option maxHeartbeats 2000000 in
theorem twinFlows_any (l : List FlD) (v : Value) (w : World) (hv : RdFlV w 0 false l v) : Calls Try.prog 33 #[v] w (RetTwFl w l) := by
  obtain ⟨a, cap, rfl, hf, hl, hm⟩ := hv.form
  unfold fitsR at hf
  have hn : l.length ≤ 9000000000000000000 := by omega
  obtain ⟨i0, hi, hz0, hz1, hz2⟩ := info_parts infoFl
  go_enter Try.func33, Try.ntmps33
  go_wp2_with (at_make; refine wpList_make_own _ rfl _ _ 23 rfl w.heap.size 55 i0 _ 8 Try.underlying23 hi hz0 hz1 .i64 .i64 _ (l.length + 1) rfl rfl (by omega) (by rw [hz2]; omega) (by unfold maxLen; omega) (Nat.le_refl _) ?_; intro w1 hown1 hg1)
  have E1 : Ext w w1 := ⟨hg1.os, hg1.tape, hg1.output, hg1.size, fun k hk _ => hg1.block k hk (by simp)⟩
  clear hg1
  go_wp2_with fail
  go_loopw [3, 4] (fun t i wr => ∃ k : Nat, k ≤ l.length ∧ i = .int .i64 k ∧ t = .slice (some ⟨w.heap.size, 0, none⟩) k (l.length + 1) ∧ (∃ ps : List (FlD × Value), ps.map (·.1) = l.take k ∧
      wr.ownsRow w.heap.size 55 8 (.slice (some ⟨w.heap.size, 0, none⟩) k (l.length + 1)) k (ps.flatMap flP) ∧ ∀ p, p ∈ ps → RdExV wr (w.heap.size + 1) true p.1.body.args p.2) ∧ Ext w wr)
    (fun _ i _ => l.length - (intOf i).toNat)
  case atStart => exact ⟨0, Nat.zero_le _, rfl, rfl, ⟨[], by simp, by simpa using hown1, fun p hp => by simp at hp⟩, E1⟩
  case round =>
    obtain ⟨k, hk, rfl, rfl, ⟨ps, hps, hown, hrd⟩, hE⟩ := hrel
    clear hown1 E1
    by_cases hlt : k < l.length
    · have hx := List.getElem?_eq_getElem hlt
      obtain ⟨_, _, e, _, _, _, hr, _⟩ := hv.ext hE
      simp only [Value.slice.injEq, true_and] at e
      obtain ⟨rfl, rfl⟩ := e
      obtain ⟨_, _, _, _, b, o, rfl, _, hb, c0, c1, c2, c3, _, _, _, v, hvx, c4, c5, c6, c7⟩ := hr k _ hx
      clear hr
      have htk := List.take_succ_eq_append_getElem hlt
      generalize l[k] = x at *
      have HP := Lib.hid hps
      have HT := Lib.hid htk
      clear hps htk hx
      go_wp2_with fail
      refine (twinFlow_any x v _ hvx).mono ?_
      rintro e w2 ⟨v2, rfl, hv2, he2⟩
      obtain ⟨a2, cap2, rfl, _⟩ := hv2.form
      have hE2 : Ext w w2 := hE.trans he2
      have hsz := hE.size
      have hgl0 : w.heap.size + 1 ≤ wr.heap.size := (hown.lt w.heap.size rfl).2
      have hown2 := hown.kept (w' := w2) (row := none) ⟨he2.os, he2.tape, he2.output, he2.size, fun k hk _ => he2.block k hk (fun h => h)⟩ (.inr (by simp [Value.ownBlock]))
      have hrd2 : ∀ p, p ∈ ps ++ [(x, Value.slice a2 x.body.args.length cap2)] → RdExV w2 (w.heap.size + 1) true p.1.body.args p.2 := fun p hp => by
        rcases List.mem_append.1 hp with hp | hp
        · exact (hrd p hp).ext he2
        · simp at hp; subst hp; exact hv2.lower hgl0
      have hgl := (hown2.lt w.heap.size rfl).2
      have HR := Lib.hid hrd2
      clear hown hrd he2 c0 c1 c2 c3 c4 c5 c6 c7 hvx hE hrd2 hv2
      go_wp2_with (at_builtin; refine wpList_append_fits _ rfl _ _ 23 rfl w.heap.size 55 i0 8 Try.underlying23 hi hz1 w.heap.size k (l.length + 1) _ rfl (hown2.alloc _) ⟨w2.heap.size, 0, none⟩ 1 1 (flP (x, .slice a2 x.body.args.length cap2)) rfl rfl (cell_many_new _ _ _) (by simp [Value.oneCell', flP, flC]) (by omega) ?_; intro w3 hown3 hg3)
      have hE3 : Ext w w3 := hE2.then (Chg.of_alloc_grown hg3) (fun q hq => by omega)
      have hR3 : ∀ p, p ∈ ps ++ [(x, Value.slice a2 x.body.args.length cap2)] → RdExV w3 (w.heap.size + 1) true p.1.body.args p.2 := fun p hp => (HR.out p hp).far (Chg.of_alloc_grown hg3) (fun q hq => by omega)
      have hO3 : w3.ownsRow w.heap.size 55 8 (.slice (some ⟨w.heap.size, 0, none⟩) (k + 1) (l.length + 1)) (k + 1) ((ps ++ [(x, Value.slice a2 x.body.args.length cap2)]).flatMap flP) := by
        rw [List.flatMap_append]; simpa using hown3
      have hP3 : (ps ++ [(x, Value.slice a2 x.body.args.length cap2)]).map (·.1) = l.take (k + 1) := by
        rw [List.map_append, HP.out, HT.out]; rfl
      clear hown2 hown3 hg3 hE2
      have H1 := Lib.hid hR3
      have H2 := Lib.hid hO3
      have H3 := Lib.hid hP3
      clear hR3 hO3 hP3
      go_wp2_with fail
      go_roundw
      case rel => exact ⟨k + 1, by omega, by go_num, rfl, ⟨_, H3.out, H2.out, H1.out⟩, hE3⟩
      case measure => simp [intOf]; omega
    · obtain rfl : k = l.length := by omega
      rw [List.take_length] at hps
      have hsz := hE.size
      have HP := Lib.hid hps
      clear hps
      go_wp2_with (at_builtin; refine wpList_append_fits _ rfl _ _ 23 rfl w.heap.size 55 i0 8 Try.underlying23 hi hz1 w.heap.size l.length (l.length + 1) _ rfl (hown.alloc _) ⟨wr.heap.size, 0, none⟩ 1 1 flMark rfl rfl (cell_many_new _ _ _) (by simp [Value.oneCell', flMark]) (by omega) ?_; intro w2 hown2 hg2)
      have hE2 : Ext w w2 := hE.then (Chg.of_alloc_grown hg2) (fun q hq => by omega)
      have hrd2 : ∀ p, p ∈ ps → RdExV w2 (w.heap.size + 1) true p.1.body.args p.2 := fun p hp => (hrd p hp).far (Chg.of_alloc_grown hg2) (fun q hq => by omega)
      have HO := Lib.hid hown2
      have HR := Lib.hid hrd2
      clear hown hown2 hg2 hE hrd hrd2
      have hle : (l.length : Int) ≤ (l.length : Int) + 1 := by omega
      go_wp2_with fail
      go_ret
      exact ⟨_, ps, rfl, HP.out, ⟨_, rfl, Nat.le_refl _, HO.out, hE2⟩, fun p hp => ⟨HR.out p hp, fun g hg => by simpa [Value.ownBlock] using hg.symm⟩⟩
theorem TwFl.rd {w w' : World} {l : List FlD} {ps : List (FlD × Value)} {v : Value} (hp : ps.map (·.1) = l) (h : TwRow w 55 8 l.length (ps.flatMap flP ++ flMark) w' v) (hr : ∀ p, p ∈ ps → RdExV w' (w.heap.size + 1) true p.1.body.args p.2)
    (hs : ∀ (i : Nat) (x : FlD), l[i]? = some x → x.name.size ≤ maxLen ∧ isU8 x.ty ∧ isI64 x.st ∧ isI64 x.df ∧ isU8 x.body.op ∧ isI64 x.body.n ∧ x.body.name.size ≤ maxLen) (hf : fitsR l.length 96) : RdFlV w' w.heap.size true l v := by
  obtain ⟨g, rfl, hg, ho, he⟩ := h
  unfold fitsR at hf
  have hlt := (ho.lt g rfl).2
  have hlen : ps.length = l.length := by rw [← hp, List.length_map]
  refine ⟨_, _, rfl, hf, by omega, by unfold maxLen; omega, fun i x hx => ?_, fun _ => ⟨by omega, g, 0, rfl, hg, hlt, ?_, fun j h1 h2 => ?_⟩⟩
  · have hi : i < l.length := (List.getElem?_eq_some_iff.1 hx).1
    have hpi : ps[i]? = some (ps[i]'(by omega)) := List.getElem?_eq_getElem (by omega)
    have hfst : (ps[i]'(by omega)).1 = x := by
      have : (ps.map (·.1))[i]? = some x := by rw [hp]; exact hx
      rw [List.getElem?_map, hpi] at this
      simpa using this
    generalize ps[i]'(by omega) = p at *
    obtain ⟨y, v⟩ := p
    simp only at hfst
    subst hfst
    obtain ⟨h1, h2, h3, h4, h5, h6, h7⟩ := hs i y hx
    have hv := (hr (y, v) (List.mem_of_getElem? hpi)).lower (lo' := w.heap.size) (by omega)
    have q0 : w'.cell? ⟨g, 0 + i * 8, none⟩ = (flP (y, v))[0]? := by rw [Nat.zero_add, ho.cellAt (i * 8) (by omega), show i * 8 = i * 8 + 0 from rfl, flat_at flP_len _ hpi (by omega)]
    have q1 : w'.cell? ⟨g, 0 + i * 8 + 1, none⟩ = (flP (y, v))[1]? := by rw [Nat.zero_add, ho.cellAt (i * 8 + 1) (by omega), flat_at flP_len _ hpi (by omega)]
    have q2 : w'.cell? ⟨g, 0 + i * 8 + 2, none⟩ = (flP (y, v))[2]? := by rw [Nat.zero_add, ho.cellAt (i * 8 + 2) (by omega), flat_at flP_len _ hpi (by omega)]
    have q3 : w'.cell? ⟨g, 0 + i * 8 + 3, none⟩ = (flP (y, v))[3]? := by rw [Nat.zero_add, ho.cellAt (i * 8 + 3) (by omega), flat_at flP_len _ hpi (by omega)]
    have q4 : w'.cell? ⟨g, 0 + i * 8 + 4, none⟩ = (flP (y, v))[4]? := by rw [Nat.zero_add, ho.cellAt (i * 8 + 4) (by omega), flat_at flP_len _ hpi (by omega)]
    have q5 : w'.cell? ⟨g, 0 + i * 8 + 4 + 1, none⟩ = (flP (y, v))[5]? := by rw [Nat.zero_add, ho.cellAt (i * 8 + 5) (by omega), flat_at flP_len _ hpi (by omega)]
    have q6 : w'.cell? ⟨g, 0 + i * 8 + 4 + 2, none⟩ = (flP (y, v))[6]? := by rw [Nat.zero_add, ho.cellAt (i * 8 + 6) (by omega), flat_at flP_len _ hpi (by omega)]
    have q7 : w'.cell? ⟨g, 0 + i * 8 + 4 + 3, none⟩ = (flP (y, v))[7]? := by rw [Nat.zero_add, ho.cellAt (i * 8 + 7) (by omega), flat_at flP_len _ hpi (by omega)]
    exact ⟨h1, h2, h3, h4, g, 0, rfl, hg, hlt, q0, q1, q2, q3, h5, h6, h7, v, hv, q4, q5, q6, q7⟩
  · rw [Nat.zero_add, ← hlen, ho.cellAt (ps.length * 8) (by omega), show ps.length * 8 = ps.length * 8 + 0 from rfl, flat_end flP_len]; rfl
  · rw [Nat.zero_add, ← hlen, ho.cellAt (ps.length * 8 + j) (by omega), flat_end flP_len]
    exact ⟨⟨_, List.getElem?_eq_getElem (show j < flMark.length from h2)⟩, List.getElem?_eq_getElem (show j < flMark.length from h2)⟩
theorem TwFl.rd' {w w' : World} {l : List FlD} {ps : List (FlD × Value)} {v : Value} (hp : ps.map (·.1) = l) (h : TwRow w 55 8 l.length (ps.flatMap flP ++ flMark) w' v) (hr : ∀ p, p ∈ ps → RdExV w' w.heap.size true p.1.body.args p.2)
    (hs : ∀ (i : Nat) (x : FlD), l[i]? = some x → x.name.size ≤ maxLen ∧ isU8 x.ty ∧ isI64 x.st ∧ isI64 x.df ∧ isU8 x.body.op ∧ isI64 x.body.n ∧ x.body.name.size ≤ maxLen) (hf : fitsR l.length 96) : RdFlV w' w.heap.size true l v := by
  obtain ⟨g, rfl, hg, ho, he⟩ := h
  unfold fitsR at hf
  have hlt := (ho.lt g rfl).2
  have hlen : ps.length = l.length := by rw [← hp, List.length_map]
  refine ⟨_, _, rfl, hf, by omega, by unfold maxLen; omega, fun i x hx => ?_, fun _ => ⟨by omega, g, 0, rfl, hg, hlt, ?_, fun j h1 h2 => ?_⟩⟩
  · have hi : i < l.length := (List.getElem?_eq_some_iff.1 hx).1
    have hpi : ps[i]? = some (ps[i]'(by omega)) := List.getElem?_eq_getElem (by omega)
    have hfst : (ps[i]'(by omega)).1 = x := by
      have : (ps.map (·.1))[i]? = some x := by rw [hp]; exact hx
      rw [List.getElem?_map, hpi] at this
      simpa using this
    generalize ps[i]'(by omega) = p at *
    obtain ⟨y, v⟩ := p
    simp only at hfst
    subst hfst
    obtain ⟨h1, h2, h3, h4, h5, h6, h7⟩ := hs i y hx
    have hv := hr (y, v) (List.mem_of_getElem? hpi)
    have q0 : w'.cell? ⟨g, 0 + i * 8, none⟩ = (flP (y, v))[0]? := by rw [Nat.zero_add, ho.cellAt (i * 8) (by omega), show i * 8 = i * 8 + 0 from rfl, flat_at flP_len _ hpi (by omega)]
    have q1 : w'.cell? ⟨g, 0 + i * 8 + 1, none⟩ = (flP (y, v))[1]? := by rw [Nat.zero_add, ho.cellAt (i * 8 + 1) (by omega), flat_at flP_len _ hpi (by omega)]
    have q2 : w'.cell? ⟨g, 0 + i * 8 + 2, none⟩ = (flP (y, v))[2]? := by rw [Nat.zero_add, ho.cellAt (i * 8 + 2) (by omega), flat_at flP_len _ hpi (by omega)]
    have q3 : w'.cell? ⟨g, 0 + i * 8 + 3, none⟩ = (flP (y, v))[3]? := by rw [Nat.zero_add, ho.cellAt (i * 8 + 3) (by omega), flat_at flP_len _ hpi (by omega)]
    have q4 : w'.cell? ⟨g, 0 + i * 8 + 4, none⟩ = (flP (y, v))[4]? := by rw [Nat.zero_add, ho.cellAt (i * 8 + 4) (by omega), flat_at flP_len _ hpi (by omega)]
    have q5 : w'.cell? ⟨g, 0 + i * 8 + 4 + 1, none⟩ = (flP (y, v))[5]? := by rw [Nat.zero_add, ho.cellAt (i * 8 + 5) (by omega), flat_at flP_len _ hpi (by omega)]
    have q6 : w'.cell? ⟨g, 0 + i * 8 + 4 + 2, none⟩ = (flP (y, v))[6]? := by rw [Nat.zero_add, ho.cellAt (i * 8 + 6) (by omega), flat_at flP_len _ hpi (by omega)]
    have q7 : w'.cell? ⟨g, 0 + i * 8 + 4 + 3, none⟩ = (flP (y, v))[7]? := by rw [Nat.zero_add, ho.cellAt (i * 8 + 7) (by omega), flat_at flP_len _ hpi (by omega)]
    exact ⟨h1, h2, h3, h4, g, 0, rfl, hg, hlt, q0, q1, q2, q3, h5, h6, h7, v, hv, q4, q5, q6, q7⟩
  · rw [Nat.zero_add, ← hlen, ho.cellAt (ps.length * 8) (by omega), show ps.length * 8 = ps.length * 8 + 0 from rfl, flat_end flP_len]; rfl
  · rw [Nat.zero_add, ← hlen, ho.cellAt (ps.length * 8 + j) (by omega), flat_end flP_len]
    exact ⟨⟨_, List.getElem?_eq_getElem (show j < flMark.length from h2)⟩, List.getElem?_eq_getElem (show j < flMark.length from h2)⟩
end Go.Proofs.Ytjdficgejjkaoaa
