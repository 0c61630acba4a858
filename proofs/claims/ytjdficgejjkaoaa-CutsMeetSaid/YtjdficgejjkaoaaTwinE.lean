/- The twins of what is worked out, of flows, of programs. -/
import Derived.Test.YtjdficgejjkaoaaTwin
import Derived.Deep.RegionHeld3
namespace Go.Proofs.Ytjdficgejjkaoaa
open Go.RowKit
set_option linter.unusedVariables false

theorem infoEx : (Try.prog.info? 53).map (fun i => (i.zero, i.size, i.bytes)) = some (some (.agg #[.int .u8 0, .int .i64 0, .string ByteArray.empty, .slice none 0 0]), 4, 56) := by kernel_rfl
def exP (p : Ex × Value) : List Value := [.int .u8 p.1.op, .int .i64 p.1.n, .string p.1.name, p.2]
theorem exP_len (p : Ex × Value) : (exP p).length = 4 := rfl
def RetExs (w : World) (l : List Ex) (e : Ending) (w' : World) : Prop := ∃ v, e = .returned v ∧ RdExV w' w.heap.size true l v ∧ Ext w w'
def RetEx (w : World) (x : Ex) (e : Ending) (w' : World) : Prop := ∃ v, e = .returned (.agg #[.int .u8 x.op, .int .i64 x.n, .string x.name, v]) ∧ RdExV w' w.heap.size true x.args v ∧ Ext w w'
/-- TwinExpr's contract at x. -/
def ETwin (x : Ex) : Prop := ∀ (v : Value) (w : World), RdExV w 0 false x.args v → Calls Try.prog 84 #[.agg #[.int .u8 x.op, .int .i64 x.n, .string x.name, v]] w (RetEx w x)
theorem twEx_rd {w' : World} {B : Nat} {l : List Ex} {ps : List (Ex × Value)} (hp : ps.map (·.1) = l) (ho : w'.ownsRow B 53 4 (.slice (some ⟨B, 0, none⟩) (l.length + 1) (l.length + 1)) (l.length + 1) (ps.flatMap exP ++ [.int .u8 0, .int .i64 0, .string spareS, .slice none 0 0]))
    (hr : ∀ p, p ∈ ps → RdExV w' (B + 1) true p.1.args p.2) (hf : l.length * 56 ≤ 140737488351232) (hs : ∀ (i : Nat) (x : Ex), l[i]? = some x → isU8 x.op ∧ isI64 x.n ∧ x.name.size ≤ maxLen) :
    RdExV w' B true l (.slice (some ⟨B, 0, none⟩) l.length (l.length + 1)) := by
  have hlt := (ho.lt B rfl).2
  have hlen : ps.length = l.length := by rw [← hp, List.length_map]
  refine ⟨_, _, rfl, hf, by omega, by unfold maxLen; omega, RdExs.mk fun {i x} hx => ?_, fun _ => ⟨by omega, B, 0, rfl, Nat.le_refl _, hlt, 0, 0, 0, ?_, ?_, ?_, ?_⟩⟩
  · have hi : i < l.length := (List.getElem?_eq_some_iff.1 hx).1
    have hpi : ps[i]? = some (ps[i]'(by omega)) := List.getElem?_eq_getElem (by omega)
    have hfst : (ps[i]'(by omega)).1 = x := by
      have : (ps.map (·.1))[i]? = some x := by rw [hp]; exact hx
      rw [List.getElem?_map, hpi] at this
      simpa using this
    generalize ps[i]'(by omega) = p at *
    obtain ⟨y, v⟩ := p
    simp only at hfst
    subst hfst
    obtain ⟨h1, h2, h3⟩ := hs i y hx
    have hv := hr (y, v) (List.mem_of_getElem? hpi)
    refine ⟨B, 0, .int .u8 y.op, .int .i64 y.n, .string y.name, v, rfl, Nat.le_refl _, hlt, ?_, ?_, ?_, ?_, ?_⟩
    · rw [Nat.zero_add, Nat.zero_add, ho.cellAt (i * 4) (by omega), show i * 4 = i * 4 + 0 from rfl, flat_at exP_len _ hpi (by omega)]; rfl
    · rw [Nat.zero_add, Nat.zero_add, ho.cellAt (i * 4 + 1) (by omega), flat_at exP_len _ hpi (by omega)]; rfl
    · rw [Nat.zero_add, Nat.zero_add, ho.cellAt (i * 4 + 2) (by omega), flat_at exP_len _ hpi (by omega)]; rfl
    · rw [Nat.zero_add, Nat.zero_add, ho.cellAt (i * 4 + 3) (by omega), flat_at exP_len _ hpi (by omega)]; rfl
    · obtain ⟨op, n, nm, args⟩ := y
      exact RdEx.shut h1 h2 h3 (hv.lower (by omega))
  · rw [Nat.zero_add, ← hlen, ho.cellAt (ps.length * 4) (by omega), show ps.length * 4 = ps.length * 4 + 0 from rfl, flat_end exP_len]; rfl
  · rw [Nat.zero_add, ← hlen, ho.cellAt (ps.length * 4 + 1) (by omega), flat_end exP_len]; rfl
  · rw [Nat.zero_add, ← hlen, ho.cellAt (ps.length * 4 + 2) (by omega), flat_end exP_len]; rfl
  · rw [Nat.zero_add, ← hlen, ho.cellAt (ps.length * 4 + 3) (by omega), flat_end exP_len]; rfl
set_option maxHeartbeats 1000000 in
theorem twinExprs_of (l : List Ex) (ih : ∀ x, x ∈ l → ETwin x) (v : Value) (w : World) (h : RdExV w 0 false l v) : Calls Try.prog 98 #[v] w (RetExs w l) := by
  obtain ⟨a, cap, rfl, hrest⟩ := h
  have hv : RdExV w 0 false l (.slice a l.length cap) := ⟨a, cap, rfl, hrest⟩
  obtain ⟨hf, hl, hm, _⟩ := hrest
  unfold fitsR at hf
  have hn : l.length ≤ 9000000000000000000 := by omega
  obtain ⟨i0, hi, hz0, hz1, hz2⟩ := info_parts infoEx
  go_enter Try.func98, Try.ntmps98
  go_wp2_with (at_make; refine wpList_make_own _ rfl _ _ 51 rfl w.heap.size 53 i0 _ 4 Try.underlying51 hi hz0 hz1 .i64 .i64 _ (l.length + 1) rfl rfl (by omega) (by rw [hz2]; omega) (by unfold maxLen; omega) (Nat.le_refl _) ?_; intro w1 hown1 hg1)
  have E1 : Ext w w1 := ⟨hg1.os, hg1.tape, hg1.output, hg1.size, fun k hk _ => hg1.block k hk (by simp)⟩
  clear hg1
  go_wp2_with fail
  go_loopw [3, 4] (fun t i wr => ∃ k : Nat, k ≤ l.length ∧ i = .int .i64 k ∧ t = .slice (some ⟨w.heap.size, 0, none⟩) k (l.length + 1) ∧ (∃ ps : List (Ex × Value), ps.map (·.1) = l.take k ∧
      wr.ownsRow w.heap.size 53 4 (.slice (some ⟨w.heap.size, 0, none⟩) k (l.length + 1)) k (ps.flatMap exP) ∧ ∀ p, p ∈ ps → RdExV wr (w.heap.size + 1) true p.1.args p.2) ∧ Ext w wr)
    (fun _ i _ => l.length - (intOf i).toNat)
  case atStart => exact ⟨0, Nat.zero_le _, rfl, rfl, ⟨[], by simp, by simpa using hown1, fun p hp => by simp at hp⟩, E1⟩
  case round =>
    obtain ⟨k, hk, rfl, rfl, ⟨ps, hps, hown, hrd⟩, hE⟩ := hrel
    clear hown1 E1
    by_cases hlt : k < l.length
    · have hx := List.getElem?_eq_getElem hlt
      have hix := ih _ (List.getElem_mem hlt)
      obtain ⟨b, o, v, rfl, _, hb, c0, c1, c2, c3, _, _, _, hvx⟩ := (hv.ext hE).get hx
      have htk := List.take_succ_eq_append_getElem hlt
      generalize l[k] = x at *
      have HP := Lib.hid hps
      have HT := Lib.hid htk
      clear hps htk hx
      go_wp2_with fail
      refine (hix v _ hvx).mono ?_
      rintro e w2 ⟨v2, rfl, hv2, he2⟩
      obtain ⟨a2, cap2, rfl, hr2⟩ := hv2
      have hv2 : RdExV w2 wr.heap.size true x.args (.slice a2 x.args.length cap2) := ⟨a2, cap2, rfl, hr2⟩
      clear hr2
      have hE2 : Ext w w2 := hE.trans he2
      have hsz := hE.size
      have hgl0 : w.heap.size + 1 ≤ wr.heap.size := (hown.lt w.heap.size rfl).2
      have hown2 := hown.kept (w' := w2) (row := none) ⟨he2.os, he2.tape, he2.output, he2.size, fun k hk _ => he2.block k hk (fun h => h)⟩ (.inr (by simp [Value.ownBlock]))
      have hrd2 : ∀ p, p ∈ ps ++ [(x, Value.slice a2 x.args.length cap2)] → RdExV w2 (w.heap.size + 1) true p.1.args p.2 := fun p hp => by
        rcases List.mem_append.1 hp with hp | hp
        · exact (hrd p hp).ext he2
        · simp at hp; subst hp; exact hv2.lower hgl0
      have hgl := (hown2.lt w.heap.size rfl).2
      have HR := Lib.hid hrd2
      clear hown hrd he2 c0 c1 c2 c3 hvx hE hrd2 hv2
      go_wp2_with (at_builtin; refine wpList_append_fits _ rfl _ _ 51 rfl w.heap.size 53 i0 4 Try.underlying51 hi hz1 w.heap.size k (l.length + 1) _ rfl (hown2.alloc _) ⟨w2.heap.size, 0, none⟩ 1 1 (exP (x, .slice a2 x.args.length cap2)) rfl rfl (cell_many_new _ _ _) (by simp [Value.oneCell', exP]) (by omega) ?_; intro w3 hown3 hg3)
      have hE3 : Ext w w3 := hE2.then (Chg.of_alloc_grown hg3) (fun q hq => by omega)
      have hR3 : ∀ p, p ∈ ps ++ [(x, Value.slice a2 x.args.length cap2)] → RdExV w3 (w.heap.size + 1) true p.1.args p.2 := fun p hp => (HR.out p hp).far (Chg.of_alloc_grown hg3) (fun q hq => by omega)
      have hO3 : w3.ownsRow w.heap.size 53 4 (.slice (some ⟨w.heap.size, 0, none⟩) (k + 1) (l.length + 1)) (k + 1) ((ps ++ [(x, Value.slice a2 x.args.length cap2)]).flatMap exP) := by
        rw [List.flatMap_append]; simpa using hown3
      have hP3 : (ps ++ [(x, Value.slice a2 x.args.length cap2)]).map (·.1) = l.take (k + 1) := by
        rw [List.map_append, HP.out, HT.out]; rfl
      clear hown2 hown3 hg3 hE2
      have H1 := Lib.hid hR3
      have H2 := Lib.hid hO3
      have H3 := Lib.hid hP3
      clear hR3 hO3 hP3
      go_wp2_with fail
      go_roundw
      case rel => exact ⟨k + 1, by omega, by go_num, rfl, ⟨_, H3.out, H2.out, H1.out⟩, hE3⟩
      case measure => simp [intOf]; omega
    · obtain rfl : k = l.length := by omega
      rw [List.take_length] at hps
      have hsz := hE.size
      have hlen : ps.length = l.length := by rw [← hps, List.length_map]
      have HP := Lib.hid hps
      have HL := Lib.hid hlen
      clear hps hlen
      go_wp2_with (at_builtin; refine wpList_append_fits _ rfl _ _ 51 rfl w.heap.size 53 i0 4 Try.underlying51 hi hz1 w.heap.size l.length (l.length + 1) _ rfl (hown.alloc _) ⟨wr.heap.size, 0, none⟩ 1 1 [.int .u8 0, .int .i64 0, .string spareS, .slice none 0 0] rfl rfl (cell_many_new _ _ _) (by simp [Value.oneCell']) (by omega) ?_; intro w2 hown2 hg2)
      have hE2 : Ext w w2 := hE.then (Chg.of_alloc_grown hg2) (fun q hq => by omega)
      have hrd2 : ∀ p, p ∈ ps → RdExV w2 (w.heap.size + 1) true p.1.args p.2 := fun p hp => (hrd p hp).far (Chg.of_alloc_grown hg2) (fun q hq => by omega)
      have HO := Lib.hid hown2
      have HR := Lib.hid hrd2
      have HS : Hid (∀ (i : Nat) (x : Ex), l[i]? = some x → isU8 x.op ∧ isI64 x.n ∧ x.name.size ≤ maxLen) := fun i x hx => by
        obtain ⟨_, _, _, _, _, _, _, _, _, _, h1, h2, h3, _⟩ := hv.get hx
        exact ⟨h1, h2, h3⟩
      clear hown hown2 hg2 hE hrd hrd2
      have hle : (l.length : Int) ≤ (l.length : Int) + 1 := by omega
      go_wp2_with fail
      go_ret
      exact ⟨_, rfl, twEx_rd HP.out HO.out HR.out hf HS.out, hE2⟩
set_option maxHeartbeats 2000000 in
theorem twinExpr_any : ∀ x, ETwin x := by
  refine Ex.ind fun op n nm args ih => ?_
  intro v w hv
  simp only [Ex.op, Ex.n, Ex.name, Ex.args] at *
  have ih' := twinExprs_of args ih
  obtain ⟨a, cap, rfl, hrest⟩ := hv
  have hv : RdExV w 0 false args (.slice a args.length cap) := ⟨a, cap, rfl, hrest⟩
  clear hrest ih
  go_enter Try.func84, Try.ntmps84
  go_wp2_with fail
  have E0 : Ext w ((w.alloc (.cells #[.int .u8 op, .int .i64 n, .string nm, .slice a args.length cap] 53)).alloc (.cells #[.int .u8 0, .int .i64 0, .string ⟨#[]⟩, .slice none 0 0] 53)) := ((Chg.refl _ _).alloc _).alloc _
  have x0 : ((w.alloc (.cells #[.int .u8 op, .int .i64 n, .string nm, .slice a args.length cap] 53)).alloc (.cells #[.int .u8 0, .int .i64 0, .string ⟨#[]⟩, .slice none 0 0] 53)).cell? ⟨w.heap.size, 0, none⟩ = some (.int .u8 op) := by rw [World.cell?_alloc_past _ _ _ (by simp), World.cell?_alloc_at _ _ _ _ rfl]; rfl
  have x1 : ((w.alloc (.cells #[.int .u8 op, .int .i64 n, .string nm, .slice a args.length cap] 53)).alloc (.cells #[.int .u8 0, .int .i64 0, .string ⟨#[]⟩, .slice none 0 0] 53)).cell? ⟨w.heap.size, 1, none⟩ = some (.int .i64 n) := by rw [World.cell?_alloc_past _ _ _ (by simp), World.cell?_alloc_at _ _ _ _ rfl]; rfl
  have x2 : ((w.alloc (.cells #[.int .u8 op, .int .i64 n, .string nm, .slice a args.length cap] 53)).alloc (.cells #[.int .u8 0, .int .i64 0, .string ⟨#[]⟩, .slice none 0 0] 53)).cell? ⟨w.heap.size, 2, none⟩ = some (.string nm) := by rw [World.cell?_alloc_past _ _ _ (by simp), World.cell?_alloc_at _ _ _ _ rfl]; rfl
  have x3 : ((w.alloc (.cells #[.int .u8 op, .int .i64 n, .string nm, .slice a args.length cap] 53)).alloc (.cells #[.int .u8 0, .int .i64 0, .string ⟨#[]⟩, .slice none 0 0] 53)).cell? ⟨w.heap.size, 3, none⟩ = some (.slice a args.length cap) := by rw [World.cell?_alloc_past _ _ _ (by simp), World.cell?_alloc_at _ _ _ _ rfl]; rfl
  have rb : ((w.alloc (.cells #[.int .u8 op, .int .i64 n, .string nm, .slice a args.length cap] 53)).alloc (.cells #[.int .u8 0, .int .i64 0, .string ⟨#[]⟩, .slice none 0 0] 53)).heap[w.heap.size + 1]? = some (.cells #[.int .u8 0, .int .i64 0, .string ⟨#[]⟩, .slice none 0 0] 53 (0, 0)) := by have := heap_alloc_new (w.alloc (.cells #[.int .u8 op, .int .i64 n, .string nm, .slice a args.length cap] 53)) (.cells #[.int .u8 0, .int .i64 0, .string ⟨#[]⟩, .slice none 0 0] 53); simpa using this
  generalize ((w.alloc (.cells #[.int .u8 op, .int .i64 n, .string nm, .slice a args.length cap] 53)).alloc (.cells #[.int .u8 0, .int .i64 0, .string ⟨#[]⟩, .slice none 0 0] 53)) = W0 at *
  have hv0 := hv.ext E0
  have hne : w.heap.size ≠ w.heap.size + 1 := by omega
  have d0 := (World.cell?_drew (w := W0) (a := ⟨w.heap.size, 0, none⟩)).trans x0
  have d1 := (World.cell?_drew (w := W0) (a := ⟨w.heap.size, 1, none⟩)).trans x1
  have d2 := (World.cell?_drew (w := W0) (a := ⟨w.heap.size, 2, none⟩)).trans x2
  have d3 := (World.cell?_drew (w := W0) (a := ⟨w.heap.size, 3, none⟩)).trans x3
  go_region_held3 (fun W => W.cell? ⟨w.heap.size, 0, none⟩ = some (.int .u8 op) ∧ W.cell? ⟨w.heap.size, 1, none⟩ = some (.int .i64 n) ∧ W.cell? ⟨w.heap.size, 2, none⟩ = some (.string nm) ∧ W.cell? ⟨w.heap.size, 3, none⟩ = some (.slice a args.length cap))
    (first | (with_reducible exact ⟨d0, d1, d2, d3⟩) | (with_reducible exact ⟨Ext.cell he3 d0, Ext.cell he3 d1, Ext.cell he3 d2, Ext.cell he3 d3⟩) | (with_reducible exact ⟨cell_sets4 (Ext.cell he3 d0) hne, cell_sets4 (Ext.cell he3 d1) hne, cell_sets4 (Ext.cell he3 d2) hne, cell_sets4 (Ext.cell he3 d3) hne⟩))
    (first
      | (go_at_call 98; refine (ih' _ _ (hv0.ext ((Chg.refl _ _).drew))).mono ?_; rintro e w3 ⟨v3, rfl, hv3, he3⟩; obtain ⟨a3, cap3, rfl, _⟩ := hv3.form; have rb3 := Ext.heap he3 rb; have y0 := blk_cell rb3 0; have y1 := blk_cell rb3 1; have y2 := blk_cell rb3 2; have y3 := blk_cell rb3 3; have z0 := blk_free rb3 0; have z1 := blk_free rb3 1; have z2 := blk_free rb3 2; have z3 := blk_free rb3 3))
  have hW0 : w.heap.size + 1 < W0.heap.size := lt_of_block rb
  have E3 : Ext w w3 := (E0.trans ((Chg.refl _ _).drew)).trans he3
  have hs : Chg (fun q => q = w.heap.size + 1) w3 ((((w3.setCell ⟨w.heap.size + 1, 0, none⟩ (.int .u8 op)).setCell ⟨w.heap.size + 1, 1, none⟩ (.int .i64 n)).setCell ⟨w.heap.size + 1, 2, none⟩ (.string nm)).setCell ⟨w.heap.size + 1, 3, none⟩ (.slice a3 args.length cap3)) :=
    chg_sets4 _ _ _ _ _ _
  have hb4 := blk_set (blk_set (blk_set (blk_set rb3 0 (.int .u8 op)) 1 (.int .i64 n)) 2 (.string nm)) 3 (.slice a3 args.length cap3)
  have r0 := blk_cell hb4 0
  have r1 := blk_cell hb4 1
  have r2 := blk_cell hb4 2
  have r3 := blk_cell hb4 3
  have hv4 := hv3.far hs (fun q hq => by show q < W0.heap.size; omega)
  have hv5 := hv4.lower (lo' := w.heap.size) (by show w.heap.size ≤ W0.heap.size; omega)
  have E4 : Ext w _ := E3.then hs (fun q hq => by omega)
  clear he3 rb x0 x1 x2 x3 E0 hv0 hs hb4 hv4 hv3 E3
  go_wp2_with fail
  refine bodyPost_ret (v := .agg #[.int .u8 op, .int .i64 n, .string nm, .slice a3 args.length cap3]) (by simp [results, Try.results84, go_sem, r0, r1, r2, r3]) rfl ?_
  exact ⟨_, rfl, hv5, E4⟩
end Go.Proofs.Ytjdficgejjkaoaa
