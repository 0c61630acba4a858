/- What stands in this text: RefsW, Asked, May. -/
import Derived.Test.YtgkbhonjodcakaaGreatJ1
import Derived.RangeFuncNested
import Derived.Laws.EntriesVeiled
import Derived.RangeFuncCalls
namespace Go.Proofs.YtgkbhonjodcakaaGreat
open Go.RowKit
set_option linter.unusedVariables false

/-- What the closure writes. -/
def RfS (L : Nat) (sv : Value) (q : Nat) : Prop := q = L ∨ q = L + 1 ∨ sv.ownBlock = some q
/-- The closure's variables: the list, the set, itself. -/
def RfSt (w : World) (L : Nat) (l : List Rf) (sv : Value) : Prop := Boxed w L 89 sv ∧ Boxed w (L + 2) 169 (.map (some (L + 1))) ∧
  Boxed w (L + 3) 102 (.func (.func 74) #[] #[.pointer (some ⟨L + 2, 0, none⟩), .pointer (some ⟨L, 0, none⟩), .pointer (some ⟨L + 3, 0, none⟩)]) ∧ SetV w (L + 1) l.length l ∧ RfV w (L + 4) l sv
theorem boxed_chg {w w' : World} {B : Nat} {t : TypeId} {v : Value} {S : Nat → Prop} (h : Boxed w B t v) (hc : Chg S w w') (hS : ¬ S B) : Boxed w' B t v := hc.heap h hS
theorem RfSt.ext {w w' : World} {L : Nat} {l : List Rf} {sv : Value} (h : RfSt w L l sv) (hc : Ext w w') : RfSt w' L l sv :=
  ⟨boxed_chg h.1 hc (fun h => h), boxed_chg h.2.1 hc (fun h => h), boxed_chg h.2.2.1 hc (fun h => h), h.2.2.2.1.chg hc (fun h => h), h.2.2.2.2.chg hc (fun _ _ h => h)⟩
theorem chg_moreS {w w1 w2 : World} {S T : Nat → Prop} (h : Chg S w w1) (k : Chg T w1 w2) (hs : ∀ g, T g → S g ∨ w.heap.size ≤ g) : Chg S w w2 :=
  ⟨k.os.trans h.os, k.tape.trans h.tape, k.output.trans h.output, Nat.le_trans h.size k.size, fun q hq hn => by
    have := h.size
    exact (k.block q (by omega) (fun hs' => by rcases hs q hs' with h | h; exact hn h; omega)).trans (h.block q hq hn)⟩
theorem rfS_ge {b0 L b w : Nat} {sv : Value} (h : b0 ≤ L) (hv : ∀ k, sv.ownBlock = some k → L + 4 ≤ k ∧ k < w) (hb : RfS L sv b) : b0 ≤ b := by
  rcases hb with h1 | h1 | h1
  · omega
  · omega
  · have := (hv b h1).1; omega
theorem rfS_more {L W g : Nat} {sk sv : Value} (rG : ∀ g, sk.ownBlock = some g → sv.ownBlock = some g ∨ W < g) (hg : RfS L sk g) : RfS L sv g ∨ W ≤ g := by
  rcases hg with h | h | h
  · exact .inl (.inl h)
  · exact .inl (.inr (.inl h))
  · rcases rG g h with h | h
    · exact .inl (.inr (.inr h))
    · exact .inr (by omega)
theorem agoP_ok {op ago : Int} (h : isI64 ago) : isI64 (agoP op ago) := by
  unfold agoP
  split
  · unfold isI64 wrap64; omega
  · exact h
theorem RfV.snoc {w : World} {base : Nat} {l : List Rf} {r : Rf} {v : Value} (h : w.ownsRow base 78 2 v (l.length + 1) (l.flatMap rfC ++ rfC r)) : RfV w base (l ++ [r]) v := by
  unfold RfV
  rw [List.length_append, List.flatMap_append]
  simpa using h
theorem RfV.form1 {w : World} {base : Nat} {l : List Rf} {r : Rf} {v : Value} (h : RfV w base (l ++ [r]) v) : ∃ a cap, v = .slice a (l.length + 1) cap := by
  have := h.form
  simpa using this
def RetRf (w : World) (L : Nat) (sv : Value) (l : List Rf) (e : Ending) (w' : World) : Prop := ∃ u s', e = .returned u ∧ RfSt w' L l s' ∧ Chg (RfS L sv) w w' ∧ ∀ g, s'.ownBlock = some g → sv.ownBlock = some g ∨ w.heap.size ≤ g
/-- The closure's contract at x. -/
def ERf (x : Ex) : Prop := ∀ (xv : Value) (w0 w : World) (L : Nat) (l : List Rf) (sv : Value) (ago : Int), RdExV w0 0 false x.args xv → x.name.size ≤ maxLen → isI64 ago → Ext w0 w → w0.heap.size ≤ L → RfSt w L l sv → l.length + nodesE x ≤ 100000 →
  Calls Tryz.prog 74 #[.agg #[.int .u8 x.op, .int .i64 x.n, .string x.name, xv], .int .i64 ago, .pointer (some ⟨L + 2, 0, none⟩), .pointer (some ⟨L, 0, none⟩), .pointer (some ⟨L + 3, 0, none⟩)] w (RetRf w L sv (gthE l ago x))
set_option maxRecDepth 100000 in
set_option maxHeartbeats 4000000 in
theorem refs1_any : ∀ x, ERf x := by
  refine Ex.ind fun op n nm args ih => ?_
  intro xv w0 w L l sv ago hv0 hnm hago hE hbw hS hlen
  simp only [Ex.op, Ex.n, Ex.name, Ex.args] at *
  simp only [nodesE] at hlen
  obtain ⟨a, cap, rfl, hrest⟩ := hv0
  have hv0 : RdExV w0 0 false args (.slice a args.length cap) := ⟨a, cap, rfl, hrest⟩
  have hlen2 : args.length ≤ 9000000000000000000 := by have := hrest.1; unfold fitsR at this; omega
  clear hrest
  have HI := Lib.hid ih
  clear ih
  have hvlt := hS.2.2.2.2.lt
  have hLw := hS.1.lt
  have hGw := hS.2.2.1.lt
  have hsl := stepR_le l op nm ago
  have HL : Hid ((stepR l op nm ago).length + nodesL args ≤ 100000) := by show _ ≤ _; omega
  have WR := heap_alloc_new (w.alloc (.cells #[.int .u8 op, .int .i64 n, .string nm, .slice a args.length cap] 41)) (.cells #[.string nm, .int .i64 ago] 78)
  rw [World.size_alloc] at WR
  have WX := Ext.heap ((Chg.refl (fun _ => False) (w.alloc (.cells #[.int .u8 op, .int .i64 n, .string nm, .slice a args.length cap] 41))).alloc (.cells #[.string nm, .int .i64 ago] 78)) (heap_alloc_new w (.cells #[.int .u8 op, .int .i64 n, .string nm, .slice a args.length cap] 41))
  have WC : Chg (RfS L sv) w ((w.alloc (.cells #[.int .u8 op, .int .i64 n, .string nm, .slice a args.length cap] 41)).alloc (.cells #[.string nm, .int .i64 ago] 78)) := ((Chg.refl _ _).alloc _).alloc _
  have WS : RfSt ((w.alloc (.cells #[.int .u8 op, .int .i64 n, .string nm, .slice a args.length cap] 41)).alloc (.cells #[.string nm, .int .i64 ago] 78)) L l sv := hS.ext (((Chg.refl _ _).alloc _).alloc _)
  have hG0 : ∀ g, sv.ownBlock = some g → sv.ownBlock = some g ∨ w.heap.size < g := fun g h => .inl h
  by_cases h3 : op = 3
  · have b3 : (op == 3) = true := by simpa using h3
    have b19 : (op == 19) = false := by subst h3; rfl
    have hag : agoP op ago = ago := by subst h3; rfl
    have HA := Lib.hid hag
    have hst : stepR l op nm ago = if (l.any fun r => decide (r = (nm, ago))) = false then l ++ [(nm, ago)] else l := by
      unfold stepR
      by_cases hX : (l.any fun r => decide (r = (nm, ago))) = false
      · rw [if_pos ⟨h3, hX⟩, if_pos hX]
      · rw [if_neg (fun h => hX h.2), if_neg hX]
    have HST := Lib.hid hst
    clear hst hag h3
    have hlk := WS.2.2.2.1.look (r := (nm, ago)) ⟨hnm, hago⟩
    simp only [rfV] at hlk
    have yT := WS.2.1.cell
    cases hth : (l.any fun r => decide (r = (nm, ago)))
    · rw [hth] at hlk
      have hst : stepR l op nm ago = l ++ [(nm, ago)] := by rw [HST.out, if_pos hth]
      obtain ⟨w3, hput, S3, C3⟩ := WS.2.2.2.1.put (r := (nm, ago)) ⟨hnm, hago⟩ (by unfold maxLen; omega)
      simp only [rfV] at hput
      obtain ⟨va, vc, rfl⟩ := WS.2.2.2.2.form
      have hvl2 := WS.2.2.2.2.lt
      have X3 := C3.heap WX (fun h => by omega)
      have R3 := C3.heap WR (fun h => by omega)
      have B1 := boxed_chg WS.1 C3 (fun h => by omega)
      have B2 := boxed_chg WS.2.1 C3 (fun h => by omega)
      have B3 := boxed_chg WS.2.2.1 C3 (fun h => by omega)
      have V3 := WS.2.2.2.2.chg C3 (fun g hg h => by have := (hvl2 g hg).1; omega)
      have D3 : Chg (RfS L (.slice va l.length vc)) w w3 := WC.trans (C3.mono (fun _ _ h => .inr (.inl h)))
      have hw3 := D3.size
      obtain ⟨i0, hi, hz0, hz1, hz2⟩ := info_parts infoRf
      have HST2 := Lib.hid hst
      have HX3 := Lib.hid X3
      have HB1 := Lib.hid B1
      have HB2 := Lib.hid B2
      have HB3 := Lib.hid B3
      have HS3 := Lib.hid S3
      have HD3 := Lib.hid D3
      have yL := B1.cell
      have r0 := blk_cell R3 0
      have r1 := blk_cell R3 1
      have rr0 := blk_cell WR 0
      have rr1 := blk_cell WR 1
      simp only [List.getElem?_toArray, List.getElem?_cons_zero, List.getElem?_cons_succ] at r0 r1 rr0 rr1
      have hne : w.heap.size ≠ L := by omega
      have hne' : L ≠ w.heap.size := by omega
      clear hst WX WR WC WS X3 R3 B1 B2 B3 S3 D3 C3
      go_enter Tryz.func74, Tryz.ntmps74
      go_wp2_with (at_builtin; refine wpList_append_own_at _ rfl _ _ 89 rfl (L + 4) 78 i0 _ 2 24 Tryz.underlying89 hi hz0 hz1 hz2 rfl (by decide) _ _ _ rfl (World.ownsRow.alloc V3 _) ⟨w3.heap.size, 0, none⟩ 1 1 (rfC (nm, ago)) rfl rfl (cell_many_new _ _ _) (by simp [rfC, Value.oneCell']) (by unfold maxLen; omega) (by omega) (by simp; omega) ?_; intro v4 w4 hown4 hgrow4 _ hat4; have V4 := RfV.snoc hown4; obtain ⟨a4, c4, rfl⟩ := V4.form1; have X4 := Chg.heap (Chg.of_grownBy hgrow4) (Ext.heap ((Chg.refl _ _).alloc _) HX3.out) (fun h => by have := (hvlt _ h).2; omega); have B4 := boxed_chg (HB1.out.alloc _) (Chg.of_grownBy hgrow4) (fun h => by have := (hvlt _ h).1; omega); have y0 := blk_cell X4 0; have y3 := blk_cell X4 3; have yL4 := B4.cell; have gL4 := B4.frozen; simp only [List.getElem?_toArray, List.getElem?_cons_zero, List.getElem?_cons_succ] at y0 y3)
      have S5 : Chg (fun q => q = L) w4 (w4.setCell ⟨L, 0, none⟩ (.slice a4 (l.length + 1) c4)) := (Chg.refl (fun q => q = L) w4).setCell ⟨L, 0, none⟩ _ (.inl rfl)
      have D4 := Chg.of_grownBy hgrow4
      have B5 := Boxed.set (.slice a4 (l.length + 1) c4) B4
      have T5 := boxed_chg (boxed_chg (HB2.out.alloc _) D4 (fun h => by have := (hvlt _ h).1; omega)) S5 (fun h => by omega)
      have G5 := boxed_chg (boxed_chg (HB3.out.alloc _) D4 (fun h => by have := (hvlt _ h).1; omega)) S5 (fun h => by omega)
      have M5 := ((HS3.out.chg ((Chg.refl (fun _ => False) _).alloc _) (fun h => h)).chg D4 (fun h => by have := (hvlt _ h).1; omega)).chg S5 (fun h => by omega)
      have V5 := V4.chg S5 (fun g hg h => by have := (World.ownsRow.lt V4 g hg).1; omega)
      have hlen5 : (l ++ [(nm, ago)]).length = l.length + 1 := by simp
      have HV : Hid (RfSt (w4.setCell ⟨L, 0, none⟩ (.slice a4 (l.length + 1) c4)) L (stepR l op nm ago) (.slice a4 (l.length + 1) c4)) := by
        show RfSt _ _ _ _
        rw [HST2.out]
        exact ⟨B5, T5, G5, by rw [hlen5]; exact M5, V5⟩
      have hC5 : Chg (RfS L (.slice va l.length vc)) w (w4.setCell ⟨L, 0, none⟩ (.slice a4 (l.length + 1) c4)) := chg_moreS (chg_moreS (HD3.out.alloc _) D4 (fun g hg => .inl (.inr (.inr hg)))) S5 (fun g hg => .inl (.inl hg))
      have hX5 := S5.heap X4 (fun h => by omega)
      have HC := Lib.hid hC5
      have HX := Lib.hid hX5
      have HG : Hid (∀ g, (Value.slice a4 (l.length + 1) c4).ownBlock = some g → (Value.slice va l.length vc).ownBlock = some g ∨ w.heap.size < g) := fun g hg => by
        rcases hat4 with h | h
        · exact .inl (h ▸ hg)
        · right
          rw [hg] at h
          have : g = (w3.alloc (.cells (rfC (nm, ago)).toArray 78)).heap.size := by simpa using h
          rw [this, World.size_alloc]
          omega
      clear y0 y3 yL4 gL4 yL r0 r1 rr0 rr1 D4 B5 T5 G5 M5 V5 S5 X4 B4 V4 hC5 hX5 hown4 hgrow4 hat4 V3 hlk hput b3 b19 yT hth hG0
      generalize (w4.setCell ⟨L, 0, none⟩ (.slice a4 (l.length + 1) c4)) = W5 at *
      go_loopw [37] (fun i wr => ∃ (k : Nat) (lk : List Rf) (sk : Value), k ≤ args.length ∧ i = .int .i64 k ∧ RfSt wr L lk sk ∧ gthL (stepR l op nm ago) (agoP op ago) args = gthL lk (agoP op ago) (args.drop k) ∧ lk.length + nodesL (args.drop k) ≤ 100000 ∧
          wr.heap[w.heap.size]? = some (.cells #[.int .u8 op, .int .i64 n, .string nm, .slice a args.length cap] 41 (0, 0)) ∧ Chg (RfS L (Value.slice va l.length vc)) w wr ∧ (∀ g, sk.ownBlock = some g → (Value.slice va l.length vc).ownBlock = some g ∨ w.heap.size < g)) (fun i _ => args.length - (intOf i).toNat)
      case atStart => exact ⟨0, _, _, Nat.zero_le _, rfl, HV.out, rfl, by simpa using HL.out, HX.out, HC.out, HG.out⟩
      case round =>
        obtain ⟨k, lk, sk, hk, rfl, rV, hgl, hll, rX, rC, rG⟩ := hrel
        have HGL := Lib.hid hgl
        clear hgl
        have E1 := Ext.then hE rC (fun b hb => rfS_ge hbw hvlt hb)
        by_cases hlt : k < args.length
        · have hx := List.getElem?_eq_getElem hlt
          have hix := HI.out _ (List.getElem_mem hlt)
          obtain ⟨b, o, v0, rfl, _, hb, z0, z1, z2, z3, _, _, hxn, hvx⟩ := hv0.get hx
          have c0 := Ext.cell E1 z0
          have c1 := Ext.cell E1 z1
          have c2 := Ext.cell E1 z2
          have c3 := Ext.cell E1 z3
          clear z0 z1 z2 z3
          have hn1 := nodesL_at hx
          have hg1 : gthL lk (agoP op ago) (args.drop k) = gthL (gthE lk (agoP op ago) args[k]) (agoP op ago) (args.drop (k + 1)) := by rw [List.drop_eq_getElem_cons hlt]; simp only [gthL]
          have q1 : (k : Int) < (args.length : Int) := by omega
          generalize args[k] = x at *
          have hle := gthE_le x lk (agoP op ago)
          obtain ⟨a2, cap2, rfl, _⟩ := hvx.form
          have E2 : Ext w0 (wr.alloc (.cells #[.int .u8 x.op, .int .i64 x.n, .string x.name, .slice a2 x.args.length cap2] 41)) := E1.alloc _
          have rV2 : RfSt (wr.alloc (.cells #[.int .u8 x.op, .int .i64 x.n, .string x.name, .slice a2 x.args.length cap2] 41)) L lk sk := rV.ext ((Chg.refl _ _).alloc _)
          have hcall : ∀ a1 : Int, agoP op ago = a1 → Calls Tryz.prog 74 #[.agg #[.int .u8 x.op, .int .i64 x.n, .string x.name, .slice a2 x.args.length cap2], .int .i64 a1, .pointer (some ⟨L + 2, 0, none⟩), .pointer (some ⟨L, 0, none⟩), .pointer (some ⟨L + 3, 0, none⟩)]
              (wr.alloc (.cells #[.int .u8 x.op, .int .i64 x.n, .string x.name, .slice a2 x.args.length cap2] 41)) (RetRf (wr.alloc (.cells #[.int .u8 x.op, .int .i64 x.n, .string x.name, .slice a2 x.args.length cap2] 41)) L sk (gthE lk (agoP op ago) x)) := by
            rintro _ rfl
            exact hix _ w0 _ L lk sk (agoP op ago) hvx hxn (agoP_ok hago) E2 hbw rV2 (by omega)
          have HCa := Lib.hid hcall
          have HG1 := Lib.hid hg1
          have rX2 := Lib.hid rX
          have hsz := rC.size
          have hXl := lt_of_block rX
          have yG := rV2.2.2.1.cell
          have HrV := Lib.hid rV
          clear hcall hix hx hvx hg1 rX rV rV2
          go_wp2_with fail
          refine (HCa.out _ HA.out).mono ?_
          rintro e w4 ⟨u, s4, rfl, V4, C4, G4⟩
          have C5 : Chg (RfS L (Value.slice va l.length vc)) w w4 := chg_moreS (rC.alloc _) C4 (fun g hg => rfS_more rG hg)
          have X4 := C4.heap (Ext.heap ((Chg.refl _ _).alloc _) rX2.out) (fun h => by
            rcases h with h | h | h
            · omega
            · omega
            · rcases rG _ h with h | h
              · exact absurd (hvlt _ h).2 (by omega)
              · omega)
          have G5 : ∀ g, s4.ownBlock = some g → (Value.slice va l.length vc).ownBlock = some g ∨ w.heap.size < g := fun g hg => by
            rcases G4 g hg with h | h
            · exact rG g h
            · rw [World.size_alloc] at h
              exact .inr (by omega)
          have hG := Lib.hid (HGL.out.trans HG1.out)
          go_wp2_with fail
          go_roundw
          case rel => exact ⟨k + 1, _, s4, by omega, by go_num, V4, hG.out, by omega, X4, C5, G5⟩
          case measure => simp [intOf]; omega
        · obtain rfl : k = args.length := by omega
          have hG : gthE l ago (.mk op n nm args) = lk := by
            simp only [gthE]
            rw [HGL.out, List.drop_length]
            simp only [gthL]
          have HGG := Lib.hid hG
          clear hG
          go_wp2_with fail
          exact bodyPost_end (v := .tuple #[]) (by simp [results, Tryz.results74]) rfl ⟨_, sk, rfl, by rw [HGG.out]; exact rV, rC, fun g hg => (rG g hg).imp id (fun h => by omega)⟩
    · rw [hth] at hlk
      have hst : stepR l op nm ago = l := by rw [HST.out, if_neg (by rw [hth]; simp)]
      have HV : Hid (RfSt ((w.alloc (.cells #[.int .u8 op, .int .i64 n, .string nm, .slice a args.length cap] 41)).alloc (.cells #[.string nm, .int .i64 ago] 78)) L (stepR l op nm ago) sv) := by show RfSt _ _ _ _; rw [hst]; exact WS
      have HX := Lib.hid WX
      have HC := Lib.hid WC
      have HG := Lib.hid hG0
      clear hst hth WX WC hG0 WR WS
      go_enter Tryz.func74, Tryz.ntmps74
      go_wp2_with fail
      generalize ((w.alloc (.cells #[.int .u8 op, .int .i64 n, .string nm, .slice a args.length cap] 41)).alloc (.cells #[.string nm, .int .i64 ago] 78)) = W at *
      clear b3 b19 hlk yT
      go_loopw [37] (fun i wr => ∃ (k : Nat) (lk : List Rf) (sk : Value), k ≤ args.length ∧ i = .int .i64 k ∧ RfSt wr L lk sk ∧ gthL (stepR l op nm ago) (agoP op ago) args = gthL lk (agoP op ago) (args.drop k) ∧ lk.length + nodesL (args.drop k) ≤ 100000 ∧
          wr.heap[w.heap.size]? = some (.cells #[.int .u8 op, .int .i64 n, .string nm, .slice a args.length cap] 41 (0, 0)) ∧ Chg (RfS L sv) w wr ∧ (∀ g, sk.ownBlock = some g → sv.ownBlock = some g ∨ w.heap.size < g)) (fun i _ => args.length - (intOf i).toNat)
      case atStart => exact ⟨0, _, _, Nat.zero_le _, rfl, HV.out, rfl, by simpa using HL.out, HX.out, HC.out, HG.out⟩
      case round =>
        obtain ⟨k, lk, sk, hk, rfl, rV, hgl, hll, rX, rC, rG⟩ := hrel
        have HGL := Lib.hid hgl
        clear hgl
        have E1 := Ext.then hE rC (fun b hb => rfS_ge hbw hvlt hb)
        by_cases hlt : k < args.length
        · have hx := List.getElem?_eq_getElem hlt
          have hix := HI.out _ (List.getElem_mem hlt)
          obtain ⟨b, o, v0, rfl, _, hb, z0, z1, z2, z3, _, _, hxn, hvx⟩ := hv0.get hx
          have c0 := Ext.cell E1 z0
          have c1 := Ext.cell E1 z1
          have c2 := Ext.cell E1 z2
          have c3 := Ext.cell E1 z3
          clear z0 z1 z2 z3
          have hn1 := nodesL_at hx
          have hg1 : gthL lk (agoP op ago) (args.drop k) = gthL (gthE lk (agoP op ago) args[k]) (agoP op ago) (args.drop (k + 1)) := by rw [List.drop_eq_getElem_cons hlt]; simp only [gthL]
          have q1 : (k : Int) < (args.length : Int) := by omega
          generalize args[k] = x at *
          have hle := gthE_le x lk (agoP op ago)
          obtain ⟨a2, cap2, rfl, _⟩ := hvx.form
          have E2 : Ext w0 (wr.alloc (.cells #[.int .u8 x.op, .int .i64 x.n, .string x.name, .slice a2 x.args.length cap2] 41)) := E1.alloc _
          have rV2 : RfSt (wr.alloc (.cells #[.int .u8 x.op, .int .i64 x.n, .string x.name, .slice a2 x.args.length cap2] 41)) L lk sk := rV.ext ((Chg.refl _ _).alloc _)
          have hcall : ∀ a1 : Int, agoP op ago = a1 → Calls Tryz.prog 74 #[.agg #[.int .u8 x.op, .int .i64 x.n, .string x.name, .slice a2 x.args.length cap2], .int .i64 a1, .pointer (some ⟨L + 2, 0, none⟩), .pointer (some ⟨L, 0, none⟩), .pointer (some ⟨L + 3, 0, none⟩)]
              (wr.alloc (.cells #[.int .u8 x.op, .int .i64 x.n, .string x.name, .slice a2 x.args.length cap2] 41)) (RetRf (wr.alloc (.cells #[.int .u8 x.op, .int .i64 x.n, .string x.name, .slice a2 x.args.length cap2] 41)) L sk (gthE lk (agoP op ago) x)) := by
            rintro _ rfl
            exact hix _ w0 _ L lk sk (agoP op ago) hvx hxn (agoP_ok hago) E2 hbw rV2 (by omega)
          have HCa := Lib.hid hcall
          have HG1 := Lib.hid hg1
          have rX2 := Lib.hid rX
          have hsz := rC.size
          have hXl := lt_of_block rX
          have yG := rV2.2.2.1.cell
          have HrV := Lib.hid rV
          clear hcall hix hx hvx hg1 rX rV rV2
          go_wp2_with fail
          refine (HCa.out _ HA.out).mono ?_
          rintro e w4 ⟨u, s4, rfl, V4, C4, G4⟩
          have C5 : Chg (RfS L sv) w w4 := chg_moreS (rC.alloc _) C4 (fun g hg => rfS_more rG hg)
          have X4 := C4.heap (Ext.heap ((Chg.refl _ _).alloc _) rX2.out) (fun h => by
            rcases h with h | h | h
            · omega
            · omega
            · rcases rG _ h with h | h
              · exact absurd (hvlt _ h).2 (by omega)
              · omega)
          have G5 : ∀ g, s4.ownBlock = some g → sv.ownBlock = some g ∨ w.heap.size < g := fun g hg => by
            rcases G4 g hg with h | h
            · exact rG g h
            · rw [World.size_alloc] at h
              exact .inr (by omega)
          have hG := Lib.hid (HGL.out.trans HG1.out)
          go_wp2_with fail
          go_roundw
          case rel => exact ⟨k + 1, _, s4, by omega, by go_num, V4, hG.out, by omega, X4, C5, G5⟩
          case measure => simp [intOf]; omega
        · obtain rfl : k = args.length := by omega
          have hG : gthE l ago (.mk op n nm args) = lk := by
            simp only [gthE]
            rw [HGL.out, List.drop_length]
            simp only [gthL]
          have HGG := Lib.hid hG
          clear hG
          go_wp2_with fail
          exact bodyPost_end (v := .tuple #[]) (by simp [results, Tryz.results74]) rfl ⟨_, sk, rfl, by rw [HGG.out]; exact rV, rC, fun g hg => (rG g hg).imp id (fun h => by omega)⟩
  have hst : stepR l op nm ago = l := by simp [stepR, h3]
  have HV : Hid (RfSt ((w.alloc (.cells #[.int .u8 op, .int .i64 n, .string nm, .slice a args.length cap] 41)).alloc (.cells #[.string nm, .int .i64 ago] 78)) L (stepR l op nm ago) sv) := by show RfSt _ _ _ _; rw [hst]; exact WS
  have b3 : (op == 3) = false := by simpa using h3
  have HX := Lib.hid WX
  have HC := Lib.hid WC
  have HG := Lib.hid hG0
  clear hst WX WC hG0 WR WS h3
  by_cases h19 : op = 19
  · have hag : agoP op ago = wrap64 (ago + 1) := by subst h19; rfl
    have HA := Lib.hid hag
    have b19 : (op == 19) = true := by subst h19; rfl
    clear hag h19
    go_enter Tryz.func74, Tryz.ntmps74
    go_wp2_with fail
    generalize ((w.alloc (.cells #[.int .u8 op, .int .i64 n, .string nm, .slice a args.length cap] 41)).alloc (.cells #[.string nm, .int .i64 ago] 78)) = W at *
    clear b3 b19
    go_loopw [37] (fun i wr => ∃ (k : Nat) (lk : List Rf) (sk : Value), k ≤ args.length ∧ i = .int .i64 k ∧ RfSt wr L lk sk ∧ gthL (stepR l op nm ago) (agoP op ago) args = gthL lk (agoP op ago) (args.drop k) ∧ lk.length + nodesL (args.drop k) ≤ 100000 ∧
        wr.heap[w.heap.size]? = some (.cells #[.int .u8 op, .int .i64 n, .string nm, .slice a args.length cap] 41 (0, 0)) ∧ Chg (RfS L sv) w wr ∧ (∀ g, sk.ownBlock = some g → sv.ownBlock = some g ∨ w.heap.size < g)) (fun i _ => args.length - (intOf i).toNat)
    case atStart => exact ⟨0, _, _, Nat.zero_le _, rfl, HV.out, rfl, by simpa using HL.out, HX.out, HC.out, HG.out⟩
    case round =>
      obtain ⟨k, lk, sk, hk, rfl, rV, hgl, hll, rX, rC, rG⟩ := hrel
      have HGL := Lib.hid hgl
      clear hgl
      have E1 := Ext.then hE rC (fun b hb => rfS_ge hbw hvlt hb)
      by_cases hlt : k < args.length
      · have hx := List.getElem?_eq_getElem hlt
        have hix := HI.out _ (List.getElem_mem hlt)
        obtain ⟨b, o, v0, rfl, _, hb, z0, z1, z2, z3, _, _, hxn, hvx⟩ := hv0.get hx
        have c0 := Ext.cell E1 z0
        have c1 := Ext.cell E1 z1
        have c2 := Ext.cell E1 z2
        have c3 := Ext.cell E1 z3
        clear z0 z1 z2 z3
        have hn1 := nodesL_at hx
        have hg1 : gthL lk (agoP op ago) (args.drop k) = gthL (gthE lk (agoP op ago) args[k]) (agoP op ago) (args.drop (k + 1)) := by rw [List.drop_eq_getElem_cons hlt]; simp only [gthL]
        have q1 : (k : Int) < (args.length : Int) := by omega
        generalize args[k] = x at *
        have hle := gthE_le x lk (agoP op ago)
        obtain ⟨a2, cap2, rfl, _⟩ := hvx.form
        have E2 : Ext w0 (wr.alloc (.cells #[.int .u8 x.op, .int .i64 x.n, .string x.name, .slice a2 x.args.length cap2] 41)) := E1.alloc _
        have rV2 : RfSt (wr.alloc (.cells #[.int .u8 x.op, .int .i64 x.n, .string x.name, .slice a2 x.args.length cap2] 41)) L lk sk := rV.ext ((Chg.refl _ _).alloc _)
        have hcall : ∀ a1 : Int, agoP op ago = a1 → Calls Tryz.prog 74 #[.agg #[.int .u8 x.op, .int .i64 x.n, .string x.name, .slice a2 x.args.length cap2], .int .i64 a1, .pointer (some ⟨L + 2, 0, none⟩), .pointer (some ⟨L, 0, none⟩), .pointer (some ⟨L + 3, 0, none⟩)]
            (wr.alloc (.cells #[.int .u8 x.op, .int .i64 x.n, .string x.name, .slice a2 x.args.length cap2] 41)) (RetRf (wr.alloc (.cells #[.int .u8 x.op, .int .i64 x.n, .string x.name, .slice a2 x.args.length cap2] 41)) L sk (gthE lk (agoP op ago) x)) := by
          rintro _ rfl
          exact hix _ w0 _ L lk sk (agoP op ago) hvx hxn (agoP_ok hago) E2 hbw rV2 (by omega)
        have HCa := Lib.hid hcall
        have HG1 := Lib.hid hg1
        have rX2 := Lib.hid rX
        have hsz := rC.size
        have hXl := lt_of_block rX
        have yG := rV2.2.2.1.cell
        have HrV := Lib.hid rV
        clear hcall hix hx hvx hg1 rX rV rV2
        go_wp2_with fail
        refine (HCa.out _ HA.out).mono ?_
        rintro e w4 ⟨u, s4, rfl, V4, C4, G4⟩
        have C5 : Chg (RfS L sv) w w4 := chg_moreS (rC.alloc _) C4 (fun g hg => rfS_more rG hg)
        have X4 := C4.heap (Ext.heap ((Chg.refl _ _).alloc _) rX2.out) (fun h => by
          rcases h with h | h | h
          · omega
          · omega
          · rcases rG _ h with h | h
            · exact absurd (hvlt _ h).2 (by omega)
            · omega)
        have G5 : ∀ g, s4.ownBlock = some g → sv.ownBlock = some g ∨ w.heap.size < g := fun g hg => by
          rcases G4 g hg with h | h
          · exact rG g h
          · rw [World.size_alloc] at h
            exact .inr (by omega)
        have hG := Lib.hid (HGL.out.trans HG1.out)
        go_wp2_with fail
        go_roundw
        case rel => exact ⟨k + 1, _, s4, by omega, by go_num, V4, hG.out, by omega, X4, C5, G5⟩
        case measure => simp [intOf]; omega
      · obtain rfl : k = args.length := by omega
        have hG : gthE l ago (.mk op n nm args) = lk := by
          simp only [gthE]
          rw [HGL.out, List.drop_length]
          simp only [gthL]
        have HGG := Lib.hid hG
        clear hG
        go_wp2_with fail
        exact bodyPost_end (v := .tuple #[]) (by simp [results, Tryz.results74]) rfl ⟨_, sk, rfl, by rw [HGG.out]; exact rV, rC, fun g hg => (rG g hg).imp id (fun h => by omega)⟩
  · have hag : agoP op ago = ago := by simp [agoP, h19]
    have HA := Lib.hid hag
    have b19 : (op == 19) = false := by simpa using h19
    clear hag h19
    go_enter Tryz.func74, Tryz.ntmps74
    go_wp2_with fail
    generalize ((w.alloc (.cells #[.int .u8 op, .int .i64 n, .string nm, .slice a args.length cap] 41)).alloc (.cells #[.string nm, .int .i64 ago] 78)) = W at *
    clear b3 b19
    go_loopw [37] (fun i wr => ∃ (k : Nat) (lk : List Rf) (sk : Value), k ≤ args.length ∧ i = .int .i64 k ∧ RfSt wr L lk sk ∧ gthL (stepR l op nm ago) (agoP op ago) args = gthL lk (agoP op ago) (args.drop k) ∧ lk.length + nodesL (args.drop k) ≤ 100000 ∧
        wr.heap[w.heap.size]? = some (.cells #[.int .u8 op, .int .i64 n, .string nm, .slice a args.length cap] 41 (0, 0)) ∧ Chg (RfS L sv) w wr ∧ (∀ g, sk.ownBlock = some g → sv.ownBlock = some g ∨ w.heap.size < g)) (fun i _ => args.length - (intOf i).toNat)
    case atStart => exact ⟨0, _, _, Nat.zero_le _, rfl, HV.out, rfl, by simpa using HL.out, HX.out, HC.out, HG.out⟩
    case round =>
      obtain ⟨k, lk, sk, hk, rfl, rV, hgl, hll, rX, rC, rG⟩ := hrel
      have HGL := Lib.hid hgl
      clear hgl
      have E1 := Ext.then hE rC (fun b hb => rfS_ge hbw hvlt hb)
      by_cases hlt : k < args.length
      · have hx := List.getElem?_eq_getElem hlt
        have hix := HI.out _ (List.getElem_mem hlt)
        obtain ⟨b, o, v0, rfl, _, hb, z0, z1, z2, z3, _, _, hxn, hvx⟩ := hv0.get hx
        have c0 := Ext.cell E1 z0
        have c1 := Ext.cell E1 z1
        have c2 := Ext.cell E1 z2
        have c3 := Ext.cell E1 z3
        clear z0 z1 z2 z3
        have hn1 := nodesL_at hx
        have hg1 : gthL lk (agoP op ago) (args.drop k) = gthL (gthE lk (agoP op ago) args[k]) (agoP op ago) (args.drop (k + 1)) := by rw [List.drop_eq_getElem_cons hlt]; simp only [gthL]
        have q1 : (k : Int) < (args.length : Int) := by omega
        generalize args[k] = x at *
        have hle := gthE_le x lk (agoP op ago)
        obtain ⟨a2, cap2, rfl, _⟩ := hvx.form
        have E2 : Ext w0 (wr.alloc (.cells #[.int .u8 x.op, .int .i64 x.n, .string x.name, .slice a2 x.args.length cap2] 41)) := E1.alloc _
        have rV2 : RfSt (wr.alloc (.cells #[.int .u8 x.op, .int .i64 x.n, .string x.name, .slice a2 x.args.length cap2] 41)) L lk sk := rV.ext ((Chg.refl _ _).alloc _)
        have hcall : ∀ a1 : Int, agoP op ago = a1 → Calls Tryz.prog 74 #[.agg #[.int .u8 x.op, .int .i64 x.n, .string x.name, .slice a2 x.args.length cap2], .int .i64 a1, .pointer (some ⟨L + 2, 0, none⟩), .pointer (some ⟨L, 0, none⟩), .pointer (some ⟨L + 3, 0, none⟩)]
            (wr.alloc (.cells #[.int .u8 x.op, .int .i64 x.n, .string x.name, .slice a2 x.args.length cap2] 41)) (RetRf (wr.alloc (.cells #[.int .u8 x.op, .int .i64 x.n, .string x.name, .slice a2 x.args.length cap2] 41)) L sk (gthE lk (agoP op ago) x)) := by
          rintro _ rfl
          exact hix _ w0 _ L lk sk (agoP op ago) hvx hxn (agoP_ok hago) E2 hbw rV2 (by omega)
        have HCa := Lib.hid hcall
        have HG1 := Lib.hid hg1
        have rX2 := Lib.hid rX
        have hsz := rC.size
        have hXl := lt_of_block rX
        have yG := rV2.2.2.1.cell
        have HrV := Lib.hid rV
        clear hcall hix hx hvx hg1 rX rV rV2
        go_wp2_with fail
        refine (HCa.out _ HA.out).mono ?_
        rintro e w4 ⟨u, s4, rfl, V4, C4, G4⟩
        have C5 : Chg (RfS L sv) w w4 := chg_moreS (rC.alloc _) C4 (fun g hg => rfS_more rG hg)
        have X4 := C4.heap (Ext.heap ((Chg.refl _ _).alloc _) rX2.out) (fun h => by
          rcases h with h | h | h
          · omega
          · omega
          · rcases rG _ h with h | h
            · exact absurd (hvlt _ h).2 (by omega)
            · omega)
        have G5 : ∀ g, s4.ownBlock = some g → sv.ownBlock = some g ∨ w.heap.size < g := fun g hg => by
          rcases G4 g hg with h | h
          · exact rG g h
          · rw [World.size_alloc] at h
            exact .inr (by omega)
        have hG := Lib.hid (HGL.out.trans HG1.out)
        go_wp2_with fail
        go_roundw
        case rel => exact ⟨k + 1, _, s4, by omega, by go_num, V4, hG.out, by omega, X4, C5, G5⟩
        case measure => simp [intOf]; omega
      · obtain rfl : k = args.length := by omega
        have hG : gthE l ago (.mk op n nm args) = lk := by
          simp only [gthE]
          rw [HGL.out, List.drop_length]
          simp only [gthL]
        have HGG := Lib.hid hG
        clear hG
        go_wp2_with fail
        exact bodyPost_end (v := .tuple #[]) (by simp [results, Tryz.results74]) rfl ⟨_, sk, rfl, by rw [HGG.out]; exact rV, rC, fun g hg => (rG g hg).imp id (fun h => by omega)⟩
/-- What Refs answers: a list of one's own. -/
def RetRefs (w : World) (l : List Rf) (e : Ending) (w' : World) : Prop := ∃ v, e = .returned v ∧ RfV w' w.heap.size l v ∧ Ext w w'
theorem RfV.lower {w : World} {base base' : Nat} {l : List Rf} {v : Value} (h : RfV w base l v) (hb : base' ≤ base) : RfV w base' l v := by
  refine ⟨h.1, ?_⟩
  rcases h.2 with ⟨h0, h1⟩ | ⟨g, cap, cur, h1, h2, h3⟩
  · exact .inl ⟨h0, h1⟩
  · exact .inr ⟨g, cap, cur, h1, Nat.le_trans hb h2, h3⟩
/-- The world in which the closure is called. -/
def refsW (w : World) (cs : Array Value) : World := ((((w.alloc (.cells cs 41)).alloc (.cells #[.slice none 0 0] 89)).alloc (.map #[] 0)).alloc (.cells #[.map (some (w.heap.size + 1 + 1))] 169)).alloc
  (.cells #[.func (.func 74) #[] #[.pointer (some ⟨w.heap.size + 1 + 1 + 1, 0, none⟩), .pointer (some ⟨w.heap.size + 1, 0, none⟩), .pointer (some ⟨w.heap.size + 1 + 1 + 1 + 1, 0, none⟩)]] 102)
theorem refsW_ext (w : World) (cs : Array Value) : Ext w (refsW w cs) := (((((Chg.refl _ _).alloc _).alloc _).alloc _).alloc _).alloc _
theorem refsW_st (w : World) (cs : Array Value) : RfSt (refsW w cs) (w.heap.size + 1) [] (.slice none 0 0) := by
  unfold refsW
  refine ⟨?_, ?_, ?_, ?_, RfV.nil _ _⟩
  · have := Boxed.new (w.alloc (.cells cs 41)) 89 (.slice none 0 0)
    rw [World.size_alloc] at this
    exact ((this.alloc _).alloc _).alloc _
  · have := Boxed.new (((w.alloc (.cells cs 41)).alloc (.cells #[.slice none 0 0] 89)).alloc (.map #[] 0)) 169 (.map (some (w.heap.size + 1 + 1)))
    simp only [World.size_alloc] at this
    exact this.alloc _
  · have := Boxed.new ((((w.alloc (.cells cs 41)).alloc (.cells #[.slice none 0 0] 89)).alloc (.map #[] 0)).alloc (.cells #[.map (some (w.heap.size + 1 + 1))] 169)) 102
      (.func (.func 74) #[] #[.pointer (some ⟨w.heap.size + 1 + 1 + 1, 0, none⟩), .pointer (some ⟨w.heap.size + 1, 0, none⟩), .pointer (some ⟨w.heap.size + 1 + 1 + 1 + 1, 0, none⟩)])
    simp only [World.size_alloc] at this
    exact this
  · have := SetV.made ((w.alloc (.cells cs 41)).alloc (.cells #[.slice none 0 0] 89))
    simp only [World.size_alloc] at this
    exact (this.chg ((Chg.refl (fun _ => False) _).alloc _) (fun h => h)).chg ((Chg.refl (fun _ => False) _).alloc _) (fun h => h)
set_option maxHeartbeats 4000000 in
/-- exprs.Refs. -/
theorem refs_any (x : Ex) (v : Value) (w : World) (hv : RdExV w 0 false x.args v) (hnm : x.name.size ≤ maxLen) (hlen : nodesE x ≤ 100000) :
    Calls Tryz.prog 27 #[.agg #[.int .u8 x.op, .int .i64 x.n, .string x.name, v]] w (RetRefs w (gthE [] 0 x)) := by
  have hc := fun W (hE : Ext w W) (hS : RfSt W (w.heap.size + 1) [] (.slice none 0 0)) => refs1_any x v w W (w.heap.size + 1) [] (.slice none 0 0) 0 hv hnm (by unfold isI64; omega) hE (by omega) hS (by simpa using hlen)
  obtain ⟨a, cap, rfl, _⟩ := hv.form
  have hc2 := hc _ (refsW_ext w #[.int .u8 x.op, .int .i64 x.n, .string x.name, .slice a x.args.length cap]) (refsW_st w _)
  have E0 := refsW_ext w #[.int .u8 x.op, .int .i64 x.n, .string x.name, .slice a x.args.length cap]
  have HC := Lib.hid hc2
  clear hc hc2 hv
  generalize gthE [] 0 x = l at *
  have hmm := @run_makeMap Tryz.prog
  go_enter Tryz.func27, Tryz.ntmps27
  go_wp2_with fail
  refine HC.out.mono ?_
  rintro e w1 ⟨u, s1, rfl, hS, hC, _⟩
  have E1 : Ext w w1 := Ext.then E0 hC (fun b hb => by
    rcases hb with h | h | h
    · omega
    · omega
    · cases h)
  obtain ⟨a1, c1, rfl⟩ := hS.2.2.2.2.form
  have yL := hS.1.cell
  have gL := hS.1.frozen
  have E2 : Ext w (w1.setCell ⟨w.heap.size + 1, 0, none⟩ (.slice a1 l.length c1)) := E1.setCell _ _ (.inr (by show _ ≤ w.heap.size + 1; omega))
  have V2 : RfV (w1.setCell ⟨w.heap.size + 1, 0, none⟩ (.slice a1 l.length c1)) w.heap.size l (.slice a1 l.length c1) :=
    (hS.2.2.2.2.chg (S := fun q => q = w.heap.size + 1) ((Chg.refl _ w1).setCell ⟨w.heap.size + 1, 0, none⟩ _ (.inl rfl)) (fun g hg h => by have := (World.ownsRow.lt hS.2.2.2.2 g hg).1; omega)).lower (by omega)
  clear hS hC
  go_wp2_with fail
  refine bodyPost_ret (v := .slice a1 l.length c1) ?_ rfl ⟨_, rfl, V2, E2⟩
  simp [results, Tryz.results27, go_sem, yL]
end Go.Proofs.YtgkbhonjodcakaaGreat
namespace Go.Proofs.YtgkbhonjodcakaaGreat
open Go.RowKit Go.Shelf
attribute [local go_sem] Oper.semAt_some
set_option linter.unusedVariables false
set_option linter.unusedSimpArgs false

theorem ok_wf' {x : Ex} (h : okE 32 200 x = true) : wfE 32 x = true ∧ nodesE x ≤ 200 := by
  obtain ⟨h1, h2⟩ := okE_iff.1 h
  exact ⟨h1, by omega⟩
/-- The names that are asked for. -/
def namesE (x : Ex) : List ByteArray := (gthE [] 0 x).map (·.1)
def namesF : List FlD → List ByteArray
  | [] => []
  | x :: r => namesE x.body ++ namesF r
def askedL (p : PrD) : List ByteArray := namesF p.flows ++ p.outs
theorem namesF_append : ∀ (l m : List FlD), namesF (l ++ m) = namesF l ++ namesF m
  | [], m => rfl
  | x :: r, m => by simp [namesF, namesF_append r m]
theorem namesF_take {l : List FlD} {k : Nat} {x : FlD} (h : l[k]? = some x) : namesF (l.take (k + 1)) = namesF (l.take k) ++ namesE x.body := by
  rw [List.take_add_one, h, namesF_append]
  simp [namesF]
theorem namesF_cut {l : List FlD} {k : Nat} {x : FlD} (h : l[k]? = some x) : namesF l = namesF (l.take k) ++ (namesE x.body ++ namesF (l.drop (k + 1))) := by
  obtain ⟨hk, rfl⟩ := List.getElem?_eq_some_iff.1 h
  have e : l = l.take k ++ l[k] :: l.drop (k + 1) := by rw [← List.drop_eq_getElem_cons hk, List.take_append_drop]
  have := congrArg namesF e
  rw [namesF_append] at this
  exact this
theorem asked_cut {p : PrD} {k j : Nat} {x : FlD} {r : Rf} (h : p.flows[k]? = some x) (hr : (gthE [] 0 x.body)[j]? = some r) :
    ∃ rest, askedL p = (namesF (p.flows.take k) ++ ((gthE [] 0 x.body).take j).map (·.1)) ++ r.1 :: rest := by
  obtain ⟨hj, e⟩ := List.getElem?_eq_some_iff.1 hr
  have e2 : namesE x.body = ((gthE [] 0 x.body).take j).map (·.1) ++ r.1 :: ((gthE [] 0 x.body).drop (j + 1)).map (·.1) := by
    have : gthE [] 0 x.body = (gthE [] 0 x.body).take j ++ r :: (gthE [] 0 x.body).drop (j + 1) := by rw [← e, ← List.drop_eq_getElem_cons hj, List.take_append_drop]
    have := congrArg (List.map (·.1)) this
    rw [List.map_append] at this
    exact this
  refine ⟨((gthE [] 0 x.body).drop (j + 1)).map (·.1) ++ (namesF (p.flows.drop (k + 1)) ++ p.outs), ?_⟩
  unfold askedL
  rw [namesF_cut h, e2]
  simp [List.append_assoc]
theorem asked_cut2 {p : PrD} {k : Nat} {s : ByteArray} (h : p.outs[k]? = some s) : ∃ rest, askedL p = (namesF p.flows ++ p.outs.take k) ++ s :: rest := by
  obtain ⟨hk, e⟩ := List.getElem?_eq_some_iff.1 h
  refine ⟨p.outs.drop (k + 1), ?_⟩
  unfold askedL
  rw [List.append_assoc, ← e, ← List.drop_eq_getElem_cons hk, List.take_append_drop]
theorem pre_len {α : Type} {l pre rest : List α} {x : α} (h : l = pre ++ x :: rest) : pre.length < l.length := by rw [h]; simp
theorem pre_more {α : Type} {l pre rest : List α} {x : α} (h : l = pre ++ x :: rest) : pre ++ [x] <+: l := ⟨rest, by rw [h]; simp⟩
theorem nameP_size {s : ByteArray} (h : nameP s = true) : s.size ≤ 40 := by
  simp only [nameP, Bool.and_eq_true, decide_eq_true_eq] at h
  exact h.1.1.2
mutual
theorem gthE_names : ∀ (x : Ex) (d : Nat) (l : List Rf) (ago : Int), wfE d x = true → (∀ r, r ∈ l → r.1.size ≤ 40) → ∀ r, r ∈ gthE l ago x → r.1.size ≤ 40
  | .mk op n nm args, 0, l, ago, hw, hl => by simp [wfE] at hw
  | .mk op n nm args, d + 1, l, ago, hw, hl => by
    simp only [wfE, Bool.and_eq_true] at hw
    simp only [gthE]
    refine gthL_names args d _ _ hw.2 (fun r hr => ?_)
    unfold stepR at hr
    split at hr
    · rename_i h3
      rcases List.mem_append.1 hr with h | h
      · exact hl r h
      · simp only [List.mem_cons, List.not_mem_nil, or_false] at h
        subst h
        have := hw.1.2
        rw [headP, if_neg (by rw [h3.1]; decide), if_neg (by rw [h3.1]; decide), if_pos h3.1, Bool.and_eq_true] at this
        exact nameP_size this.2
    · exact hl r hr
theorem gthL_names : ∀ (xs : List Ex) (d : Nat) (l : List Rf) (ago : Int), wfL d xs = true → (∀ r, r ∈ l → r.1.size ≤ 40) → ∀ r, r ∈ gthL l ago xs → r.1.size ≤ 40
  | [], d, l, ago, hw, hl => by simpa only [gthL] using hl
  | x :: r, d, l, ago, hw, hl => by
    simp only [wfL, Bool.and_eq_true] at hw
    simp only [gthL]
    exact gthL_names r d _ _ hw.2 (gthE_names x d l ago hw.1 hl)
end
/-- What a round may write, while lists of one's own are read: no cells, and nothing that lay. -/
structure KpA (n0 : Nat) (A B : World) : Prop where
  below : Below n0 A B
  cells : ∀ (k : Nat) (o : Obj), A.heap[k]? = some o → o.isCells = true → B.heap[k]? = some o
theorem kpA_t {n0 : Nat} {A B C : World} (h : KpA n0 A B) (k : KpA n0 B C) : KpA n0 A C := ⟨h.below.trans k.below, fun i o ho hc => k.cells i o (h.cells i o ho hc) hc⟩
theorem kpA_b {n0 : Nat} {w : World} (hn : n0 ≤ w.heap.size) (W : World) (l : Nat) (o o' : Obj) (hl : w.heap.size ≤ l) (h : W.heap[l]? = some o) (hc : o.isCells = false) (hw : o.isWalk = false) : KpA n0 W (W.putObj l o') :=
  ⟨belowK_b hn W l o o' hl h hc hw, fun k q hq hqc => ((grownBy_putObj' W l o').block k (Array.getElem?_eq_some_iff.1 hq).1 (fun e => by
    simp only [Option.some.injEq] at e
    subst e
    rw [h] at hq
    cases hq
    rw [hc] at hqc
    cases hqc)).trans hq⟩
theorem cells_of_cell {W : World} {a : Addr} {v : Value} (h : W.cell? a = some v) : ∃ o, W.heap[a.block]? = some o ∧ o.isCells = true := by
  unfold World.cell? at h
  split at h
  · rename_i hb
    exact ⟨_, hb, rfl⟩
  · cases h
theorem KpA.cell {n0 : Nat} {A B : World} (h : KpA n0 A B) {a : Addr} {v : Value} (hc : A.cell? a = some v) : B.cell? a = some v := by
  obtain ⟨o, ho, hoc⟩ := cells_of_cell hc
  exact (World.cell?_of_block (w := A) ((h.cells _ _ ho hoc).trans ho.symm)).trans hc
theorem Ext.kpA {n0 : Nat} {A B : World} (h : Ext A B) (hn : n0 ≤ A.heap.size) : KpA n0 A B := ⟨(Ext.below h).mono hn, fun k o ho _ => Ext.heap h ho⟩
theorem Ext.grown {w w1 : World} (h : Ext w w1) : w.grownBy w1 none := ⟨h.os, h.tape, h.output, h.size, fun k hk _ => h.block k hk (fun h => h)⟩
def nameC (s : ByteArray) : Array Value := #[.string (clipS s)]
theorem asked_any (cs : Array Value) (a b c d : Value) (w : World) (h : cs = #[a, b, c, d]) : Calls Tryz.prog 66 #[.agg cs] w fun e w' =>
    e = .returned (.func (.func 106) #[] #[.pointer (some ⟨w.heap.size, 0, none⟩)]) ∧ w' = w.alloc (.cells cs 26) := by
  subst h
  go_enter Tryz.func66, Tryz.ntmps66
  go_wp2_with fail
  go_ret
  exact ⟨rfl, rfl⟩
set_option maxRecDepth 100000 in
set_option maxHeartbeats 4000000 in
theorem asked_iter (n : Nat) (hn : 1 ≤ n) (Bs : Nat) (p : PrD) (w : World) (af ao : Option Addr) (cf co : Nat) (hfl : RdFlV w 0 false p.flows (.slice af p.flows.length cf)) (ho : RdStrV w 0 false p.outs (.slice ao p.outs.length co))
    (hok : ∀ x, x ∈ p.flows → okE 32 200 x.body = true) (hB : Bs < w.heap.size)
    (b2 : w.cell? ⟨Bs, 2, none⟩ = some (.slice af p.flows.length cf)) (b3 : w.cell? ⟨Bs, 3, none⟩ = some (.slice ao p.outs.length co)) :
    SeqStopsK Fence.wide n Tryz.prog 106 #[.pointer (some ⟨Bs, 0, none⟩)] nameC (KpA w.heap.size) (fun ys => ys = askedL p) (fun pre => pre <+: askedL p) (askedL p).length w := fun l J Jx W hW hJ hJx hY h0 => by
  have n2 : p.flows.length ≤ 9000000000000000000 := by obtain ⟨_, _, e, h, _⟩ := hfl; unfold fitsR at h; omega
  have n3 : p.outs.length ≤ 9000000000000000000 := by obtain ⟨_, _, e, h, _⟩ := ho; unfold fitsR at h; omega
  have hE0 : Ext w W := Ext.of_below hW
  have y1 := hE0.cell b2
  have hal : ∀ (pre : List ByteArray) (wr W' : World), J pre wr → Ext wr W' → J pre W' := fun pre wr W' h he => hJ pre wr W' none h (Ext.grown he) (fun r e => by cases e)
  have HOK := Lib.hid hok
  have HAL := Lib.hid hal
  have HFL := Lib.hid hfl
  have HO := Lib.hid ho
  clear hok hal hfl ho
  refine callsIn_of_wp Tryz.func106 rfl trivial ?_ rfl
  simp only [Tryz.ntmps106, List.size_toArray, List.length_cons, List.length_nil, Nat.reduceAdd, Nat.reduceSub, Array.replicate_succ, Array.replicate_zero, List.push_toArray, List.append_toArray, List.nil_append, List.cons_append]
  gi_wp2
  gi_loopw [12] (fun i wr => ∃ k : Nat, k ≤ p.flows.length ∧ i = .int .i64 k ∧ J (namesF (p.flows.take k)) wr ∧ Ext w wr) (fun i _ => p.flows.length - (intOf i).toNat)
  case atStart => exact ⟨0, Nat.zero_le _, rfl, h0, hE0⟩
  case round =>
    obtain ⟨k, hk, rfl, hJs, hE⟩ := hrel
    by_cases hlt : k < p.flows.length
    · have hx := List.getElem?_eq_getElem hlt
      have hokx := HOK.out _ (List.getElem_mem hlt)
      obtain ⟨_, _, e, _, _, _, hr, _⟩ := HFL.out.ext hE
      simp only [Value.slice.injEq, true_and] at e
      obtain ⟨rfl, rfl⟩ := e
      obtain ⟨hnm, _, _, _, b, o, rfl, _, hb, c0, c1, c2, c3, _, _, hbn, v, hvx, c4, c5, c6, c7⟩ := hr k _ hx
      have htk := namesF_take hx
      have hcut := fun j r => asked_cut (p := p) (j := j) (r := r) hx
      generalize p.flows[k] = x at *
      obtain ⟨hwf, hnd⟩ := ok_wf' hokx
      have hnames := gthE_names x.body 32 [] 0 hwf (fun r h => by simp at h)
      have hle := gthE_le x.body [] 0
      have hrefs := fun (W : World) (hE : Ext wr W) => refs_any x.body v W (hvx.ext hE) hbn (by omega)
      obtain ⟨va, vc, rfl, _⟩ := hvx.form
      have e1 : Ext wr (wr.alloc (.cells #[.string x.name, .int .u8 x.ty, .int .i64 x.st, .int .i64 x.df, .int .u8 x.body.op, .int .i64 x.body.n, .string x.body.name, .slice va x.body.args.length vc] 43)) := (Chg.refl _ _).alloc _
      have HR := Lib.hid hrefs
      have HTK := Lib.hid htk
      have HCUT := Lib.hid hcut
      have HN := Lib.hid hnames
      have HJ := Lib.hid hJs
      clear hr hx hvx hrefs htk hcut hnames hJs hokx hwf
      gi_wp2
      refine ⟨trivial, (callsIn_wide.2 (HR.out _ e1)).mono ?_⟩
      rintro e w2 ⟨v2, rfl, hV, hE2⟩
      have E2 : Ext wr w2 := e1.trans hE2
      have HJ2 := Lib.hid (HAL.out _ _ _ HJ.out E2)
      have hE3 : Ext w w2 := hE.trans E2
      generalize hgl : gthE [] 0 x.body = L at *
      obtain ⟨a2, cap2, rfl⟩ := hV.form
      have hcells : ∀ i r, L[i]? = some r → ∃ g, a2 = some ⟨g, 0, none⟩ ∧ w2.cell? ⟨g, i * 2, none⟩ = some (.string r.1) ∧ w2.cell? ⟨g, i * 2 + 1, none⟩ = some (.int .i64 r.2) := fun i r h => hV.get h
      clear hV hE2 E2 e1 HJ HR c0 c1 c2 c3 c4 c5 c6 c7
      have hLl : L.length ≤ 9000000000000000000 := by simp at hle; omega
      gi_wp2
      obtain ⟨wo, rfl⟩ : ∃ wo : World, wo = wr := ⟨_, rfl⟩
      have H3 : Hid (namesF (p.flows.take k) ++ (L.take 0).map (·.1) = namesF (p.flows.take k)) := by show _ = _; simp
      gi_loopw [20] (fun i wr => ∃ j : Nat, j ≤ L.length ∧ i = .int .i64 j ∧ J (namesF (p.flows.take k) ++ (L.take j).map (·.1)) wr ∧ Ext w wr ∧ ∀ i r, L[i]? = some r → ∃ g, a2 = some ⟨g, 0, none⟩ ∧ wr.cell? ⟨g, i * 2, none⟩ = some (.string r.1) ∧ wr.cell? ⟨g, i * 2 + 1, none⟩ = some (.int .i64 r.2)) (fun i _ => L.length - (intOf i).toNat)
      case atStart => exact ⟨0, Nat.zero_le _, rfl, by rw [H3.out]; exact HJ2.out, hE3, hcells⟩
      case round =>
        clear hE3 hcells HJ2 hE
        obtain ⟨j, hj, rfl, hJs, hE, hcells⟩ := hrel
        by_cases hlt2 : j < L.length
        · have hr := List.getElem?_eq_getElem hlt2
          obtain ⟨g, rfl, c0, c1⟩ := hcells _ _ hr
          obtain ⟨rest, hrest⟩ := HCUT.out j _ hr
          have hsz := HN.out _ (List.getElem_mem hlt2)
          have htj : (L.take (j + 1)).map (·.1) = (L.take j).map (·.1) ++ [L[j].1] := by rw [List.take_add_one, hr, List.map_append]; rfl
          generalize L[j] = r at *
          have hsz2 : r.1.size ≤ maxLen := by unfold maxLen; omega
          have HC := Lib.hid hcells
          have e1 : Ext wr (wr.alloc (.cells #[.string r.1, .int .i64 r.2] 78)) := (Chg.refl _ _).alloc _
          have hJ2 := HAL.out _ _ _ hJs e1
          obtain ⟨fn, tmps, assign, body, hy, hR⟩ := hY _ r.1 _ hJ2 (pre_len hrest)
          simp only [nameC] at hy
          rw [clipS_same hsz2] at hy
          have HREST := Lib.hid hrest
          have HTJ := Lib.hid htj
          clear hcells hr hrest htj hJs
          gi_wp2
          refine hR.mono ?_
          rintro e W3 (⟨rfl, hJ3, hk3⟩ | ⟨rfl, hJx3⟩)
          · have hE3 : Ext w W3 := Ext.of_below ((Ext.below (hE.trans e1)).trans hk3.below)
            rw [List.append_assoc, ← HTJ.out] at hJ3
            have H4 := Lib.hid hJ3
            have hc3 : ∀ i q, L[i]? = some q → ∃ g', some (⟨g, 0, none⟩ : Addr) = some ⟨g', 0, none⟩ ∧ W3.cell? ⟨g', i * 2, none⟩ = some (.string q.1) ∧ W3.cell? ⟨g', i * 2 + 1, none⟩ = some (.int .i64 q.2) := fun i q hq => by
              obtain ⟨g', hg', d0, d1⟩ := HC.out i q hq
              exact ⟨g', hg', hk3.cell (Ext.cell e1 d0), hk3.cell (Ext.cell e1 d1)⟩
            have H5 := Lib.hid hc3
            clear hJ3 hk3 hy hR hJ2 hE hc3 HC
            gi_wp2
            go_roundw
            case rel => exact ⟨j + 1, by omega, by go_num, H4.out, hE3, H5.out⟩
            case measure => simp [intOf]; omega
          · have H4 := Lib.hid hJx3
            clear hJx3 hy hR hJ2 hE
            gi_wp2
            refine bodyPost_ret (results_none rfl _ _ _) rfl ?_
            exact ⟨⟨_, rfl⟩, .inr ⟨_, pre_more HREST.out, H4.out⟩⟩
        · obtain rfl : j = L.length := by omega
          have hfin : namesF (p.flows.take k) ++ (L.take L.length).map (·.1) = namesF (p.flows.take (k + 1)) := by rw [HTK.out, List.take_length, namesE, hgl]
          rw [hfin] at hJs
          have H4 := Lib.hid hJs
          clear hJs hfin hcells
          gi_wp2
          go_roundw
          case rel => exact ⟨k + 1, by omega, by go_num, H4.out, hE⟩
          case measure => simp [intOf]; omega
    · obtain rfl : k = p.flows.length := by omega
      have y2 := hE.cell b3
      rw [List.take_length] at hJs
      have HJ := Lib.hid hJs
      have H3 : Hid (namesF p.flows ++ p.outs.take 0 = namesF p.flows) := by show _ = _; simp
      clear hJs
      gi_wp2
      obtain ⟨wo, rfl⟩ : ∃ wo : World, wo = wr := ⟨_, rfl⟩
      gi_loopw [34] (fun i wr => ∃ k : Nat, k ≤ p.outs.length ∧ i = .int .i64 k ∧ J (namesF p.flows ++ p.outs.take k) wr ∧ Ext w wr) (fun i _ => p.outs.length - (intOf i).toNat)
      case atStart => exact ⟨0, Nat.zero_le _, rfl, by rw [H3.out]; exact HJ.out, hE⟩
      case round =>
        clear HJ hE y2
        obtain ⟨k, hk, rfl, hJs, hE⟩ := hrel
        by_cases hlt : k < p.outs.length
        · have hx := List.getElem?_eq_getElem hlt
          obtain ⟨_, _, e, _, _, _, hr, _⟩ := HO.out.ext hE
          simp only [Value.slice.injEq, true_and] at e
          obtain ⟨rfl, rfl⟩ := e
          obtain ⟨hsz, b, o, rfl, _, hb, c0⟩ := hr k _ hx
          obtain ⟨rest, hrest⟩ := asked_cut2 hx
          have htk : p.outs.take (k + 1) = p.outs.take k ++ [p.outs[k]] := by rw [List.take_add_one, hx]; rfl
          generalize p.outs[k] = s at *
          obtain ⟨fn, tmps, assign, body, hy, hR⟩ := hY _ s _ hJs (pre_len hrest)
          simp only [nameC] at hy
          rw [clipS_same hsz] at hy
          have HREST := Lib.hid hrest
          have HTK := Lib.hid htk
          clear hr hx hrest htk
          gi_wp2
          refine hR.mono ?_
          rintro e W3 (⟨rfl, hJ3, hk3⟩ | ⟨rfl, hJx3⟩)
          · have hE3 : Ext w W3 := Ext.of_below ((Ext.below hE).trans hk3.below)
            rw [List.append_assoc, ← HTK.out] at hJ3
            have H4 := Lib.hid hJ3
            clear hJ3 hk3 hy hR hJs hE
            gi_wp2
            go_roundw
            case rel => exact ⟨k + 1, by omega, by go_num, H4.out, hE3⟩
            case measure => simp [intOf]; omega
          · have H4 := Lib.hid hJx3
            clear hJx3 hy hR hJs hE
            gi_wp2
            refine bodyPost_ret (results_none rfl _ _ _) rfl ?_
            exact ⟨⟨_, rfl⟩, .inr ⟨_, pre_more HREST.out, H4.out⟩⟩
        · obtain rfl : k = p.outs.length := by omega
          rw [List.take_length] at hJs
          have H4 : Hid (J (askedL p) wr) := hJs
          clear hJs
          gi_wp2
          go_end0
          exact ⟨⟨_, rfl⟩, .inl ⟨_, rfl, H4.out⟩⟩
end Go.Proofs.YtgkbhonjodcakaaGreat
namespace Go.Proofs.YtgkbhonjodcakaaGreat
open Go.RowKit
set_option linter.unusedVariables false
set_option linter.unusedSimpArgs false

/-- May a flow be, by its name, its type and its station? -/
def mayP (st : Int) (nm : ByteArray) (t a : Int) : Bool := nameP nm && (decide (t = 1) || decide (t = 2)) && decide (1 ≤ a) && decide (a ≤ st)
def inBad (st : Int) (x : InD) : Bool := !mayP st x.name x.ty x.st
def flBad (st : Int) (x : FlD) : Bool := !mayP st x.name x.ty x.st || decide (x.df = -9223372036854775808) || !okE 32 200 x.body
/-- The plain answer: may a program be? -/
def progP (p : PrD) : Bool := decide (1 ≤ p.st) && decide (p.st ≤ 8) && decide (p.ins.length ≤ 64) && decide (p.flows.length ≤ 128) && decide (p.outs.length ≤ p.ins.length + p.flows.length) &&
  !(p.ins.any (inBad p.st)) && !(p.flows.any (flBad p.st)) && !(p.outs.any fun s => !nameP s)
def RetV (b : Bool) (w : World) (e : Ending) (w' : World) : Prop := e = .returned (.bool b) ∧ Ext w w'
theorem retV {a b : Bool} {w w' : World} (h : a = b) (hE : Ext w w') : RetV b w (.returned (.bool a)) w' := ⟨by rw [h], hE⟩

set_option maxHeartbeats 1000000 in
theorem may_one (st : Int) (nm : ByteArray) (t a : Int) (hs : nm.size ≤ maxLen) (w : World) : Calls Tryz.prog 99 #[.int .i64 st, .string nm, .int .u8 t, .int .i64 a] w (RetV (mayP st nm t a) w) := by
  have hn := name_one nm hs w
  unfold mayP
  generalize nameP nm = b at *
  go_enter Tryz.func99, Tryz.ntmps99
  go_wp2_with fail
  refine hn.mono ?_
  rintro e w1 ⟨rfl, hE⟩
  cases b
  · (go_wp2_with fail; go_ret)
    exact retV (by simp) hE
  · by_cases h1 : 1 ≤ a
    · by_cases h2 : a ≤ st
      · by_cases t1 : t = 1
        · subst t1
          (go_wp2_with fail; go_ret)
          exact retV (by simp [h1, h2]) hE
        · have b1 : (t == 1) = false := by simpa using t1
          by_cases t2 : t = 2
          · subst t2
            (go_wp2_with fail; go_ret)
            exact retV (by simp [h1, h2]) hE
          · have b2 : (t == 2) = false := by simpa using t2
            (go_wp2_with fail; go_ret)
            exact retV (by simp [t1, t2]) hE
      · by_cases t1 : t = 1
        · subst t1
          (go_wp2_with fail; go_ret)
          exact retV (by simp [h1, h2]) hE
        · have b1 : (t == 1) = false := by simpa using t1
          by_cases t2 : t = 2
          · subst t2
            (go_wp2_with fail; go_ret)
            exact retV (by simp [h1, h2]) hE
          · have b2 : (t == 2) = false := by simpa using t2
            (go_wp2_with fail; go_ret)
            exact retV (by simp [t1, t2]) hE
    · by_cases t1 : t = 1
      · subst t1
        (go_wp2_with fail; go_ret)
        exact retV (by simp [h1]; try omega) hE
      · have b1 : (t == 1) = false := by simpa using t1
        by_cases t2 : t = 2
        · subst t2
          (go_wp2_with fail; go_ret)
          exact retV (by simp [h1]; try omega) hE
        · have b2 : (t == 2) = false := by simpa using t2
          (go_wp2_with fail; go_ret)
          exact retV (by simp [t1, t2]) hE
/-- The closure over what comes from without. -/
theorem inBad_one (x : InD) (st : Int) (B : Nat) (w : World) (hs : x.name.size ≤ maxLen) (hb : w.cell? ⟨B, 0, none⟩ = some (.int .i64 st)) :
    Calls Tryz.prog 98 #[.agg #[.string x.name, .int .u8 x.ty, .int .i64 x.st], .pointer (some ⟨B, 0, none⟩)] w (RetV (inBad st x) w) := by
  have hE0 : Ext w (w.alloc (.cells #[.string x.name, .int .u8 x.ty, .int .i64 x.st] 147)) := (Chg.refl _ _).alloc _
  have y0 := Ext.cell hE0 hb
  unfold inBad
  have hm := may_one st x.name x.ty x.st hs (w.alloc (.cells #[.string x.name, .int .u8 x.ty, .int .i64 x.st] 147))
  generalize mayP st x.name x.ty x.st = b at *
  go_enter Tryz.func98, Tryz.ntmps98
  go_wp2_with fail
  refine hm.mono ?_
  rintro e w1 ⟨rfl, hE⟩
  go_wp2_with fail
  go_ret
  exact retV rfl (hE0.trans hE)
set_option maxHeartbeats 1000000 in
theorem flBad_one (x : FlD) (v : Value) (st : Int) (B : Nat) (w : World) (hs : x.name.size ≤ maxLen) (hv : RdExV w 0 false x.body.args v) (hbn : x.body.name.size ≤ maxLen) (hb : w.cell? ⟨B, 0, none⟩ = some (.int .i64 st)) :
    Calls Tryz.prog 101 #[.agg #[.string x.name, .int .u8 x.ty, .int .i64 x.st, .int .i64 x.df, .int .u8 x.body.op, .int .i64 x.body.n, .string x.body.name, v], .pointer (some ⟨B, 0, none⟩)] w (RetV (flBad st x) w) := by
  have hm := may_one st x.name x.ty x.st hs
  have hck := fun (W : World) (hE : Ext w W) => exCheck_any x.body v W (hv.ext hE) hbn
  obtain ⟨a, cap, rfl, _⟩ := hv.form
  have hE0 : Ext w (w.alloc (.cells #[.string x.name, .int .u8 x.ty, .int .i64 x.st, .int .i64 x.df, .int .u8 x.body.op, .int .i64 x.body.n, .string x.body.name, .slice a x.body.args.length cap] 43)) := (Chg.refl _ _).alloc _
  have y0 := Ext.cell hE0 hb
  have xb : (w.alloc (.cells #[.string x.name, .int .u8 x.ty, .int .i64 x.st, .int .i64 x.df, .int .u8 x.body.op, .int .i64 x.body.n, .string x.body.name, .slice a x.body.args.length cap] 43)).heap[w.heap.size]? = some (.cells #[.string x.name, .int .u8 x.ty, .int .i64 x.st, .int .i64 x.df, .int .u8 x.body.op, .int .i64 x.body.n, .string x.body.name, .slice a x.body.args.length cap] 43 (0, 0)) := heap_alloc_new _ _
  have hm := hm (w.alloc (.cells #[.string x.name, .int .u8 x.ty, .int .i64 x.st, .int .i64 x.df, .int .u8 x.body.op, .int .i64 x.body.n, .string x.body.name, .slice a x.body.args.length cap] 43))
  have HM := Lib.hid hm
  have HK := Lib.hid hck
  clear hm hck
  unfold flBad at *
  generalize hmb : mayP st x.name x.ty x.st = b
  generalize hob : okE 32 200 x.body = r
  go_enter Tryz.func101, Tryz.ntmps101
  go_wp2_with fail
  generalize (w.alloc (.cells #[.string x.name, .int .u8 x.ty, .int .i64 x.st, .int .i64 x.df, .int .u8 x.body.op, .int .i64 x.body.n, .string x.body.name, .slice a x.body.args.length cap] 43)) = w0 at *
  refine HM.out.mono ?_
  rintro e w1 ⟨he, hE⟩
  rw [hmb] at he
  subst he
  have E1 := hE0.trans hE
  have xb1 := Ext.heap hE xb
  clear xb y0
  have x3 := blk_cell xb1 3
  have x4 := blk_cell xb1 4
  have x5 := blk_cell xb1 5
  have x6 := blk_cell xb1 6
  have x7 := blk_cell xb1 7
  simp only [List.getElem?_toArray, List.getElem?_cons_zero, List.getElem?_cons_succ] at x3 x4 x5 x6 x7
  cases b
  · go_wp2_with fail
    go_ret
    exact retV rfl E1
  · by_cases hd : x.df = -9223372036854775808
    · have hd2 : (x.df == -9223372036854775808) = true := by simpa using hd
      go_wp2_with fail
      go_ret
      exact retV (by simp [hd]) E1
    · have hd2 : (x.df == -9223372036854775808) = false := by simpa using hd
      go_wp2_with fail
      refine (HK.out _ E1).mono ?_
      rintro e w2 ⟨he, hE2⟩
      rw [hob] at he
      subst he
      go_wp2_with fail
      go_ret
      exact retV (by simp [hd]) (E1.trans hE2)
theorem sBad_one (s : ByteArray) (w : World) (hs : s.size ≤ maxLen) : Calls Tryz.prog 103 #[.string s] w (RetV (!nameP s) w) := by
  have hm := name_one s hs w
  generalize nameP s = b at *
  go_enter Tryz.func103, Tryz.ntmps103
  go_wp2_with fail
  refine hm.mono ?_
  rintro e w1 ⟨rfl, hE⟩
  go_wp2_with fail
  go_ret
  exact retV rfl hE

end Go.Proofs.YtgkbhonjodcakaaGreat
