/- What exprs.Refs answers. -/
import Derived.Test.YtjdficgejjkaoaaSet
import Derived.RangeFuncNested
import Derived.Laws.EntriesVeiled
namespace Go.Proofs.Ytjdficgejjkaoaa
open Go.RowKit
set_option linter.unusedVariables false

/-- What the closure writes. -/
def RfS (L : Nat) (sv : Value) (q : Nat) : Prop := q = L ∨ q = L + 1 ∨ sv.ownBlock = some q
/-- The closure's variables: the list, the set, itself. -/
def RfSt (w : World) (L : Nat) (l : List Rf) (sv : Value) : Prop := Boxed w L 47 sv ∧ Boxed w (L + 2) 103 (.map (some (L + 1))) ∧
  Boxed w (L + 3) 104 (.func (.func 50) #[] #[.pointer (some ⟨L + 2, 0, none⟩), .pointer (some ⟨L, 0, none⟩), .pointer (some ⟨L + 3, 0, none⟩)]) ∧ SetV w (L + 1) l.length l ∧ RfV w (L + 4) l sv
theorem boxed_chg {w w' : World} {B : Nat} {t : TypeId} {v : Value} {S : Nat → Prop} (h : Boxed w B t v) (hc : Chg S w w') (hS : ¬ S B) : Boxed w' B t v := hc.heap h hS
theorem RfSt.ext {w w' : World} {L : Nat} {l : List Rf} {sv : Value} (h : RfSt w L l sv) (hc : Ext w w') : RfSt w' L l sv :=
  ⟨boxed_chg h.1 hc (fun h => h), boxed_chg h.2.1 hc (fun h => h), boxed_chg h.2.2.1 hc (fun h => h), h.2.2.2.1.chg hc (fun h => h), h.2.2.2.2.chg hc (fun _ _ h => h)⟩
theorem chg_moreS {w w1 w2 : World} {S T : Nat → Prop} (h : Chg S w w1) (k : Chg T w1 w2) (hs : ∀ g, T g → S g ∨ w.heap.size ≤ g) : Chg S w w2 :=
  ⟨k.os.trans h.os, k.tape.trans h.tape, k.output.trans h.output, Nat.le_trans h.size k.size, fun q hq hn => by
    have := h.size
    exact (k.block q (by omega) (fun hs' => by rcases hs q hs' with h | h; exact hn h; omega)).trans (h.block q hq hn)⟩
theorem rfS_ge {b0 L b w : Nat} {sv : Value} (h : b0 ≤ L) (hv : ∀ k, sv.ownBlock = some k → L + 4 ≤ k ∧ k < w) (hb : RfS L sv b) : b0 ≤ b := by
  rcases hb with h1 | h1 | h1
  · omega
  · omega
  · have := (hv b h1).1; omega
theorem rfS_more {L W g : Nat} {sk sv : Value} (rG : ∀ g, sk.ownBlock = some g → sv.ownBlock = some g ∨ W < g) (hg : RfS L sk g) : RfS L sv g ∨ W ≤ g := by
  rcases hg with h | h | h
  · exact .inl (.inl h)
  · exact .inl (.inr (.inl h))
  · rcases rG g h with h | h
    · exact .inl (.inr (.inr h))
    · exact .inr (by omega)
theorem agoP_ok {op ago : Int} (h : isI64 ago) : isI64 (agoP op ago) := by
  unfold agoP
  split
  · unfold isI64 wrap64; omega
  · exact h
theorem RfV.snoc {w : World} {base : Nat} {l : List Rf} {r : Rf} {v : Value} (h : w.ownsRow base 29 2 v (l.length + 1) (l.flatMap rfC ++ rfC r)) : RfV w base (l ++ [r]) v := by
  unfold RfV
  rw [List.length_append, List.flatMap_append]
  simpa using h
theorem RfV.form1 {w : World} {base : Nat} {l : List Rf} {r : Rf} {v : Value} (h : RfV w base (l ++ [r]) v) : ∃ a cap, v = .slice a (l.length + 1) cap := by
  have := h.form
  simpa using this
def RetRf (w : World) (L : Nat) (sv : Value) (l : List Rf) (e : Ending) (w' : World) : Prop := ∃ u s', e = .returned u ∧ RfSt w' L l s' ∧ Chg (RfS L sv) w w' ∧ ∀ g, s'.ownBlock = some g → sv.ownBlock = some g ∨ w.heap.size ≤ g
/-- The closure's contract at x. -/
def ERf (x : Ex) : Prop := ∀ (xv : Value) (w0 w : World) (L : Nat) (l : List Rf) (sv : Value) (ago : Int), RdExV w0 0 false x.args xv → x.name.size ≤ maxLen → isI64 ago → Ext w0 w → w0.heap.size ≤ L → RfSt w L l sv → l.length + nodesE x ≤ 100000 →
  Calls Try.prog 50 #[.agg #[.int .u8 x.op, .int .i64 x.n, .string x.name, xv], .int .i64 ago, .pointer (some ⟨L + 2, 0, none⟩), .pointer (some ⟨L, 0, none⟩), .pointer (some ⟨L + 3, 0, none⟩)] w (RetRf w L sv (gthE l ago x))
set_option maxRecDepth 100000 in
set_option maxHeartbeats 4000000 in
theorem refs1_any : ∀ x, ERf x := by
  refine Ex.ind fun op n nm args ih => ?_
  intro xv w0 w L l sv ago hv0 hnm hago hE hbw hS hlen
  simp only [Ex.op, Ex.n, Ex.name, Ex.args] at *
  simp only [nodesE] at hlen
  obtain ⟨a, cap, rfl, hrest⟩ := hv0
  have hv0 : RdExV w0 0 false args (.slice a args.length cap) := ⟨a, cap, rfl, hrest⟩
  have hlen2 : args.length ≤ 9000000000000000000 := by have := hrest.1; unfold fitsR at this; omega
  clear hrest
  have HI := Lib.hid ih
  clear ih
  have hvlt := hS.2.2.2.2.lt
  have hLw := hS.1.lt
  have hGw := hS.2.2.1.lt
  have hsl := stepR_le l op nm ago
  have HL : Hid ((stepR l op nm ago).length + nodesL args ≤ 100000) := by show _ ≤ _; omega
  have WR := heap_alloc_new (w.alloc (.cells #[.int .u8 op, .int .i64 n, .string nm, .slice a args.length cap] 53)) (.cells #[.string nm, .int .i64 ago] 29)
  rw [World.size_alloc] at WR
  have WX := Ext.heap ((Chg.refl (fun _ => False) (w.alloc (.cells #[.int .u8 op, .int .i64 n, .string nm, .slice a args.length cap] 53))).alloc (.cells #[.string nm, .int .i64 ago] 29)) (heap_alloc_new w (.cells #[.int .u8 op, .int .i64 n, .string nm, .slice a args.length cap] 53))
  have WC : Chg (RfS L sv) w ((w.alloc (.cells #[.int .u8 op, .int .i64 n, .string nm, .slice a args.length cap] 53)).alloc (.cells #[.string nm, .int .i64 ago] 29)) := ((Chg.refl _ _).alloc _).alloc _
  have WS : RfSt ((w.alloc (.cells #[.int .u8 op, .int .i64 n, .string nm, .slice a args.length cap] 53)).alloc (.cells #[.string nm, .int .i64 ago] 29)) L l sv := hS.ext (((Chg.refl _ _).alloc _).alloc _)
  have hG0 : ∀ g, sv.ownBlock = some g → sv.ownBlock = some g ∨ w.heap.size < g := fun g h => .inl h
  by_cases h3 : op = 3
  · have b3 : (op == 3) = true := by simpa using h3
    have b19 : (op == 19) = false := by subst h3; rfl
    have hag : agoP op ago = ago := by subst h3; rfl
    have HA := Lib.hid hag
    have hst : stepR l op nm ago = if (l.any fun r => decide (r = (nm, ago))) = false then l ++ [(nm, ago)] else l := by
      unfold stepR
      by_cases hX : (l.any fun r => decide (r = (nm, ago))) = false
      · rw [if_pos ⟨h3, hX⟩, if_pos hX]
      · rw [if_neg (fun h => hX h.2), if_neg hX]
    have HST := Lib.hid hst
    clear hst hag h3
    have hlk := WS.2.2.2.1.look (r := (nm, ago)) ⟨hnm, hago⟩
    simp only [rfV] at hlk
    have yT := WS.2.1.cell
    cases hth : (l.any fun r => decide (r = (nm, ago)))
    · rw [hth] at hlk
      have hst : stepR l op nm ago = l ++ [(nm, ago)] := by rw [HST.out, if_pos hth]
      obtain ⟨w3, hput, S3, C3⟩ := WS.2.2.2.1.put (r := (nm, ago)) ⟨hnm, hago⟩ (by unfold maxLen; omega)
      simp only [rfV] at hput
      obtain ⟨va, vc, rfl⟩ := WS.2.2.2.2.form
      have hvl2 := WS.2.2.2.2.lt
      have X3 := C3.heap WX (fun h => by omega)
      have R3 := C3.heap WR (fun h => by omega)
      have B1 := boxed_chg WS.1 C3 (fun h => by omega)
      have B2 := boxed_chg WS.2.1 C3 (fun h => by omega)
      have B3 := boxed_chg WS.2.2.1 C3 (fun h => by omega)
      have V3 := WS.2.2.2.2.chg C3 (fun g hg h => by have := (hvl2 g hg).1; omega)
      have D3 : Chg (RfS L (.slice va l.length vc)) w w3 := WC.trans (C3.mono (fun _ _ h => .inr (.inl h)))
      have hw3 := D3.size
      obtain ⟨i0, hi, hz0, hz1, hz2⟩ := info_parts infoRf
      have HST2 := Lib.hid hst
      have HX3 := Lib.hid X3
      have HB1 := Lib.hid B1
      have HB2 := Lib.hid B2
      have HB3 := Lib.hid B3
      have HS3 := Lib.hid S3
      have HD3 := Lib.hid D3
      have yL := B1.cell
      have r0 := blk_cell R3 0
      have r1 := blk_cell R3 1
      have rr0 := blk_cell WR 0
      have rr1 := blk_cell WR 1
      simp only [List.getElem?_toArray, List.getElem?_cons_zero, List.getElem?_cons_succ] at r0 r1 rr0 rr1
      have hne : w.heap.size ≠ L := by omega
      have hne' : L ≠ w.heap.size := by omega
      clear hst WX WR WC WS X3 R3 B1 B2 B3 S3 D3 C3
      go_enter Try.func50, Try.ntmps50
      go_wp2_with (at_builtin; refine wpList_append_own_at _ rfl _ _ 47 rfl (L + 4) 29 i0 _ 2 24 Try.underlying47 hi hz0 hz1 hz2 rfl (by decide) _ _ _ rfl (World.ownsRow.alloc V3 _) ⟨w3.heap.size, 0, none⟩ 1 1 (rfC (nm, ago)) rfl rfl (cell_many_new _ _ _) (by simp [rfC, Value.oneCell']) (by unfold maxLen; omega) (by omega) (by simp; omega) ?_; intro v4 w4 hown4 hgrow4 _ hat4; have V4 := RfV.snoc hown4; obtain ⟨a4, c4, rfl⟩ := V4.form1; have X4 := Chg.heap (Chg.of_grownBy hgrow4) (Ext.heap ((Chg.refl _ _).alloc _) HX3.out) (fun h => by have := (hvlt _ h).2; omega); have B4 := boxed_chg (HB1.out.alloc _) (Chg.of_grownBy hgrow4) (fun h => by have := (hvlt _ h).1; omega); have y0 := blk_cell X4 0; have y3 := blk_cell X4 3; have yL4 := B4.cell; have gL4 := B4.frozen; simp only [List.getElem?_toArray, List.getElem?_cons_zero, List.getElem?_cons_succ] at y0 y3)
      have S5 : Chg (fun q => q = L) w4 (w4.setCell ⟨L, 0, none⟩ (.slice a4 (l.length + 1) c4)) := (Chg.refl (fun q => q = L) w4).setCell ⟨L, 0, none⟩ _ (.inl rfl)
      have D4 := Chg.of_grownBy hgrow4
      have B5 := Boxed.set (.slice a4 (l.length + 1) c4) B4
      have T5 := boxed_chg (boxed_chg (HB2.out.alloc _) D4 (fun h => by have := (hvlt _ h).1; omega)) S5 (fun h => by omega)
      have G5 := boxed_chg (boxed_chg (HB3.out.alloc _) D4 (fun h => by have := (hvlt _ h).1; omega)) S5 (fun h => by omega)
      have M5 := ((HS3.out.chg ((Chg.refl (fun _ => False) _).alloc _) (fun h => h)).chg D4 (fun h => by have := (hvlt _ h).1; omega)).chg S5 (fun h => by omega)
      have V5 := V4.chg S5 (fun g hg h => by have := (World.ownsRow.lt V4 g hg).1; omega)
      have hlen5 : (l ++ [(nm, ago)]).length = l.length + 1 := by simp
      have HV : Hid (RfSt (w4.setCell ⟨L, 0, none⟩ (.slice a4 (l.length + 1) c4)) L (stepR l op nm ago) (.slice a4 (l.length + 1) c4)) := by
        show RfSt _ _ _ _
        rw [HST2.out]
        exact ⟨B5, T5, G5, by rw [hlen5]; exact M5, V5⟩
      have hC5 : Chg (RfS L (.slice va l.length vc)) w (w4.setCell ⟨L, 0, none⟩ (.slice a4 (l.length + 1) c4)) := chg_moreS (chg_moreS (HD3.out.alloc _) D4 (fun g hg => .inl (.inr (.inr hg)))) S5 (fun g hg => .inl (.inl hg))
      have hX5 := S5.heap X4 (fun h => by omega)
      have HC := Lib.hid hC5
      have HX := Lib.hid hX5
      have HG : Hid (∀ g, (Value.slice a4 (l.length + 1) c4).ownBlock = some g → (Value.slice va l.length vc).ownBlock = some g ∨ w.heap.size < g) := fun g hg => by
        rcases hat4 with h | h
        · exact .inl (h ▸ hg)
        · right
          rw [hg] at h
          have : g = (w3.alloc (.cells (rfC (nm, ago)).toArray 29)).heap.size := by simpa using h
          rw [this, World.size_alloc]
          omega
      clear y0 y3 yL4 gL4 yL r0 r1 rr0 rr1 D4 B5 T5 G5 M5 V5 S5 X4 B4 V4 hC5 hX5 hown4 hgrow4 hat4 V3 hlk hput b3 b19 yT hth hG0
      generalize (w4.setCell ⟨L, 0, none⟩ (.slice a4 (l.length + 1) c4)) = W5 at *
      go_loopw [37] (fun i wr => ∃ (k : Nat) (lk : List Rf) (sk : Value), k ≤ args.length ∧ i = .int .i64 k ∧ RfSt wr L lk sk ∧ gthL (stepR l op nm ago) (agoP op ago) args = gthL lk (agoP op ago) (args.drop k) ∧ lk.length + nodesL (args.drop k) ≤ 100000 ∧
          wr.heap[w.heap.size]? = some (.cells #[.int .u8 op, .int .i64 n, .string nm, .slice a args.length cap] 53 (0, 0)) ∧ Chg (RfS L (Value.slice va l.length vc)) w wr ∧ (∀ g, sk.ownBlock = some g → (Value.slice va l.length vc).ownBlock = some g ∨ w.heap.size < g)) (fun i _ => args.length - (intOf i).toNat)
      case atStart => exact ⟨0, _, _, Nat.zero_le _, rfl, HV.out, rfl, by simpa using HL.out, HX.out, HC.out, HG.out⟩
      case round =>
        obtain ⟨k, lk, sk, hk, rfl, rV, hgl, hll, rX, rC, rG⟩ := hrel
        have HGL := Lib.hid hgl
        clear hgl
        have E1 := Ext.then hE rC (fun b hb => rfS_ge hbw hvlt hb)
        by_cases hlt : k < args.length
        · have hx := List.getElem?_eq_getElem hlt
          have hix := HI.out _ (List.getElem_mem hlt)
          obtain ⟨b, o, v0, rfl, _, hb, z0, z1, z2, z3, _, _, hxn, hvx⟩ := hv0.get hx
          have c0 := Ext.cell E1 z0
          have c1 := Ext.cell E1 z1
          have c2 := Ext.cell E1 z2
          have c3 := Ext.cell E1 z3
          clear z0 z1 z2 z3
          have hn1 := nodesL_at hx
          have hg1 : gthL lk (agoP op ago) (args.drop k) = gthL (gthE lk (agoP op ago) args[k]) (agoP op ago) (args.drop (k + 1)) := by rw [List.drop_eq_getElem_cons hlt]; simp only [gthL]
          have q1 : (k : Int) < (args.length : Int) := by omega
          generalize args[k] = x at *
          have hle := gthE_le x lk (agoP op ago)
          obtain ⟨a2, cap2, rfl, _⟩ := hvx.form
          have E2 : Ext w0 (wr.alloc (.cells #[.int .u8 x.op, .int .i64 x.n, .string x.name, .slice a2 x.args.length cap2] 53)) := E1.alloc _
          have rV2 : RfSt (wr.alloc (.cells #[.int .u8 x.op, .int .i64 x.n, .string x.name, .slice a2 x.args.length cap2] 53)) L lk sk := rV.ext ((Chg.refl _ _).alloc _)
          have hcall : ∀ a1 : Int, agoP op ago = a1 → Calls Try.prog 50 #[.agg #[.int .u8 x.op, .int .i64 x.n, .string x.name, .slice a2 x.args.length cap2], .int .i64 a1, .pointer (some ⟨L + 2, 0, none⟩), .pointer (some ⟨L, 0, none⟩), .pointer (some ⟨L + 3, 0, none⟩)]
              (wr.alloc (.cells #[.int .u8 x.op, .int .i64 x.n, .string x.name, .slice a2 x.args.length cap2] 53)) (RetRf (wr.alloc (.cells #[.int .u8 x.op, .int .i64 x.n, .string x.name, .slice a2 x.args.length cap2] 53)) L sk (gthE lk (agoP op ago) x)) := by
            rintro _ rfl
            exact hix _ w0 _ L lk sk (agoP op ago) hvx hxn (agoP_ok hago) E2 hbw rV2 (by omega)
          have HCa := Lib.hid hcall
          have HG1 := Lib.hid hg1
          have rX2 := Lib.hid rX
          have hsz := rC.size
          have hXl := lt_of_block rX
          have yG := rV2.2.2.1.cell
          have HrV := Lib.hid rV
          clear hcall hix hx hvx hg1 rX rV rV2
          go_wp2_with fail
          refine (HCa.out _ HA.out).mono ?_
          rintro e w4 ⟨u, s4, rfl, V4, C4, G4⟩
          have C5 : Chg (RfS L (Value.slice va l.length vc)) w w4 := chg_moreS (rC.alloc _) C4 (fun g hg => rfS_more rG hg)
          have X4 := C4.heap (Ext.heap ((Chg.refl _ _).alloc _) rX2.out) (fun h => by
            rcases h with h | h | h
            · omega
            · omega
            · rcases rG _ h with h | h
              · exact absurd (hvlt _ h).2 (by omega)
              · omega)
          have G5 : ∀ g, s4.ownBlock = some g → (Value.slice va l.length vc).ownBlock = some g ∨ w.heap.size < g := fun g hg => by
            rcases G4 g hg with h | h
            · exact rG g h
            · rw [World.size_alloc] at h
              exact .inr (by omega)
          have hG := Lib.hid (HGL.out.trans HG1.out)
          go_wp2_with fail
          go_roundw
          case rel => exact ⟨k + 1, _, s4, by omega, by go_num, V4, hG.out, by omega, X4, C5, G5⟩
          case measure => simp [intOf]; omega
        · obtain rfl : k = args.length := by omega
          have hG : gthE l ago (.mk op n nm args) = lk := by
            simp only [gthE]
            rw [HGL.out, List.drop_length]
            simp only [gthL]
          have HGG := Lib.hid hG
          clear hG
          go_wp2_with fail
          exact bodyPost_end (v := .tuple #[]) (by simp [results, Try.results50]) rfl ⟨_, sk, rfl, by rw [HGG.out]; exact rV, rC, fun g hg => (rG g hg).imp id (fun h => by omega)⟩
    · rw [hth] at hlk
      have hst : stepR l op nm ago = l := by rw [HST.out, if_neg (by rw [hth]; simp)]
      have HV : Hid (RfSt ((w.alloc (.cells #[.int .u8 op, .int .i64 n, .string nm, .slice a args.length cap] 53)).alloc (.cells #[.string nm, .int .i64 ago] 29)) L (stepR l op nm ago) sv) := by show RfSt _ _ _ _; rw [hst]; exact WS
      have HX := Lib.hid WX
      have HC := Lib.hid WC
      have HG := Lib.hid hG0
      clear hst hth WX WC hG0 WR WS
      go_enter Try.func50, Try.ntmps50
      go_wp2_with fail
      generalize ((w.alloc (.cells #[.int .u8 op, .int .i64 n, .string nm, .slice a args.length cap] 53)).alloc (.cells #[.string nm, .int .i64 ago] 29)) = W at *
      clear b3 b19 hlk yT
      go_loopw [37] (fun i wr => ∃ (k : Nat) (lk : List Rf) (sk : Value), k ≤ args.length ∧ i = .int .i64 k ∧ RfSt wr L lk sk ∧ gthL (stepR l op nm ago) (agoP op ago) args = gthL lk (agoP op ago) (args.drop k) ∧ lk.length + nodesL (args.drop k) ≤ 100000 ∧
          wr.heap[w.heap.size]? = some (.cells #[.int .u8 op, .int .i64 n, .string nm, .slice a args.length cap] 53 (0, 0)) ∧ Chg (RfS L sv) w wr ∧ (∀ g, sk.ownBlock = some g → sv.ownBlock = some g ∨ w.heap.size < g)) (fun i _ => args.length - (intOf i).toNat)
      case atStart => exact ⟨0, _, _, Nat.zero_le _, rfl, HV.out, rfl, by simpa using HL.out, HX.out, HC.out, HG.out⟩
      case round =>
        obtain ⟨k, lk, sk, hk, rfl, rV, hgl, hll, rX, rC, rG⟩ := hrel
        have HGL := Lib.hid hgl
        clear hgl
        have E1 := Ext.then hE rC (fun b hb => rfS_ge hbw hvlt hb)
        by_cases hlt : k < args.length
        · have hx := List.getElem?_eq_getElem hlt
          have hix := HI.out _ (List.getElem_mem hlt)
          obtain ⟨b, o, v0, rfl, _, hb, z0, z1, z2, z3, _, _, hxn, hvx⟩ := hv0.get hx
          have c0 := Ext.cell E1 z0
          have c1 := Ext.cell E1 z1
          have c2 := Ext.cell E1 z2
          have c3 := Ext.cell E1 z3
          clear z0 z1 z2 z3
          have hn1 := nodesL_at hx
          have hg1 : gthL lk (agoP op ago) (args.drop k) = gthL (gthE lk (agoP op ago) args[k]) (agoP op ago) (args.drop (k + 1)) := by rw [List.drop_eq_getElem_cons hlt]; simp only [gthL]
          have q1 : (k : Int) < (args.length : Int) := by omega
          generalize args[k] = x at *
          have hle := gthE_le x lk (agoP op ago)
          obtain ⟨a2, cap2, rfl, _⟩ := hvx.form
          have E2 : Ext w0 (wr.alloc (.cells #[.int .u8 x.op, .int .i64 x.n, .string x.name, .slice a2 x.args.length cap2] 53)) := E1.alloc _
          have rV2 : RfSt (wr.alloc (.cells #[.int .u8 x.op, .int .i64 x.n, .string x.name, .slice a2 x.args.length cap2] 53)) L lk sk := rV.ext ((Chg.refl _ _).alloc _)
          have hcall : ∀ a1 : Int, agoP op ago = a1 → Calls Try.prog 50 #[.agg #[.int .u8 x.op, .int .i64 x.n, .string x.name, .slice a2 x.args.length cap2], .int .i64 a1, .pointer (some ⟨L + 2, 0, none⟩), .pointer (some ⟨L, 0, none⟩), .pointer (some ⟨L + 3, 0, none⟩)]
              (wr.alloc (.cells #[.int .u8 x.op, .int .i64 x.n, .string x.name, .slice a2 x.args.length cap2] 53)) (RetRf (wr.alloc (.cells #[.int .u8 x.op, .int .i64 x.n, .string x.name, .slice a2 x.args.length cap2] 53)) L sk (gthE lk (agoP op ago) x)) := by
            rintro _ rfl
            exact hix _ w0 _ L lk sk (agoP op ago) hvx hxn (agoP_ok hago) E2 hbw rV2 (by omega)
          have HCa := Lib.hid hcall
          have HG1 := Lib.hid hg1
          have rX2 := Lib.hid rX
          have hsz := rC.size
          have hXl := lt_of_block rX
          have yG := rV2.2.2.1.cell
          have HrV := Lib.hid rV
          clear hcall hix hx hvx hg1 rX rV rV2
          go_wp2_with fail
          refine (HCa.out _ HA.out).mono ?_
          rintro e w4 ⟨u, s4, rfl, V4, C4, G4⟩
          have C5 : Chg (RfS L sv) w w4 := chg_moreS (rC.alloc _) C4 (fun g hg => rfS_more rG hg)
          have X4 := C4.heap (Ext.heap ((Chg.refl _ _).alloc _) rX2.out) (fun h => by
            rcases h with h | h | h
            · omega
            · omega
            · rcases rG _ h with h | h
              · exact absurd (hvlt _ h).2 (by omega)
              · omega)
          have G5 : ∀ g, s4.ownBlock = some g → sv.ownBlock = some g ∨ w.heap.size < g := fun g hg => by
            rcases G4 g hg with h | h
            · exact rG g h
            · rw [World.size_alloc] at h
              exact .inr (by omega)
          have hG := Lib.hid (HGL.out.trans HG1.out)
          go_wp2_with fail
          go_roundw
          case rel => exact ⟨k + 1, _, s4, by omega, by go_num, V4, hG.out, by omega, X4, C5, G5⟩
          case measure => simp [intOf]; omega
        · obtain rfl : k = args.length := by omega
          have hG : gthE l ago (.mk op n nm args) = lk := by
            simp only [gthE]
            rw [HGL.out, List.drop_length]
            simp only [gthL]
          have HGG := Lib.hid hG
          clear hG
          go_wp2_with fail
          exact bodyPost_end (v := .tuple #[]) (by simp [results, Try.results50]) rfl ⟨_, sk, rfl, by rw [HGG.out]; exact rV, rC, fun g hg => (rG g hg).imp id (fun h => by omega)⟩
  have hst : stepR l op nm ago = l := by simp [stepR, h3]
  have HV : Hid (RfSt ((w.alloc (.cells #[.int .u8 op, .int .i64 n, .string nm, .slice a args.length cap] 53)).alloc (.cells #[.string nm, .int .i64 ago] 29)) L (stepR l op nm ago) sv) := by show RfSt _ _ _ _; rw [hst]; exact WS
  have b3 : (op == 3) = false := by simpa using h3
  have HX := Lib.hid WX
  have HC := Lib.hid WC
  have HG := Lib.hid hG0
  clear hst WX WC hG0 WR WS h3
  by_cases h19 : op = 19
  · have hag : agoP op ago = wrap64 (ago + 1) := by subst h19; rfl
    have HA := Lib.hid hag
    have b19 : (op == 19) = true := by subst h19; rfl
    clear hag h19
    go_enter Try.func50, Try.ntmps50
    go_wp2_with fail
    generalize ((w.alloc (.cells #[.int .u8 op, .int .i64 n, .string nm, .slice a args.length cap] 53)).alloc (.cells #[.string nm, .int .i64 ago] 29)) = W at *
    clear b3 b19
    go_loopw [37] (fun i wr => ∃ (k : Nat) (lk : List Rf) (sk : Value), k ≤ args.length ∧ i = .int .i64 k ∧ RfSt wr L lk sk ∧ gthL (stepR l op nm ago) (agoP op ago) args = gthL lk (agoP op ago) (args.drop k) ∧ lk.length + nodesL (args.drop k) ≤ 100000 ∧
        wr.heap[w.heap.size]? = some (.cells #[.int .u8 op, .int .i64 n, .string nm, .slice a args.length cap] 53 (0, 0)) ∧ Chg (RfS L sv) w wr ∧ (∀ g, sk.ownBlock = some g → sv.ownBlock = some g ∨ w.heap.size < g)) (fun i _ => args.length - (intOf i).toNat)
    case atStart => exact ⟨0, _, _, Nat.zero_le _, rfl, HV.out, rfl, by simpa using HL.out, HX.out, HC.out, HG.out⟩
    case round =>
      obtain ⟨k, lk, sk, hk, rfl, rV, hgl, hll, rX, rC, rG⟩ := hrel
      have HGL := Lib.hid hgl
      clear hgl
      have E1 := Ext.then hE rC (fun b hb => rfS_ge hbw hvlt hb)
      by_cases hlt : k < args.length
      · have hx := List.getElem?_eq_getElem hlt
        have hix := HI.out _ (List.getElem_mem hlt)
        obtain ⟨b, o, v0, rfl, _, hb, z0, z1, z2, z3, _, _, hxn, hvx⟩ := hv0.get hx
        have c0 := Ext.cell E1 z0
        have c1 := Ext.cell E1 z1
        have c2 := Ext.cell E1 z2
        have c3 := Ext.cell E1 z3
        clear z0 z1 z2 z3
        have hn1 := nodesL_at hx
        have hg1 : gthL lk (agoP op ago) (args.drop k) = gthL (gthE lk (agoP op ago) args[k]) (agoP op ago) (args.drop (k + 1)) := by rw [List.drop_eq_getElem_cons hlt]; simp only [gthL]
        have q1 : (k : Int) < (args.length : Int) := by omega
        generalize args[k] = x at *
        have hle := gthE_le x lk (agoP op ago)
        obtain ⟨a2, cap2, rfl, _⟩ := hvx.form
        have E2 : Ext w0 (wr.alloc (.cells #[.int .u8 x.op, .int .i64 x.n, .string x.name, .slice a2 x.args.length cap2] 53)) := E1.alloc _
        have rV2 : RfSt (wr.alloc (.cells #[.int .u8 x.op, .int .i64 x.n, .string x.name, .slice a2 x.args.length cap2] 53)) L lk sk := rV.ext ((Chg.refl _ _).alloc _)
        have hcall : ∀ a1 : Int, agoP op ago = a1 → Calls Try.prog 50 #[.agg #[.int .u8 x.op, .int .i64 x.n, .string x.name, .slice a2 x.args.length cap2], .int .i64 a1, .pointer (some ⟨L + 2, 0, none⟩), .pointer (some ⟨L, 0, none⟩), .pointer (some ⟨L + 3, 0, none⟩)]
            (wr.alloc (.cells #[.int .u8 x.op, .int .i64 x.n, .string x.name, .slice a2 x.args.length cap2] 53)) (RetRf (wr.alloc (.cells #[.int .u8 x.op, .int .i64 x.n, .string x.name, .slice a2 x.args.length cap2] 53)) L sk (gthE lk (agoP op ago) x)) := by
          rintro _ rfl
          exact hix _ w0 _ L lk sk (agoP op ago) hvx hxn (agoP_ok hago) E2 hbw rV2 (by omega)
        have HCa := Lib.hid hcall
        have HG1 := Lib.hid hg1
        have rX2 := Lib.hid rX
        have hsz := rC.size
        have hXl := lt_of_block rX
        have yG := rV2.2.2.1.cell
        have HrV := Lib.hid rV
        clear hcall hix hx hvx hg1 rX rV rV2
        go_wp2_with fail
        refine (HCa.out _ HA.out).mono ?_
        rintro e w4 ⟨u, s4, rfl, V4, C4, G4⟩
        have C5 : Chg (RfS L sv) w w4 := chg_moreS (rC.alloc _) C4 (fun g hg => rfS_more rG hg)
        have X4 := C4.heap (Ext.heap ((Chg.refl _ _).alloc _) rX2.out) (fun h => by
          rcases h with h | h | h
          · omega
          · omega
          · rcases rG _ h with h | h
            · exact absurd (hvlt _ h).2 (by omega)
            · omega)
        have G5 : ∀ g, s4.ownBlock = some g → sv.ownBlock = some g ∨ w.heap.size < g := fun g hg => by
          rcases G4 g hg with h | h
          · exact rG g h
          · rw [World.size_alloc] at h
            exact .inr (by omega)
        have hG := Lib.hid (HGL.out.trans HG1.out)
        go_wp2_with fail
        go_roundw
        case rel => exact ⟨k + 1, _, s4, by omega, by go_num, V4, hG.out, by omega, X4, C5, G5⟩
        case measure => simp [intOf]; omega
      · obtain rfl : k = args.length := by omega
        have hG : gthE l ago (.mk op n nm args) = lk := by
          simp only [gthE]
          rw [HGL.out, List.drop_length]
          simp only [gthL]
        have HGG := Lib.hid hG
        clear hG
        go_wp2_with fail
        exact bodyPost_end (v := .tuple #[]) (by simp [results, Try.results50]) rfl ⟨_, sk, rfl, by rw [HGG.out]; exact rV, rC, fun g hg => (rG g hg).imp id (fun h => by omega)⟩
  · have hag : agoP op ago = ago := by simp [agoP, h19]
    have HA := Lib.hid hag
    have b19 : (op == 19) = false := by simpa using h19
    clear hag h19
    go_enter Try.func50, Try.ntmps50
    go_wp2_with fail
    generalize ((w.alloc (.cells #[.int .u8 op, .int .i64 n, .string nm, .slice a args.length cap] 53)).alloc (.cells #[.string nm, .int .i64 ago] 29)) = W at *
    clear b3 b19
    go_loopw [37] (fun i wr => ∃ (k : Nat) (lk : List Rf) (sk : Value), k ≤ args.length ∧ i = .int .i64 k ∧ RfSt wr L lk sk ∧ gthL (stepR l op nm ago) (agoP op ago) args = gthL lk (agoP op ago) (args.drop k) ∧ lk.length + nodesL (args.drop k) ≤ 100000 ∧
        wr.heap[w.heap.size]? = some (.cells #[.int .u8 op, .int .i64 n, .string nm, .slice a args.length cap] 53 (0, 0)) ∧ Chg (RfS L sv) w wr ∧ (∀ g, sk.ownBlock = some g → sv.ownBlock = some g ∨ w.heap.size < g)) (fun i _ => args.length - (intOf i).toNat)
    case atStart => exact ⟨0, _, _, Nat.zero_le _, rfl, HV.out, rfl, by simpa using HL.out, HX.out, HC.out, HG.out⟩
    case round =>
      obtain ⟨k, lk, sk, hk, rfl, rV, hgl, hll, rX, rC, rG⟩ := hrel
      have HGL := Lib.hid hgl
      clear hgl
      have E1 := Ext.then hE rC (fun b hb => rfS_ge hbw hvlt hb)
      by_cases hlt : k < args.length
      · have hx := List.getElem?_eq_getElem hlt
        have hix := HI.out _ (List.getElem_mem hlt)
        obtain ⟨b, o, v0, rfl, _, hb, z0, z1, z2, z3, _, _, hxn, hvx⟩ := hv0.get hx
        have c0 := Ext.cell E1 z0
        have c1 := Ext.cell E1 z1
        have c2 := Ext.cell E1 z2
        have c3 := Ext.cell E1 z3
        clear z0 z1 z2 z3
        have hn1 := nodesL_at hx
        have hg1 : gthL lk (agoP op ago) (args.drop k) = gthL (gthE lk (agoP op ago) args[k]) (agoP op ago) (args.drop (k + 1)) := by rw [List.drop_eq_getElem_cons hlt]; simp only [gthL]
        have q1 : (k : Int) < (args.length : Int) := by omega
        generalize args[k] = x at *
        have hle := gthE_le x lk (agoP op ago)
        obtain ⟨a2, cap2, rfl, _⟩ := hvx.form
        have E2 : Ext w0 (wr.alloc (.cells #[.int .u8 x.op, .int .i64 x.n, .string x.name, .slice a2 x.args.length cap2] 53)) := E1.alloc _
        have rV2 : RfSt (wr.alloc (.cells #[.int .u8 x.op, .int .i64 x.n, .string x.name, .slice a2 x.args.length cap2] 53)) L lk sk := rV.ext ((Chg.refl _ _).alloc _)
        have hcall : ∀ a1 : Int, agoP op ago = a1 → Calls Try.prog 50 #[.agg #[.int .u8 x.op, .int .i64 x.n, .string x.name, .slice a2 x.args.length cap2], .int .i64 a1, .pointer (some ⟨L + 2, 0, none⟩), .pointer (some ⟨L, 0, none⟩), .pointer (some ⟨L + 3, 0, none⟩)]
            (wr.alloc (.cells #[.int .u8 x.op, .int .i64 x.n, .string x.name, .slice a2 x.args.length cap2] 53)) (RetRf (wr.alloc (.cells #[.int .u8 x.op, .int .i64 x.n, .string x.name, .slice a2 x.args.length cap2] 53)) L sk (gthE lk (agoP op ago) x)) := by
          rintro _ rfl
          exact hix _ w0 _ L lk sk (agoP op ago) hvx hxn (agoP_ok hago) E2 hbw rV2 (by omega)
        have HCa := Lib.hid hcall
        have HG1 := Lib.hid hg1
        have rX2 := Lib.hid rX
        have hsz := rC.size
        have hXl := lt_of_block rX
        have yG := rV2.2.2.1.cell
        have HrV := Lib.hid rV
        clear hcall hix hx hvx hg1 rX rV rV2
        go_wp2_with fail
        refine (HCa.out _ HA.out).mono ?_
        rintro e w4 ⟨u, s4, rfl, V4, C4, G4⟩
        have C5 : Chg (RfS L sv) w w4 := chg_moreS (rC.alloc _) C4 (fun g hg => rfS_more rG hg)
        have X4 := C4.heap (Ext.heap ((Chg.refl _ _).alloc _) rX2.out) (fun h => by
          rcases h with h | h | h
          · omega
          · omega
          · rcases rG _ h with h | h
            · exact absurd (hvlt _ h).2 (by omega)
            · omega)
        have G5 : ∀ g, s4.ownBlock = some g → sv.ownBlock = some g ∨ w.heap.size < g := fun g hg => by
          rcases G4 g hg with h | h
          · exact rG g h
          · rw [World.size_alloc] at h
            exact .inr (by omega)
        have hG := Lib.hid (HGL.out.trans HG1.out)
        go_wp2_with fail
        go_roundw
        case rel => exact ⟨k + 1, _, s4, by omega, by go_num, V4, hG.out, by omega, X4, C5, G5⟩
        case measure => simp [intOf]; omega
      · obtain rfl : k = args.length := by omega
        have hG : gthE l ago (.mk op n nm args) = lk := by
          simp only [gthE]
          rw [HGL.out, List.drop_length]
          simp only [gthL]
        have HGG := Lib.hid hG
        clear hG
        go_wp2_with fail
        exact bodyPost_end (v := .tuple #[]) (by simp [results, Try.results50]) rfl ⟨_, sk, rfl, by rw [HGG.out]; exact rV, rC, fun g hg => (rG g hg).imp id (fun h => by omega)⟩
/-- What Refs answers: a list of one's own. -/
def RetRefs (w : World) (l : List Rf) (e : Ending) (w' : World) : Prop := ∃ v, e = .returned v ∧ RfV w' w.heap.size l v ∧ Ext w w'
theorem RfV.lower {w : World} {base base' : Nat} {l : List Rf} {v : Value} (h : RfV w base l v) (hb : base' ≤ base) : RfV w base' l v := by
  refine ⟨h.1, ?_⟩
  rcases h.2 with ⟨h0, h1⟩ | ⟨g, cap, cur, h1, h2, h3⟩
  · exact .inl ⟨h0, h1⟩
  · exact .inr ⟨g, cap, cur, h1, Nat.le_trans hb h2, h3⟩
set_option maxHeartbeats 4000000 in
/-- The document's Refs. -/
theorem refRefs_any (x : Ex) (v : Value) (w : World) (hv : RdExV w 0 false x.args v) (hlen : nodesE x ≤ 100000) :
    Calls Try.prog 37 #[.agg #[.int .u8 x.op, .int .i64 x.n, .string x.name, v]] w (RetRefs w (gthE [] 0 x)) := by
  have hc := gather_any x v w (w.alloc (.cells #[.int .u8 x.op, .int .i64 x.n, .string x.name, v] 53)) w.heap.size [] (.slice none 0 0) 0 hv ((Chg.refl _ _).alloc _) (Nat.le_refl _) (by simp) (RfV.nil _ _) (by simpa using hlen)
  obtain ⟨a, cap, rfl, _⟩ := hv.form
  have HC := Lib.hid hc
  clear hc hv
  generalize gthE [] 0 x = l at *
  have hE0 : Ext w (w.alloc (.cells #[.int .u8 x.op, .int .i64 x.n, .string x.name, .slice a x.args.length cap] 53)) := (Chg.refl _ _).alloc _
  go_enter Try.func37, Try.ntmps37
  go_wp2_with fail
  refine HC.out.mono ?_
  rintro e w1 ⟨v1, rfl, hV, hC, _⟩
  have E1 : Ext w w1 := hE0.trans (hC.mono (fun _ _ h => by cases h))
  go_wp2_with fail
  go_ret
  exact ⟨_, rfl, hV, E1⟩
/-- The world in which the closure is called. -/
def refsW (w : World) (cs : Array Value) : World := ((((w.alloc (.cells cs 53)).alloc (.cells #[.slice none 0 0] 47)).alloc (.map #[] 0)).alloc (.cells #[.map (some (w.heap.size + 1 + 1))] 103)).alloc
  (.cells #[.func (.func 50) #[] #[.pointer (some ⟨w.heap.size + 1 + 1 + 1, 0, none⟩), .pointer (some ⟨w.heap.size + 1, 0, none⟩), .pointer (some ⟨w.heap.size + 1 + 1 + 1 + 1, 0, none⟩)]] 104)
theorem refsW_ext (w : World) (cs : Array Value) : Ext w (refsW w cs) := (((((Chg.refl _ _).alloc _).alloc _).alloc _).alloc _).alloc _
theorem refsW_st (w : World) (cs : Array Value) : RfSt (refsW w cs) (w.heap.size + 1) [] (.slice none 0 0) := by
  unfold refsW
  refine ⟨?_, ?_, ?_, ?_, RfV.nil _ _⟩
  · have := Boxed.new (w.alloc (.cells cs 53)) 47 (.slice none 0 0)
    rw [World.size_alloc] at this
    exact ((this.alloc _).alloc _).alloc _
  · have := Boxed.new (((w.alloc (.cells cs 53)).alloc (.cells #[.slice none 0 0] 47)).alloc (.map #[] 0)) 103 (.map (some (w.heap.size + 1 + 1)))
    simp only [World.size_alloc] at this
    exact this.alloc _
  · have := Boxed.new ((((w.alloc (.cells cs 53)).alloc (.cells #[.slice none 0 0] 47)).alloc (.map #[] 0)).alloc (.cells #[.map (some (w.heap.size + 1 + 1))] 103)) 104
      (.func (.func 50) #[] #[.pointer (some ⟨w.heap.size + 1 + 1 + 1, 0, none⟩), .pointer (some ⟨w.heap.size + 1, 0, none⟩), .pointer (some ⟨w.heap.size + 1 + 1 + 1 + 1, 0, none⟩)])
    simp only [World.size_alloc] at this
    exact this
  · have := SetV.made ((w.alloc (.cells cs 53)).alloc (.cells #[.slice none 0 0] 47))
    simp only [World.size_alloc] at this
    exact (this.chg ((Chg.refl (fun _ => False) _).alloc _) (fun h => h)).chg ((Chg.refl (fun _ => False) _).alloc _) (fun h => h)
set_option maxHeartbeats 4000000 in
/-- exprs.Refs. -/
theorem refs_any (x : Ex) (v : Value) (w : World) (hv : RdExV w 0 false x.args v) (hnm : x.name.size ≤ maxLen) (hlen : nodesE x ≤ 100000) :
    Calls Try.prog 21 #[.agg #[.int .u8 x.op, .int .i64 x.n, .string x.name, v]] w (RetRefs w (gthE [] 0 x)) := by
  have hc := fun W (hE : Ext w W) (hS : RfSt W (w.heap.size + 1) [] (.slice none 0 0)) => refs1_any x v w W (w.heap.size + 1) [] (.slice none 0 0) 0 hv hnm (by unfold isI64; omega) hE (by omega) hS (by simpa using hlen)
  obtain ⟨a, cap, rfl, _⟩ := hv.form
  have hc2 := hc _ (refsW_ext w #[.int .u8 x.op, .int .i64 x.n, .string x.name, .slice a x.args.length cap]) (refsW_st w _)
  have E0 := refsW_ext w #[.int .u8 x.op, .int .i64 x.n, .string x.name, .slice a x.args.length cap]
  have HC := Lib.hid hc2
  clear hc hc2 hv
  generalize gthE [] 0 x = l at *
  have hmm := @run_makeMap Try.prog
  go_enter Try.func21, Try.ntmps21
  go_wp2_with fail
  refine HC.out.mono ?_
  rintro e w1 ⟨u, s1, rfl, hS, hC, _⟩
  have E1 : Ext w w1 := Ext.then E0 hC (fun b hb => by
    rcases hb with h | h | h
    · omega
    · omega
    · cases h)
  obtain ⟨a1, c1, rfl⟩ := hS.2.2.2.2.form
  have yL := hS.1.cell
  have gL := hS.1.frozen
  have E2 : Ext w (w1.setCell ⟨w.heap.size + 1, 0, none⟩ (.slice a1 l.length c1)) := E1.setCell _ _ (.inr (by show _ ≤ w.heap.size + 1; omega))
  have V2 : RfV (w1.setCell ⟨w.heap.size + 1, 0, none⟩ (.slice a1 l.length c1)) w.heap.size l (.slice a1 l.length c1) :=
    (hS.2.2.2.2.chg (S := fun q => q = w.heap.size + 1) ((Chg.refl _ w1).setCell ⟨w.heap.size + 1, 0, none⟩ _ (.inl rfl)) (fun g hg h => by have := (World.ownsRow.lt hS.2.2.2.2 g hg).1; omega)).lower (by omega)
  clear hS hC
  go_wp2_with fail
  refine bodyPost_ret (v := .slice a1 l.length c1) ?_ rfl ⟨_, rfl, V2, E2⟩
  simp [results, Try.results21, go_sem, yL]
end Go.Proofs.Ytjdficgejjkaoaa
