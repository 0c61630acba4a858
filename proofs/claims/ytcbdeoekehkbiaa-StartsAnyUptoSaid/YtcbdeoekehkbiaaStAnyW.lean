/- StartsAny answers true. -/
import Derived.Test.YtcbdeoekehkbiaaStAlive
import Derived.Test.YtcbdeoekehkbiaaStGreat
import Derived.Test.YtcbdeoekehkbiaaStAnyP
import Derived.Deep.Cut
import Derived.Deep.AppendLies
import Derived.Deep.RegionLaw
import Derived.Deep.RegionHeld3
namespace Go.Proofs.Ytcbdeoekehkbiaa
open Go.RowKit
set_option linter.unusedVariables false
set_option linter.unusedSimpArgs false

set_option maxRecDepth 100000 in
set_option maxHeartbeats 8000000 in
theorem startsAny_any (p : PrD) (cs : Array Value) (x : Ex) (cx : Array Value) (w : World) (h : RdPr w 0 false p cs) (hx : RdEx w 0 false x cx.toList) (hsz : sE x ≤ 1048576) : Calls Try.prog 7 #[.agg cs, .agg cx] w (RetT w) := by
  obtain ⟨v, hop, hn, hnm, hv, rfl⟩ : ∃ v, isU8 x.op ∧ isI64 x.n ∧ x.name.size ≤ maxLen ∧ RdExV w 0 false x.args v ∧ cx = #[.int .u8 x.op, .int .i64 x.n, .string x.name, v] := by
    obtain ⟨op, n, nm, args⟩ := x
    obtain ⟨v, e, h1, h2, h3, h4⟩ := hx.open
    exact ⟨v, h1, h2, h3, h4, by obtain ⟨l⟩ := cx; have e2 : l = [.int .u8 op, .int .i64 n, .string nm, v] := e; subst e2; rfl⟩
  clear hx
  have HP := Lib.hid h
  have HV := Lib.hid hv
  obtain ⟨a, cap, rfl, _⟩ := hv.form
  clear hv
  obtain ⟨ai, ci, af, cf, ao, co, rfl⟩ := pr_form h
  clear h
  have HA := Lib.hid stAlive_any
  go_enter Try.func7, Try.ntmps7
  go_wp2_with fail
  have e0 := (Chg.refl (fun _ => False) w).alloc (.cells #[.int .i64 p.st, .slice ai p.ins.length ci, .slice af p.flows.length cf, .slice ao p.outs.length co] 36)
  have bP := heap_alloc_new w (.cells #[.int .i64 p.st, .slice ai p.ins.length ci, .slice af p.flows.length cf, .slice ao p.outs.length co] 36)
  have bX := heap_alloc_new (w.alloc (.cells #[.int .i64 p.st, .slice ai p.ins.length ci, .slice af p.flows.length cf, .slice ao p.outs.length co] 36)) (.cells #[.int .u8 x.op, .int .i64 x.n, .string x.name, .slice a x.args.length cap] 25)
  rw [World.size_alloc] at bX
  have e1 := (Chg.refl (fun _ => False) (w.alloc (.cells #[.int .i64 p.st, .slice ai p.ins.length ci, .slice af p.flows.length cf, .slice ao p.outs.length co] 36))).alloc (.cells #[.int .u8 x.op, .int .i64 x.n, .string x.name, .slice a x.args.length cap] 25)
  have bP := Ext.heap e1 bP
  have e0 := e0.trans e1
  clear e1
  generalize ((w.alloc (.cells #[.int .i64 p.st, .slice ai p.ins.length ci, .slice af p.flows.length cf, .slice ao p.outs.length co] 36)).alloc (.cells #[.int .u8 x.op, .int .i64 x.n, .string x.name, .slice a x.args.length cap] 25)) = W0 at *
  have y0 : ∀ X, Ext W0 X → X.cell? ⟨w.heap.size, 0, none⟩ = some (.int .i64 p.st) := fun X hX => (blk_cell (Ext.heap hX bP) 0).trans rfl
  have y1 : ∀ X, Ext W0 X → X.cell? ⟨w.heap.size, 1, none⟩ = some (.slice ai p.ins.length ci) := fun X hX => (blk_cell (Ext.heap hX bP) 1).trans rfl
  have y2 : ∀ X, Ext W0 X → X.cell? ⟨w.heap.size, 2, none⟩ = some (.slice af p.flows.length cf) := fun X hX => (blk_cell (Ext.heap hX bP) 2).trans rfl
  have y3 : ∀ X, Ext W0 X → X.cell? ⟨w.heap.size, 3, none⟩ = some (.slice ao p.outs.length co) := fun X hX => (blk_cell (Ext.heap hX bP) 3).trans rfl
  have x0 : ∀ X, Ext W0 X → X.cell? ⟨w.heap.size + 1, 0, none⟩ = some (.int .u8 x.op) := fun X hX => (blk_cell (Ext.heap hX bX) 0).trans rfl
  have x1 : ∀ X, Ext W0 X → X.cell? ⟨w.heap.size + 1, 1, none⟩ = some (.int .i64 x.n) := fun X hX => (blk_cell (Ext.heap hX bX) 1).trans rfl
  have x2 : ∀ X, Ext W0 X → X.cell? ⟨w.heap.size + 1, 2, none⟩ = some (.string x.name) := fun X hX => (blk_cell (Ext.heap hX bX) 2).trans rfl
  have x3 : ∀ X, Ext W0 X → X.cell? ⟨w.heap.size + 1, 3, none⟩ = some (.slice a x.args.length cap) := fun X hX => (blk_cell (Ext.heap hX bX) 3).trans rfl
  have ed : ∀ X, Ext W0 X → Ext W0 X.drew := fun X hX => hX.drew
  have ea : ∀ X o, Ext W0 X → Ext W0 (X.alloc o) := fun X o hX => hX.alloc o
  refine (HA.out _).mono ?_
  rintro e w1 ⟨rfl, E1⟩
  have HG := Lib.hid (stGreat_any p _ _ (HP.out.ext (e0.trans E1)))
  go_wp2_with fail
  refine HG.out.mono ?_
  rintro e w2 ⟨b, rfl, E2'⟩
  have F2 := E1.trans E2'
  clear HG E2' E1
  cases b
  case true =>
    go_wp2_with fail
    refine (HA.out _).mono ?_
    rintro e w3 ⟨rfl, E3⟩
    go_wp2_with fail
    go_ret
    exact ⟨rfl, (e0.trans F2).trans E3⟩
  have HZ := Lib.hid (exprSizeB_any x _ w2 (HV.out.ext (e0.trans F2)) (by omega))
  go_wp2_with fail
  refine HZ.out.mono ?_
  rintro e w3 ⟨m, rfl, hm1, hm2, E3⟩
  have F4 := F2.trans E3
  clear HZ E3 F2
  by_cases hm : 20000 < m
  · have hmI : (20000 : Int) < (m : Int) := by omega
    clear hm2
    go_wp2_with fail
    refine (HA.out _).mono ?_
    rintro e w4 ⟨rfl, E4⟩
    go_wp2_with fail
    go_ret
    exact ⟨rfl, (e0.trans F4).trans E4⟩
  clear HA
  have hnd : nodesE x ≤ 20000 := by have := hm2 (by omega); omega
  have hmI : ¬ (20000 : Int) < (m : Int) := by omega
  have hnl := gthE_le x [] 0
  have HR := Lib.hid (fun (X : World) (hX : Ext w X) => refs_any x _ X (HV.out.ext hX) hnm (by omega))
  have HOp := Lib.hid (fun (X : World) (hX : Ext w X) => stOf_any p x _ _ X (HP.out.ext hX) (HV.out.ext hX) hnm)
  have HOq := Lib.hid (fun (q : PrD) (cq : Array Value) (X : World) (hX : Ext w X) (hq : RdPr X 0 false q cq) => stOf_any q x cq _ X hq (HV.out.ext hX) hnm)
  have HCE := Lib.hid (fun (X : World) (hX : Ext w X) => exCheck_any x _ X (HV.out.ext hX) hnm)
  have HLAW := Lib.hid (any_law p x)
  have HNM := Lib.hid (fun (r : Rf) (hr : r ∈ gthE [] 0 x) => Nat.le_trans (ref_size hr) hsz)
  have HFd := Lib.hid (fun (s : ByteArray) (X : World) (hX : Ext w X) => find_any p s _ X (HP.out.ext hX))
  generalize hL : gthE [] 0 x = L at *
  clear hL hm2 hm1 hm
  simp only [List.length_nil] at hnl
  have nL : L.length ≤ 20000 := by omega
  generalize okE 32 200 x = ok at *
  generalize stP p x = sp at *
  clear hnl
  go_wp2_with fail
  refine (HR.out _ (e0.trans F4)).mono ?_
  rintro e w5 ⟨sv, rfl, V5, E5⟩
  obtain ⟨ar, cr, rfl⟩ := V5.form
  have F5 := F4.trans E5
  clear HR E5 F4
  go_upto_region 5 with (fail)
  generalize hV : w5.alloc _ = V
  obtain ⟨sV, bV, eV⟩ := chain1 hV
  clear hV
  generalize hT : w5.heap.size = T at *
  have HT := Lib.hid hT
  clear hT
  have F6 := F5.trans eV
  obtain ⟨i0, hinf, hz0, hz1, hz2⟩ := info_parts infoFl
  go_wp2_with fail
  go_loopw [7, 8] (fun tv iv wr => ∃ (i : Nat) (a : Option Addr) (cap : Nat), i ≤ L.length ∧ tv = .bool (thereB p L i) ∧ iv = .int .i64 i ∧ wr.heap[T]? = some (.cells #[.int .i64 0, .slice none 0 0, .slice a i cap, .slice none 0 0] 36 (0, 0)) ∧ wr.ownsRow V.heap.size 50 8 (.slice a i cap) i (((L.take i).map refP).flatMap flP) ∧ Chg (fun q => q = T) V wr) (fun _ i _ => L.length - (intOf i).toNat)
  case atStart => exact ⟨0, none, 0, Nat.zero_le _, rfl, rfl, bV, World.ownsRow_nil _ _ _ _, Chg.refl _ _⟩
  case round =>
    obtain ⟨i, a1, cap1, hi, rfl, rfl, hb, hown, rC⟩ := hrel
    have hsV := rC.size
    have rE : Ext W0 wr := Ext.then F6 rC (fun b hb => by have := F5.size; have := HT.out; omega)
    have r5 : Ext w5 wr := Ext.then eV rC (fun b hb => by have := HT.out; omega)
    by_cases hlt : i < L.length
    · have hr := List.getElem?_eq_getElem hlt
      obtain ⟨gr, rfl, c0, c1⟩ := V5.get hr
      have hq : (i : Int) < (L.length : Int) := by omega
      have hst := Lib.hid (thereB_step (p := p) hr)
      have hrs := HNM.out _ (List.getElem_mem hlt)
      have htk := Lib.hid (List.take_succ_eq_append_getElem hlt)
      generalize L[i] = r at *
      have l0 : ∀ X, Ext w5 X → X.cell? ⟨gr, i * 2, none⟩ = some (.string r.1) := fun X hX => Ext.cell hX c0
      have hl0 := l0 wr r5
      have t2 : wr.cell? ⟨T, 2, none⟩ = some (.slice a1 i cap1) := (blk_cell hb 2).trans rfl
      have f2 : wr.frozen? ⟨T, 2, none⟩ = false := blk_free hb 2
      have hnb : (wr.alloc (.cells #[.string r.1, .int .u8 0, .int .i64 0, .int .i64 0, .int .u8 0, .int .i64 0, .string ⟨#[]⟩, .slice none 0 0] 50)).drew.heap[wr.heap.size]? = some (.cells #[.string r.1, .int .u8 0, .int .i64 0, .int .i64 0, .int .u8 0, .int .i64 0, .string ⟨#[]⟩, .slice none 0 0] 50 (0, 0)) := heap_alloc_new wr _
      have hnews := World.news_of_block hnb
      have hown4 : (wr.alloc (.cells #[.string r.1, .int .u8 0, .int .i64 0, .int .i64 0, .int .u8 0, .int .i64 0, .string ⟨#[]⟩, .slice none 0 0] 50)).drew.ownsRow V.heap.size 50 8 (.slice a1 i cap1) i (((L.take i).map refP).flatMap flP) := World.ownsRow.alloc hown _
      have eA : Ext wr (wr.alloc (.cells #[.string r.1, .int .u8 0, .int .i64 0, .int .i64 0, .int .u8 0, .int .i64 0, .string ⟨#[]⟩, .slice none 0 0] 50)).drew := ((Chg.refl _ _).alloc _).drew
      have hbA := Ext.heap eA hb
      have hTV : T < V.heap.size := lt_of_block bV
      have hlay : ∀ (X' : World), (wr.alloc (.cells #[.string r.1, .int .u8 0, .int .i64 0, .int .i64 0, .int .u8 0, .int .i64 0, .string ⟨#[]⟩, .slice none 0 0] 50)).drew.grownBy X' (Value.slice a1 i cap1).ownBlock → X'.heap[T]? = some (.cells #[.int .i64 0, .slice none 0 0, .slice a1 i cap1, .slice none 0 0] 36 (0, 0)) ∧ X'.cell? ⟨T, 2, none⟩ = some (.slice a1 i cap1) ∧ X'.frozen? ⟨T, 2, none⟩ = false := fun X' hg => by
        have h := (Chg.of_grownBy hg).heap hbA (fun h => by have := (World.ownsRow.lt hown4 T h).1; omega)
        exact ⟨h, (blk_cell h 2).trans rfl, blk_free h 2⟩
      have hsz4 : (wr.alloc (.cells #[.string r.1, .int .u8 0, .int .i64 0, .int .i64 0, .int .u8 0, .int .i64 0, .string ⟨#[]⟩, .slice none 0 0] 50)).drew.heap.size = wr.heap.size + 1 := by show (wr.alloc _).heap.size = _; simp
      have tA : (wr.alloc (.cells #[.string r.1, .int .u8 0, .int .i64 0, .int .i64 0, .int .u8 0, .int .i64 0, .string ⟨#[]⟩, .slice none 0 0] 50)).cell? ⟨T, 2, none⟩ = some (.slice a1 i cap1) := (blk_cell (Ext.heap ((Chg.refl _ _).alloc _) hb) 2).trans rfl
      have fA : (wr.alloc (.cells #[.string r.1, .int .u8 0, .int .i64 0, .int .i64 0, .int .u8 0, .int .i64 0, .string ⟨#[]⟩, .slice none 0 0] 50)).frozen? ⟨T, 2, none⟩ = false := blk_free (Ext.heap ((Chg.refl _ _).alloc _) hb) 2
      have lA : (wr.alloc (.cells #[.string r.1, .int .u8 0, .int .i64 0, .int .i64 0, .int .u8 0, .int .i64 0, .string ⟨#[]⟩, .slice none 0 0] 50)).cell? ⟨gr, i * 2, none⟩ = some (.string r.1) := l0 _ (r5.alloc _)
      clear hr c0 c1 hnb hbA
      go_wp2_with fail
      go_region_law (refine step_append_lies _ (by rfl) _ _ 33 (by rfl) V.heap.size 50 i0 _ 8 96 Try.underlying33 hinf hz0 hz1 hz2 rfl (by decide) _ _ _ (by rfl) hown4 ⟨wr.heap.size, 0, none⟩ 1 1 #[.string r.1, .int .u8 0, .int .i64 0, .int .i64 0, .int .u8 0, .int .i64 0, .string ⟨#[]⟩, .slice none 0 0].toList (by rfl) rfl hnews (by simp [Value.oneCell']) (by decide) (by unfold maxLen; omega) (by omega) (by omega) (wr.heap.size + 1) hsz4 ?_; intro g6 cap6 w7 hown6 hgrow6 hat6 hlt6; obtain ⟨U7, u7, g7⟩ := hlay _ hgrow6)
      all_goals (
        have hg6 : g6 ≠ T := by have := (World.ownsRow.lt hown6 g6 rfl).1; omega
        have C7 : Chg (fun q => q = T) V w7 := chg_moreS (chg_moreS rC eA (fun _ h => h.elim)) (Chg.of_grownBy hgrow6) (fun g h => .inr (World.ownsRow.lt hown4 g h).1)
        have C8 := C7.setCell ⟨T, 2, none⟩ (.slice (some ⟨g6, 0, none⟩) (i + 1) cap6) (.inl (Eq.refl T))
        have O8 := ownsRow_chg hown6 (Chg.setCell (Chg.refl (fun q => q = T) w7) ⟨T, 2, none⟩ (.slice (some ⟨g6, 0, none⟩) (i + 1) cap6) (.inl rfl)) (fun h => hg6 h)
        have U8 := blk_set U7 2 (.slice (some ⟨g6, 0, none⟩) (i + 1) cap6)
        have U8 : (w7.setCell ⟨T, 2, none⟩ (.slice (some ⟨g6, 0, none⟩) (i + 1) cap6)).heap[T]? = some (.cells #[.int .i64 0, .slice none 0 0, .slice (some ⟨g6, 0, none⟩) (i + 1) cap6, .slice none 0 0] 36 (0, 0)) := U8
        clear C7 U7 u7 g7 hgrow6 hown6 hat6 hlt6 hlay hnews hown4 hown hsz4 f2 t2 eA hl0 hb tA fA lA
        generalize (w7.setCell ⟨T, 2, none⟩ (.slice (some ⟨g6, 0, none⟩) (i + 1) cap6)) = W8 at *
        have F8 : Ext W0 W8 := Ext.then F6 C8 (fun b hb => by have := F5.size; have := HT.out; omega)
        have L8 : Ext w5 W8 := Ext.then eV C8 (fun b hb => by have := HT.out; omega)
        have s0 : ∀ X, Ext W8 X → X.cell? ⟨w.heap.size, 0, none⟩ = some (.int .i64 p.st) := fun X hX => y0 X (F8.trans hX)
        have s1 : ∀ X, Ext W8 X → X.cell? ⟨w.heap.size, 1, none⟩ = some (.slice ai p.ins.length ci) := fun X hX => y1 X (F8.trans hX)
        have s2 : ∀ X, Ext W8 X → X.cell? ⟨w.heap.size, 2, none⟩ = some (.slice af p.flows.length cf) := fun X hX => y2 X (F8.trans hX)
        have s3 : ∀ X, Ext W8 X → X.cell? ⟨w.heap.size, 3, none⟩ = some (.slice ao p.outs.length co) := fun X hX => y3 X (F8.trans hX)
        have s4 : ∀ X, Ext W8 X → X.cell? ⟨gr, i * 2, none⟩ = some (.string r.1) := fun X hX => l0 X (L8.trans hX)
        have HF := Lib.hid (HFd.out r.1 W8.drew (e0.trans F8.drew))
        unfold RetFind fourV at HF
        generalize findP r.1 p.flows p.ins = fq at *
        obtain ⟨fa, fb, fc, fd⟩ := fq
        simp only at HF hst
        have G0 : Ext W8 W8.drew := (Chg.refl _ _).drew
        clear y0 y1 y2 y3 l0 x0 x1 x2 x3
        go_wp2_with fail
        go_region_held3 (fun X => Ext W8 X) (first | assumption)
          (first
            | (go_at_call 27; refine HF.out.mono ?_; rintro e w9 ⟨rfl, E9⟩; have G9 := G0.trans E9))
        have hn1 : thereB p L (i + 1) = (thereB p L i && fd) := hst.out
        have H1 := Lib.hid hn1
        have H2 := Lib.hid (Ext.heap G9 U8)
        have O9 : w9.ownsRow V.heap.size 50 8 (.slice (some ⟨g6, 0, none⟩) (i + 1) cap6) (i + 1) (((L.take (i + 1)).map refP).flatMap flP) := by
          rw [htk.out, List.map_append, List.flatMap_append]
          exact ownsRow_ext O8 G9
        have H3 := Lib.hid O9
        have H4 := Lib.hid (C8.trans (G9.mono (fun _ _ h => h.elim)))
        clear hn1 O9 O8 U8 hst htk
        generalize thereB p L i = bt at *
        generalize hbt : thereB p L (i + 1) = bt2 at *
        have H5 := Lib.hid hbt
        clear hbt
        cases bt
        · go_wp2_with fail
          go_roundw
          case rel => exact ⟨i + 1, _, _, by omega, by rw [H5.out, H1.out]; rfl, by go_num, H2.out, H3.out, H4.out⟩
          case measure => simp [intOf]; omega
        · go_wp2_with fail
          go_roundw
          case rel => exact ⟨i + 1, _, _, by omega, by rw [H5.out, H1.out]; rfl, by go_num, H2.out, H3.out, H4.out⟩
          case measure => simp [intOf]; omega)
    · obtain rfl : i = L.length := by omega
      rw [List.take_length] at hown
      have HQ := Lib.hid (any_rd hown (fun r hr => by have := HNM.out r hr; unfold maxLen; omega) (by omega))
      have hT := hb
      have u0 : ∀ X, Ext wr X → X.cell? ⟨T, 0, none⟩ = some (.int .i64 0) := fun X hX => (blk_cell (Ext.heap hX hb) 0).trans rfl
      have u1 : ∀ X, Ext wr X → X.cell? ⟨T, 1, none⟩ = some (.slice none 0 0) := fun X hX => (blk_cell (Ext.heap hX hb) 1).trans rfl
      have u2 : ∀ X, Ext wr X → X.cell? ⟨T, 2, none⟩ = some (.slice a1 L.length cap1) := fun X hX => (blk_cell (Ext.heap hX hb) 2).trans rfl
      have u3 : ∀ X, Ext wr X → X.cell? ⟨T, 3, none⟩ = some (.slice none 0 0) := fun X hX => (blk_cell (Ext.heap hX hb) 3).trans rfl
      have HRE := Lib.hid (e0.trans rE)
      clear hown hb hT V5 HFd HNM
      obtain ⟨LA, LB⟩ := HLAW.out
      have HO1 := Lib.hid (HOp.out wr HRE.out)
      generalize ofE x = oe at *
      generalize thereB p L L.length = bt at *
      obtain ⟨sp1, sp2⟩ := sp
      unfold RetSt at HO1
      go_wp2_with fail
      refine HO1.out.mono ?_
      rintro e w6 ⟨rfl, E6⟩
      have R6 := rE.trans E6
      have HO2 := Lib.hid (HOq.out (anyP L) _ w6 (e0.trans R6) (HQ.out.ext E6))
      unfold RetSt at HO2
      generalize stP (anyP L) x = sq at *
      obtain ⟨sq1, sq2⟩ := sq
      simp only at HO2
      go_wp2_with fail
      refine HO2.out.mono ?_
      rintro e w7 ⟨rfl, E7⟩
      have R7 := R6.trans E7
      go_wp2_with fail
      refine (HCE.out _ (e0.trans R7)).mono ?_
      rintro e w8 ⟨rfl, E8⟩
      have R8 := R7.trans E8
      cases ok
      · obtain ⟨e1, e2⟩ := LA rfl
        simp only [Prod.mk.injEq] at e1 e2
        obtain ⟨rfl, rfl⟩ := e1
        obtain ⟨rfl, rfl⟩ := e2
        clear LB
        go_wp2_with fail
        go_ret
        exact ⟨rfl, e0.trans R8⟩
      · obtain ⟨e2, e1⟩ := LB rfl
        simp only [Prod.mk.injEq] at e2
        obtain ⟨rfl, rfl⟩ := e2
        clear LA
        have hself : ∀ z : Int, (z == z) = true := fun z => by simp
        cases bt
        · rw [if_neg (by simp)] at e1
          simp only [Prod.mk.injEq] at e1
          obtain ⟨rfl, rfl⟩ := e1
          go_wp2_with fail
          go_ret
          exact ⟨rfl, e0.trans R8⟩
        · rw [if_pos rfl] at e1
          simp only [Prod.mk.injEq] at e1
          obtain ⟨rfl, rfl⟩ := e1
          go_wp2_with fail
          go_ret
          exact ⟨rfl, e0.trans R8⟩
end Go.Proofs.Ytcbdeoekehkbiaa
