/- NamesLess answers true. -/
import Derived.Test.YtgdlocjocjamgaaLessP
import Derived.Test.YtgdlocjocjamgaaRowF
import Derived.Deep.AppendLies
import Derived.Deep.RegionLaw
import Derived.Deep.RegionHeld3
import Derived.Deep.Cut
import Derived.Test.YtgdlocjocjamgaaTwinP
namespace Go.Proofs.Ytgdlocjocjamgaa
open Go.RowKit
set_option linter.unusedVariables false
set_option linter.unusedSimpArgs false

set_option maxRecDepth 100000 in
set_option maxHeartbeats 4000000 in
theorem namesLess_any (p : PrD) (cs : Array Value) (kk : Int) (w : World) (h : RdPr w 0 false p cs) (hkk : isU8 kk) : Calls Try.prog 6 #[.agg cs, .int .u8 kk] w (RetT w) := by
  have H := Lib.hid h
  have hfull := h
  obtain ⟨vi, vf, vo, rfl, hst, hi, hf, ho⟩ := h
  obtain ⟨ai, ci, rfl, ri⟩ := hi
  obtain ⟨af, cf, rfl, rf⟩ := hf
  obtain ⟨ao, co, rfl, ro⟩ := ho
  have HF := Lib.hid (show RdFlV w 0 false p.flows (.slice af p.flows.length cf) from ⟨_, _, rfl, rf⟩)
  have h96 := rf.1
  unfold fitsR at h96
  clear ri rf ro
  have e0 : Ext w (w.alloc (.cells #[.int .i64 p.st, .slice ai p.ins.length ci, .slice af p.flows.length cf, .slice ao p.outs.length co] 26)) := (Chg.refl _ _).alloc _
  have xb := heap_alloc_new w (.cells #[.int .i64 p.st, .slice ai p.ins.length ci, .slice af p.flows.length cf, .slice ao p.outs.length co] 26)
  have HA := Lib.hid alive_any
  go_enter Try.func6, Try.ntmps6
  go_wp2_with fail
  generalize (w.alloc (.cells #[.int .i64 p.st, .slice ai p.ins.length ci, .slice af p.flows.length cf, .slice ao p.outs.length co] 26)) = W0 at *
  have y0 : ∀ X, Ext W0 X → X.cell? ⟨w.heap.size, 0, none⟩ = some (.int .i64 p.st) := fun X hX => (blk_cell (Ext.heap hX xb) 0).trans rfl
  have y1 : ∀ X, Ext W0 X → X.cell? ⟨w.heap.size, 1, none⟩ = some (.slice ai p.ins.length ci) := fun X hX => (blk_cell (Ext.heap hX xb) 1).trans rfl
  have y2 : ∀ X, Ext W0 X → X.cell? ⟨w.heap.size, 2, none⟩ = some (.slice af p.flows.length cf) := fun X hX => (blk_cell (Ext.heap hX xb) 2).trans rfl
  have y3 : ∀ X, Ext W0 X → X.cell? ⟨w.heap.size, 3, none⟩ = some (.slice ao p.outs.length co) := fun X hX => (blk_cell (Ext.heap hX xb) 3).trans rfl
  have ed : ∀ X, Ext W0 X → Ext W0 X.drew := fun X hX => hX.drew
  have ea : ∀ X o, Ext W0 X → Ext W0 (X.alloc o) := fun X o hX => hX.alloc o
  refine (HA.out _).mono ?_
  rintro e w1 ⟨rfl, E1⟩
  have HG := Lib.hid (great_any p _ _ (H.out.ext (e0.trans E1)))
  go_wp2_with fail
  refine HG.out.mono ?_
  rintro e w2 ⟨b, rfl, E2'⟩
  have E2 := E1.trans E2'
  clear HG E2'
  cases b
  case true =>
    go_wp2_with fail
    refine (HA.out _).mono ?_
    rintro e w3 ⟨rfl, E3⟩
    go_wp2_with fail
    go_ret
    exact ⟨rfl, (e0.trans E2).trans E3⟩
  have HC := Lib.hid (nCheck_any p _ _ (H.out.ext (e0.trans E2)))
  go_wp2_with fail
  refine HC.out.mono ?_
  rintro e w3 ⟨rfl, E3'⟩
  have E3 := E2.trans E3'
  clear HC E3'
  by_cases hn : namesP p = 0
  case neg =>
    have bn : (namesP p != 0) = true := by simpa using hn
    generalize namesP p = n at *
    clear hn
    go_wp2_with fail
    refine (HA.out _).mono ?_
    rintro e w4 ⟨rfl, E4⟩
    go_wp2_with fail
    go_ret
    exact ⟨rfl, (e0.trans E3).trans E4⟩
  have HN := Lib.hid hn
  rw [hn]
  clear HA hn E1 E2
  have HT := Lib.hid (twinProg_any p _ w3 (H.out.ext (e0.trans E3)))
  go_wp2_with fail
  refine HT.out.mono ?_
  rintro e w4 ⟨vi, vf, vo, ps, rfl, ht⟩
  obtain ⟨ti, di, rfl, _⟩ : ∃ ti di, vi = .slice ti p.ins.length di ∧ True := by obtain ⟨g, _, h, _⟩ := ht.ins.block; exact ⟨_, _, h, trivial⟩
  obtain ⟨to_, do_, rfl, _⟩ : ∃ ti di, vo = .slice ti p.outs.length di ∧ True := by obtain ⟨g, _, h, _⟩ := ht.outs.block; exact ⟨_, _, h, trivial⟩
  obtain ⟨tf, df, rfl, _⟩ : ∃ ti di, vf = .slice ti p.flows.length di ∧ True := by obtain ⟨g, _, h, _⟩ := ht.flows.block; exact ⟨_, _, h, trivial⟩
  have hrd := ht.rd (H.out.ext (e0.trans E3))
  obtain ⟨_, _, _, eq, q1, q2, q3, _⟩ := hrd
  simp only [Array.mk.injEq, List.cons.injEq, and_true, true_and] at eq
  obtain ⟨rfl, rfl, rfl⟩ := eq
  have HQ0 := Lib.hid (fun (X : World) (hX : Ext w4 X) => ((⟨_, _, _, rfl, q1, (q2.plain.lower (Nat.zero_le _)).ext hX, (q3.plain.lower (Nat.zero_le _)).ext hX, ⟨none, 0, rfl, by simp [fitsR, lessO], Nat.zero_le _, Nat.zero_le _, fun i x hx => by simp [lessO] at hx, fun h => by cases h⟩⟩) : RdPr X 0 false (lessO p) #[.int .i64 p.st, .slice ti p.ins.length di, .slice tf p.flows.length df, .slice none 0 0]))
  have hCq := fun X hX => nCheck_any (lessO p) _ X (HQ0.out X hX)
  rw [lessO_ok HN.out] at hCq
  have HCQ := Lib.hid hCq
  have E4 := E3.trans ht.ext
  clear ht HT q1 q2 q3 hCq E3
  go_wp2_with fail
  generalize hV : w4.alloc _ = V
  obtain ⟨sV, bV, eV⟩ := chain1 hV
  clear hV
  refine (HCQ.out _ eV).mono ?_
  rintro e w5 ⟨rfl, E5⟩
  have F5 := (E4.trans eV).trans E5
  have z0 : ∀ X, Ext V X → X.cell? ⟨w4.heap.size, 0, none⟩ = some (.int .i64 p.st) := fun X hX => (blk_cell (Ext.heap hX bV) 0).trans rfl
  have z1 : ∀ X, Ext V X → X.cell? ⟨w4.heap.size, 1, none⟩ = some (.slice ti p.ins.length di) := fun X hX => (blk_cell (Ext.heap hX bV) 1).trans rfl
  have z2 : ∀ X, Ext V X → X.cell? ⟨w4.heap.size, 2, none⟩ = some (.slice tf p.flows.length df) := fun X hX => (blk_cell (Ext.heap hX bV) 2).trans rfl
  have z3 : ∀ X, Ext V X → X.cell? ⟨w4.heap.size, 3, none⟩ = some (.slice none 0 0) := fun X hX => (blk_cell (Ext.heap hX bV) 3).trans rfl
  by_cases hl : p.flows.length = 0
  case pos =>
    have hl' : ((p.flows.length : Int) == 0) = true := by simp [hl]
    have HL := Lib.hid hl
    clear hl
    go_wp2_with fail
    refine (HCQ.out _ (eV.trans E5)).mono ?_
    rintro e w6 ⟨rfl, E6⟩
    go_wp2_with fail
    go_ret
    exact ⟨rfl, (e0.trans F5).trans E6⟩
  have hl' : ((p.flows.length : Int) == 0) = false := by simp [hl]
  have hp : 0 < p.flows.length := by omega
  have hp' : 0 < (p.flows.length : Int) := by omega
  clear hl
  obtain ⟨hk0, hk1⟩ := hkk
  have m1 := Int.emod_nonneg kk (show (p.flows.length : Int) ≠ 0 by omega)
  have m2 := Int.emod_lt_of_pos kk hp'
  obtain ⟨k, hk⟩ : ∃ k : Nat, kk % (p.flows.length : Int) = k := ⟨_, Int.eq_ofNat_of_zero_le m1 |>.choose_spec⟩
  have hkl : k < p.flows.length := by omega
  have hkt : (kk % (p.flows.length : Int)).toNat = k := by omega
  have HK := Lib.hid hk
  clear hk
  obtain ⟨x, hx⟩ : ∃ x, p.flows[k]? = some x := ⟨_, List.getElem?_eq_getElem hkl⟩
  have HX := Lib.hid hx
  obtain ⟨_, _, e, _, _, _, hr, _⟩ := HF.out
  simp only [Value.slice.injEq, true_and] at e
  obtain ⟨rfl, rfl⟩ := e
  obtain ⟨hnm, _, _, _, b, o, rfl, _, hlt2, c0, c1, c2, c3, _, _, hbn, v, hvx, c4, c5, c6, c7⟩ := hr k _ hx
  obtain ⟨va, vc, rfl, _⟩ := hvx.form
  have d0 : ∀ X, Ext W0 X → X.cell? ⟨b, o + k * 8, none⟩ = _ := fun X hX => Ext.cell (e0.trans hX) c0
  have d1 : ∀ X, Ext W0 X → X.cell? ⟨b, o + k * 8 + 1, none⟩ = _ := fun X hX => Ext.cell (e0.trans hX) c1
  have d2 : ∀ X, Ext W0 X → X.cell? ⟨b, o + k * 8 + 2, none⟩ = _ := fun X hX => Ext.cell (e0.trans hX) c2
  have d3 : ∀ X, Ext W0 X → X.cell? ⟨b, o + k * 8 + 3, none⟩ = _ := fun X hX => Ext.cell (e0.trans hX) c3
  have d4 : ∀ X, Ext W0 X → X.cell? ⟨b, o + k * 8 + 4, none⟩ = _ := fun X hX => Ext.cell (e0.trans hX) c4
  have d5 : ∀ X, Ext W0 X → X.cell? ⟨b, o + k * 8 + 5, none⟩ = _ := fun X hX => Ext.cell (e0.trans hX) c5
  have d6 : ∀ X, Ext W0 X → X.cell? ⟨b, o + k * 8 + 6, none⟩ = _ := fun X hX => Ext.cell (e0.trans hX) c6
  have d7 : ∀ X, Ext W0 X → X.cell? ⟨b, o + k * 8 + 7, none⟩ = _ := fun X hX => Ext.cell (e0.trans hX) c7
  clear hr hx c0 c1 c2 c3 c4 c5 c6 c7
  have HT := Lib.hid (twinProg_any p _ w5 (H.out.ext (e0.trans F5)))
  go_wp2_with fail
  rw [HK.out]
  refine HT.out.mono ?_
  rintro e w6 ⟨vi, vf, vo, qs, rfl, ht⟩
  obtain ⟨ti2, di2, rfl, _⟩ : ∃ ti di, vi = .slice ti p.ins.length di ∧ True := by obtain ⟨g, _, h, _⟩ := ht.ins.block; exact ⟨_, _, h, trivial⟩
  obtain ⟨to2, do2, rfl, _⟩ : ∃ ti di, vo = .slice ti p.outs.length di ∧ True := by obtain ⟨g, _, h, _⟩ := ht.outs.block; exact ⟨_, _, h, trivial⟩
  obtain ⟨g, cur0, rfl, hg0, hgb, hgs⟩ := ht.flows.block
  have HTW := Lib.hid ht
  have E6 := E5.trans ht.ext
  have F6 := F5.trans ht.ext
  have hqs : qs.length = p.flows.length := by rw [← ht.fst, List.length_map]
  have hsh := ht.flows.short
  rw [← hqs, take_flat flP_len, hqs] at hsh
  obtain ⟨i0, hinf, hz0, hz1, hz2⟩ := info_parts infoFl
  have h128 := (prog_ok (okN_of HN.out).1).2.1
  clear ht HT hkt
  go_wp2_with fail
  generalize hV2 : w6.alloc _ = V2
  obtain ⟨sV2, bV2, eV2⟩ := chain1 hV2
  clear hV2
  have hT := lt_of_block hgb
  have hTw : w5.heap.size ≤ w6.heap.size := by omega
  generalize hT6 : w6.heap.size = T at *
  have HT6 := Lib.hid hT6
  clear hT6
  have t2 := blk_cell bV2 2
  simp only [List.getElem?_toArray, List.getElem?_cons_zero, List.getElem?_cons_succ] at t2
  have g2 := blk_free bV2 2
  have F7 := F6.trans eV2
  have hown2 := ownsRow_ext hsh eV2
  have hown4 : (V2.alloc (.cells #[.string x.name, .int .u8 x.ty, .int .i64 x.st, .int .i64 x.df, .int .u8 x.body.op, .int .i64 x.body.n, .string x.body.name, .slice va x.body.args.length vc] 45)).drew.ownsRow w5.heap.size 45 8 (.slice (some ⟨g, 0, none⟩) p.flows.length (p.flows.length + 1)) p.flows.length (qs.flatMap flP) := World.ownsRow.alloc hown2 _
  have hnb : (V2.alloc (.cells #[.string x.name, .int .u8 x.ty, .int .i64 x.st, .int .i64 x.df, .int .u8 x.body.op, .int .i64 x.body.n, .string x.body.name, .slice va x.body.args.length vc] 45)).drew.heap[T + 1]? = some (.cells #[.string x.name, .int .u8 x.ty, .int .i64 x.st, .int .i64 x.df, .int .u8 x.body.op, .int .i64 x.body.n, .string x.body.name, .slice va x.body.args.length vc] 45 (0, 0)) := by
    rw [← sV2]
    exact World.alloc_heap_new V2 _
  have hnews := World.news_of_block hnb
  have eV4 : Ext V2 (V2.alloc (.cells #[.string x.name, .int .u8 x.ty, .int .i64 x.st, .int .i64 x.df, .int .u8 x.body.op, .int .i64 x.body.n, .string x.body.name, .slice va x.body.args.length vc] 45)).drew := ((Chg.refl _ _).alloc _).drew
  have hbox := Ext.heap eV4 bV2
  have hlay : ∀ (X' : World), (V2.alloc (.cells #[.string x.name, .int .u8 x.ty, .int .i64 x.st, .int .i64 x.df, .int .u8 x.body.op, .int .i64 x.body.n, .string x.body.name, .slice va x.body.args.length vc] 45)).drew.grownBy X' (Value.slice (some ⟨g, 0, none⟩) p.flows.length (p.flows.length + 1)).ownBlock → X'.heap[T]? = some (.cells #[.int .i64 p.st, .slice ti2 p.ins.length di2, .slice (some ⟨g, 0, none⟩) p.flows.length (p.flows.length + 1), .slice to2 p.outs.length do2] 26 (0, 0)) ∧ X'.cell? ⟨T, 2, none⟩ = some (.slice (some ⟨g, 0, none⟩) p.flows.length (p.flows.length + 1)) ∧ X'.frozen? ⟨T, 2, none⟩ = false := fun X' hg => by
    have h := (Chg.of_grownBy hg).heap hbox (fun h => by simp [Value.ownBlock] at h; omega)
    exact ⟨h, (blk_cell h 2).trans rfl, blk_free h 2⟩
  have hsz4 : (V2.alloc (.cells #[.string x.name, .int .u8 x.ty, .int .i64 x.st, .int .i64 x.df, .int .u8 x.body.op, .int .i64 x.body.n, .string x.body.name, .slice va x.body.args.length vc] 45)).drew.heap.size = T + 2 := by show (V2.alloc _).heap.size = _; simp [sV2]
  go_region_law (refine step_append_lies _ (by rfl) _ _ 23 (by rfl) w5.heap.size 45 i0 _ 8 96 Try.underlying23 hinf hz0 hz1 hz2 rfl (by decide) _ _ _ (by rfl) hown4 ⟨T + 1, 0, none⟩ 1 1 #[.string x.name, .int .u8 x.ty, .int .i64 x.st, .int .i64 x.df, .int .u8 x.body.op, .int .i64 x.body.n, .string x.body.name, .slice va x.body.args.length vc].toList (by rfl) rfl hnews (by simp [Value.oneCell']) (by decide) (by unfold maxLen; omega) (by omega) (by omega) (T + 2) hsz4 ?_; intro g6 cap6 w7 hown6 hgrow6 hat6 hlt6; obtain ⟨U7, u7, g7⟩ := hlay _ hgrow6)
  all_goals (
    have hx8 : FlFine x := HF.out.fine HX.out
    have C6 : Chg (fun q => q = g ∨ q = T) V2 (w7.setCell ⟨T, 2, none⟩ (.slice (some ⟨g6, 0, none⟩) (p.flows.length + 1) cap6)) := (((eV4.mono (fun _ _ h => h.elim)).trans ((Chg.of_grownBy hgrow6).mono (fun q _ h => by simp [Value.ownBlock] at h; exact .inl h.symm))).setCell ⟨T, 2, none⟩ _ (.inl (.inr rfl)))
    have hg6 : g6 ≠ T := by
      rcases hat6 with h | h
      · simp [Value.ownBlock] at h; omega
      · omega
    have hb6 := ownsRow_chg hown6 (Chg.setCell (Chg.refl (fun q => q = T) w7) ⟨T, 2, none⟩ (.slice (some ⟨g6, 0, none⟩) (p.flows.length + 1) cap6) (.inl rfl)) (fun h => hg6 h)
    have U8 := blk_set U7 2 (.slice (some ⟨g6, 0, none⟩) (p.flows.length + 1) cap6)
    have U8 : (w7.setCell ⟨T, 2, none⟩ (.slice (some ⟨g6, 0, none⟩) (p.flows.length + 1) cap6)).heap[T]? = some (.cells #[.int .i64 p.st, .slice ti2 p.ins.length di2, .slice (some ⟨g6, 0, none⟩) (p.flows.length + 1) cap6, .slice to2 p.outs.length do2] 26 (0, 0)) := U8
    clear U7 u7 g7 hgrow6 hown6 hat6 hlt6 hlay hbox hnews hnb hown4 hown2 hsz4 g2 t2 eV4
    generalize (w7.setCell ⟨T, 2, none⟩ (.slice (some ⟨g6, 0, none⟩) (p.flows.length + 1) cap6)) = W8 at *
    have D8 : Chg (fun q => q = g) w6 W8 := ((eV2.mono (fun _ _ h => h.elim)).trans C6).mono (fun q hq h => by
      have := HT6.out
      rcases h with h | h
      · exact h
      · omega)
    have F8 : Ext W0 W8 := Ext.then F7 C6 (fun q hq => by have := F5.size; omega)
    have E8 : Ext V W8 := Ext.then (E6.trans eV2) C6 (fun q hq => by have := E5.size; omega)
    have hQw : w.heap.size ≤ w4.heap.size := by have := (e0.trans E4).size; exact this
    have hQ5 : w4.heap.size < w5.heap.size := lt_of_block (Ext.heap E5 bV)
    have HRT : Hid (∀ X, Chg (fun q => q = w4.heap.size) W8 X → RdPr X 0 false (twiceF p x) #[.int .i64 p.st, .slice ti2 p.ins.length di2, .slice (some ⟨g6, 0, none⟩) (p.flows.length + 1) cap6, .slice to2 p.outs.length do2]) := by
      show ∀ X, _ → _
      intro X hX
      obtain ⟨_, _, _, eq, _, hi, hf, ho⟩ := H.out
      simp only [Array.mk.injEq, List.cons.injEq, and_true, true_and] at eq
      obtain ⟨rfl, rfl, rfl⟩ := eq
      obtain ⟨_, _, _, i1, _, _, i4, _⟩ := hi
      obtain ⟨_, _, _, o1, _, _, o4, _⟩ := ho
      have r1 := TwIn.rd (HTW.out.ins.other hgb (by decide) D8 hg0) (fun i x hx => by obtain ⟨a, b, c, _⟩ := i4 i x hx; exact ⟨a, b, c⟩) i1
      have r3 := TwStr.rd (HTW.out.outs.other hgb (by decide) D8 hg0) (fun x hx => by obtain ⟨i, hi, rfl⟩ := List.getElem_of_mem hx; exact (o4 i _ (List.getElem?_eq_getElem hi)).1) o1
      have hg65 : w5.heap.size ≤ g6 := (World.ownsRow.lt hb6 g6 rfl).1
      have hb7 : X.ownsRow w5.heap.size 45 8 (.slice (some ⟨g6, 0, none⟩) (p.flows.length + 1) cap6) (p.flows.length + 1) ((qs ++ [(x, Value.slice va x.body.args.length vc)]).flatMap flP ++ []) := by
        rw [List.flatMap_append, List.append_nil]
        exact ownsRow_chg hb6 hX (fun h => by omega)
      obtain ⟨cur, a1, a2, a3, a4, a5, _⟩ := RowOf.own flP_len hb7
      have hlen : (qs ++ [(x, Value.slice va x.body.args.length vc)]).length = p.flows.length + 1 := by simp [hqs]
      have r2 := a3.rdFl (w0 := X) (cap := cap6) a1 (Chg.refl _ _) (fun q hq => by
        rcases List.mem_append.1 hq with hq | hq
        · have hm : q.1 ∈ p.flows := by rw [← HTW.out.fst]; exact List.mem_map.2 ⟨q, hq, rfl⟩
          obtain ⟨i, hi⟩ := List.getElem?_of_mem hm
          exact ⟨HF.out.fine hi, ((((HTW.out.low q hq g rfl).far D8 (fun k hk => by omega)).far hX (fun k hk => by omega)).plain.lower (Nat.zero_le _))⟩
        · simp only [List.mem_singleton] at hq
          subst hq
          exact ⟨hx8, hvx.ext (Ext.then (e0.trans F8) hX (fun b hb => by omega))⟩) (by rw [hlen]; exact a4) a5 (by rw [hlen]; unfold fitsR; omega)
      rw [List.map_append, HTW.out.fst, hlen] at r2
      exact ⟨_, _, _, rfl, hst, (r1.far hX (fun k hk => by omega)).plain.lower (Nat.zero_le _), r2, (r3.far hX (fun k hk => by omega)).plain.lower (Nat.zero_le _)⟩
    have w0' : ∀ X, Ext W8 X → X.cell? ⟨T, 0, none⟩ = some (.int .i64 p.st) := fun X hX => (blk_cell (Ext.heap hX U8) 0).trans rfl
    have w1' : ∀ X, Ext W8 X → X.cell? ⟨T, 1, none⟩ = some (.slice ti2 p.ins.length di2) := fun X hX => (blk_cell (Ext.heap hX U8) 1).trans rfl
    have w2' : ∀ X, Ext W8 X → X.cell? ⟨T, 2, none⟩ = some (.slice (some ⟨g6, 0, none⟩) (p.flows.length + 1) cap6) := fun X hX => (blk_cell (Ext.heap hX U8) 2).trans rfl
    have w3' : ∀ X, Ext W8 X → X.cell? ⟨T, 3, none⟩ = some (.slice to2 p.outs.length do2) := fun X hX => (blk_cell (Ext.heap hX U8) 3).trans rfl
    clear C6 hb6 D8 hsh bV2 F7 hgs hgb HTW
    have hpk := (prog_ok (okN_of HN.out).1).2.2.2.1
    have HPK := Lib.hid hpk
    have n2 : p.flows.length ≤ 9000000000000000000 := by omega
    clear hpk
    go_wp2_with fail
    go_loopw [9, 10, 11] (fun av fv iv wr => ∃ (i : Nat) (l : List FlD) (fv' : Value), fv = fv' ∧ i ≤ p.flows.length ∧ iv = .int .i64 i ∧ av = .bool (askL l x.name) ∧ l = (p.flows.take i).eraseIdx k ∧ FlV w wr W8.heap.size l fv' ∧ Ext W8 wr) (fun _ _ i _ => p.flows.length - (intOf i).toNat)
    case atStart => exact ⟨0, [], _, rfl, Nat.zero_le _, rfl, rfl, by simp, FlV.nil _ _ _, Chg.refl _ _⟩
    case round =>
      obtain ⟨i, l, fv', hfv, hi, rfl, rfl, hle, hV8, rE⟩ := hrel
      replace hfv := hfv.symm
      subst hfv
      have HLE := Lib.hid hle
      clear hle
      have F9 := F8.trans rE
      have E9 := E8.trans rE
      by_cases hlt : i < p.flows.length
      · have hy : p.flows[i]? = some p.flows[i] := List.getElem?_eq_getElem hlt
        have q1 : (i : Int) < (p.flows.length : Int) := by omega
        by_cases hik : i = k
        · have b1 : ((i : Int) == (k : Int)) = true := by simp [hik]
          have HE := Lib.hid (erase_same (l := p.flows) hik)
          clear hik
          go_wp2_with fail
          go_roundw
          case rel => exact ⟨i + 1, l, _, rfl, by omega, by go_num, rfl, by rw [HE.out]; exact HLE.out, hV8, rE⟩
          case measure => simp [intOf]; omega
        · have b1 : ((i : Int) == (k : Int)) = false := by simp; omega
          have HE := Lib.hid (erase_more hy hik)
          clear hik
          have hyf := HF.out.fine hy
          obtain ⟨_, _, e, _, _, _, hr, _⟩ := HF.out
          simp only [Value.slice.injEq, true_and] at e
          obtain ⟨rfl, rfl⟩ := e
          obtain ⟨_, _, _, _, b', o', hbo, _, _, c0, c1, c2, c3, _, _, hyn, v', hvy, c4, c5, c6, c7⟩ := hr i _ hy
          simp only [Option.some.injEq, Addr.mk.injEq, and_true] at hbo
          obtain ⟨rfl, rfl⟩ := hbo
          obtain ⟨hwf, hnd⟩ := ok_wf' (HPK.out _ (List.getElem_mem hlt))
          generalize p.flows[i] = y at *
          obtain ⟨ua, uc, rfl, _⟩ := hvy.form
          have a0 : ∀ X, Ext W0 X → X.cell? ⟨b, o + i * 8, none⟩ = _ := fun X hX => Ext.cell (e0.trans hX) c0
          have a1 : ∀ X, Ext W0 X → X.cell? ⟨b, o + i * 8 + 1, none⟩ = _ := fun X hX => Ext.cell (e0.trans hX) c1
          have a2 : ∀ X, Ext W0 X → X.cell? ⟨b, o + i * 8 + 2, none⟩ = _ := fun X hX => Ext.cell (e0.trans hX) c2
          have a3 : ∀ X, Ext W0 X → X.cell? ⟨b, o + i * 8 + 3, none⟩ = _ := fun X hX => Ext.cell (e0.trans hX) c3
          have a4 : ∀ X, Ext W0 X → X.cell? ⟨b, o + i * 8 + 4, none⟩ = _ := fun X hX => Ext.cell (e0.trans hX) c4
          have a5 : ∀ X, Ext W0 X → X.cell? ⟨b, o + i * 8 + 5, none⟩ = _ := fun X hX => Ext.cell (e0.trans hX) c5
          have a6 : ∀ X, Ext W0 X → X.cell? ⟨b, o + i * 8 + 6, none⟩ = _ := fun X hX => Ext.cell (e0.trans hX) c6
          have a7 : ∀ X, Ext W0 X → X.cell? ⟨b, o + i * 8 + 7, none⟩ = _ := fun X hX => Ext.cell (e0.trans hX) c7
          clear hr hy c0 c1 c2 c3 c4 c5 c6 c7
          obtain ⟨rs, hrs, hrow, hrb⟩ := hV8
          have HRS := Lib.hid hrs
          have hll : l.length ≤ i := by have := congrArg List.length HLE.out; rw [List.length_eraseIdx, List.length_take] at this; split at this <;> omega
          have hsz9 := rE.size
          clear hrs
          have hgl := gthE_le y.body [] 0
          simp only [List.length_nil] at hgl
          have hrf := fun (W : World) (hE : Ext W8 W) => refs_any y.body _ W (hvy.ext ((e0.trans F8).trans hE)) hyn (by omega)
          have HR := Lib.hid hrf
          clear hrf hwf
          have HSN := Lib.hid (askL_snoc l y x.name)
          generalize hLr : gthE [] 0 y.body = Lr at *
          clear hLr
          go_wp2_with (at_builtin; refine wpList_append_own_at _ rfl _ _ 23 rfl W8.heap.size 45 i0 _ 8 96 Try.underlying23 hinf hz0 hz1 hz2 rfl (by decide) fv' _ _ rfl (World.ownsRow.alloc hrow _) ⟨wr.heap.size, 0, none⟩ 1 1 (flP (y, .slice ua y.body.args.length uc)) rfl rfl (cell_many_new _ _ _) (by simp [Value.oneCell', flP, flC]) (by unfold maxLen; omega) (by omega) (by simp; omega) ?_; intro v6 w9 hown9 hgrow9 _ hat9; have V9 := FlV.snoc HRS.out hrb hyf hvy hown9; obtain ⟨a6', c6', hv6⟩ := V9.form1; subst hv6; have E10 : Ext W8 w9 := Ext.then (rE.alloc _) (Chg.of_grownBy hgrow9) (fun b hb => (World.ownsRow.lt hrow b hb).1); have F10 := F8.trans E10; have G10 := E8.trans E10; clear hown9 hgrow9 hat9)
          refine (HR.out _ E10).mono ?_
          rintro e wA ⟨v2, rfl, V2', EA'⟩
          obtain ⟨va2, cc2, rfl⟩ := V2'.form
          have EA := E10.trans EA'
          have FA := F8.trans EA
          have GA := E8.trans EA
          have VA := V9.chg EA' (fun _ _ h => h)
          clear HR E10 F10 G10 EA' V9 a0 a1 a2 a3 a4 a5 a6 a7
          go_wp2_with fail
          generalize askL l x.name = A at *
          obtain ⟨wo, rfl⟩ : ∃ wo : World, wo = wr := ⟨_, rfl⟩
          go_loopw [9, 13] (fun av jv wr => ∃ j : Nat, j ≤ Lr.length ∧ jv = .int .i64 j ∧ av = .bool (A || (Lr.take j).any fun r => decide (r.1 = x.name)) ∧ Ext wA wr) (fun _ i _ => Lr.length - (intOf i).toNat)
          case atStart => exact ⟨0, Nat.zero_le _, rfl, by simp, Chg.refl _ _⟩
          case round =>
            obtain ⟨j, hj, rfl, rfl, rE2⟩ := hrel
            have FB := FA.trans rE2
            have GB := GA.trans rE2
            by_cases hlt3 : j < Lr.length
            · have hx3 := List.getElem?_eq_getElem hlt3
              obtain ⟨gr, rfl, r0, r1⟩ := (V2'.chg rE2 (fun _ _ h => h)).get hx3
              have q2 : (j : Int) < (Lr.length : Int) := by omega
              have htk : (Lr.take (j + 1)).any (fun r => decide (r.1 = x.name)) = ((Lr.take j).any (fun r => decide (r.1 = x.name)) || decide (Lr[j].1 = x.name)) := by rw [List.take_succ_eq_append_getElem hlt3, List.any_append]; simp
              have HTK := Lib.hid htk
              generalize Lr[j] = r at *
              obtain ⟨r1', r2'⟩ := r
              simp only at r0 r1 HTK
              generalize (Lr.take j).any (fun r => decide (r.1 = x.name)) = B at *
              clear hx3 htk
              cases hA : (A || B)
              case true =>
                have HAB := Lib.hid hA
                clear hA
                go_wp2_with fail
                go_roundw
                case rel => exact ⟨j + 1, by omega, by go_num, by rw [HTK.out, ← Bool.or_assoc, HAB.out]; rfl, rE2⟩
                case measure => simp [intOf]; omega
              case false =>
                have HAB := Lib.hid hA
                clear hA
                have HBX : Hid ((r1'.toList == x.name.toList) = decide (r1' = x.name)) := by
                  show _ = _
                  rw [Bool.eq_iff_iff, str_eq0, decide_eq_true_eq]
                go_wp2_with fail
                go_roundw
                case rel => exact ⟨j + 1, by omega, by go_num, by rw [HTK.out, ← Bool.or_assoc, HAB.out, HBX.out]; rfl, rE2⟩
                case measure => simp [intOf]; omega
            · obtain rfl : j = Lr.length := by omega
              rw [List.take_length]
              have VB := VA.chg rE2 (fun _ _ h => h)
              go_wp2_with fail
              go_roundw
              case rel => exact ⟨i + 1, l ++ [y], _, rfl, by omega, by go_num, by rw [HSN.out], by rw [HE.out, ← HLE.out], VB, EA.trans rE2⟩
              case measure => simp [intOf]; omega
      · obtain rfl : i = p.flows.length := by omega
        have hle2 : l = p.flows.eraseIdx k := by rw [HLE.out, List.take_length]
        have hQb := Ext.heap E9 bV
        have hTb := Ext.heap rE U8
        have gq := blk_free hQb 2
        have hQT : w4.heap.size ≠ T := by omega
        obtain ⟨fa, fc, rfl⟩ := hV8.form
        have CQ : Chg (fun q => q = w4.heap.size) wr (wr.setCell ⟨w4.heap.size, 2, none⟩ (.slice fa l.length fc)) := (Chg.refl _ _).setCell _ _ (.inl rfl)
        have kQ := blk_set hQb 2 (.slice fa l.length fc)
        have kT := CQ.heap hTb (fun h => hQT h.symm)
        have HTWQ := Lib.hid (HRT.out _ ((rE.mono (fun _ _ h => h.elim)).trans CQ))
        have hV9 := hV8.chg CQ (fun q hq h => by
          obtain ⟨_, _, hrow, _⟩ := hV8
          have := (World.ownsRow.lt hrow q hq).1
          have := E8.size
          have := lt_of_block bV
          omega)
        have eW4 : Ext w4 (wr.setCell ⟨w4.heap.size, 2, none⟩ (.slice fa l.length fc)) := Ext.then (eV.trans E9) CQ (fun b hb => by omega)
        have hll : l.length ≤ 128 := by have := congrArg List.length hle2; rw [List.length_eraseIdx] at this; split at this <;> omega
        have HRQ : Hid (∀ X, Ext (wr.setCell ⟨w4.heap.size, 2, none⟩ (.slice fa l.length fc)) X → RdPr X 0 false (lessF p k) #[.int .i64 p.st, .slice ti p.ins.length di, .slice fa l.length fc, .slice none 0 0]) := by
          show ∀ X, _ → _
          intro X hX
          obtain ⟨_, _, _, eq, _, hi, hf, ho⟩ := HQ0.out X (eW4.trans hX)
          simp only [Array.mk.injEq, List.cons.injEq, and_true, true_and] at eq
          obtain ⟨_, rfl, rfl, rfl⟩ := eq
          have hfl := (hV9.chg hX (fun _ _ h => h)).rd (Ext.then ((e0.trans E4).trans (eW4.trans hX)) (Chg.refl (fun _ => False) X) (fun b hb => hb.elim)) (by unfold fitsR; omega)
          refine ⟨_, _, _, rfl, hst, hi, ?_, ho⟩
          show RdFlV X 0 false (p.flows.eraseIdx k) _
          rw [← hle2]
          exact hfl
        have eW0 : Ext W0 (wr.setCell ⟨w4.heap.size, 2, none⟩ (.slice fa l.length fc)) := E4.trans eW4
        have hnq := lessF_ok HN.out HX.out
        rw [← askL_but, ← hle2] at hnq
        have hnt := twiceF_no HN.out HX.out
        have HNQ := Lib.hid hnq
        have HNT := Lib.hid hnt
        clear hnq hnt hle2 HLE hV8 hV9 hQb hTb CQ
        go_upto_region 24 with (fail)
        clear gq
        generalize (wr.setCell ⟨w4.heap.size, 2, none⟩ (.slice fa l.length fc)) = WQ at *
        have s0 : ∀ X, Ext WQ X → X.cell? ⟨T, 0, none⟩ = some (.int .i64 p.st) := fun X hX => (blk_cell (Ext.heap hX kT) 0).trans rfl
        have s1 : ∀ X, Ext WQ X → X.cell? ⟨T, 1, none⟩ = some (.slice ti2 p.ins.length di2) := fun X hX => (blk_cell (Ext.heap hX kT) 1).trans rfl
        have s2 : ∀ X, Ext WQ X → X.cell? ⟨T, 2, none⟩ = some (.slice (some ⟨g6, 0, none⟩) (p.flows.length + 1) cap6) := fun X hX => (blk_cell (Ext.heap hX kT) 2).trans rfl
        have s3 : ∀ X, Ext WQ X → X.cell? ⟨T, 3, none⟩ = some (.slice to2 p.outs.length do2) := fun X hX => (blk_cell (Ext.heap hX kT) 3).trans rfl
        have t0 : ∀ X, Ext WQ X → X.cell? ⟨w4.heap.size, 0, none⟩ = some (.int .i64 p.st) := fun X hX => (blk_cell (Ext.heap hX kQ) 0).trans rfl
        have t1 : ∀ X, Ext WQ X → X.cell? ⟨w4.heap.size, 1, none⟩ = some (.slice ti p.ins.length di) := fun X hX => (blk_cell (Ext.heap hX kQ) 1).trans rfl
        have t2 : ∀ X, Ext WQ X → X.cell? ⟨w4.heap.size, 2, none⟩ = some (.slice fa l.length fc) := fun X hX => (blk_cell (Ext.heap hX kQ) 2).trans rfl
        have t3 : ∀ X, Ext WQ X → X.cell? ⟨w4.heap.size, 3, none⟩ = some (.slice none 0 0) := fun X hX => (blk_cell (Ext.heap hX kQ) 3).trans rfl
        have eQ := Chg.refl (fun _ => False) WQ
        clear z0 z1 z2 z3 w0' w1' w2' w3' rE F9 E9
        have HC1 := Lib.hid (nCheck_any (twiceF p x) _ _ HTWQ.out)
        generalize namesP (twiceF p x) = nt at *
        have hlt9 : (twiceF p x).flows.length = p.flows.length + 1 := by simp [twiceF]
        rw [hlt9] at HNT
        clear hlt9
        go_wp2_with fail
        refine HC1.out.mono ?_
        rintro e wB ⟨rfl, EB⟩
        have HC2 := Lib.hid (nCheck_any (lessF p k) _ _ (HRQ.out _ EB))
        generalize namesP (lessF p k) = nq at *
        generalize askL l x.name = A at *
        go_wp2_with fail
        refine HC2.out.mono ?_
        rintro e wC ⟨rfl, EC⟩
        have FC := (e0.trans eW0).trans (EB.trans EC)
        have EWC := EB.trans EC
        have hb : (nq == 0) = !A := by
          have := HNQ.out
          cases A
          · simpa using this
          · simpa using this
        clear HC1 HC2 EB EC
        rcases HNT.out with h6 | ⟨h1, hbig⟩
        · subst h6
          clear HNT
          cases A
          all_goals (
            have hb := hb
            simp only [Bool.not_false, Bool.not_true] at hb
            go_wp2_with fail
            go_ret
            exact ⟨rfl, FC⟩)
        · subst h1
          clear HNT
          have hbig' : (128 : Int) < (p.flows.length : Int) + 1 := by omega
          cases A
          all_goals (
            have hb := hb
            simp only [Bool.not_false, Bool.not_true] at hb
            go_wp2_with fail
            go_ret
            exact ⟨rfl, FC⟩)
  )
end Go.Proofs.Ytgdlocjocjamgaa
