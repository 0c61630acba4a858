/- StartsBegun answers true. -/
import Derived.Test.YtcbdeoekehkbiaaStAlive
import Derived.Test.YtcbdeoekehkbiaaStGreat
import Derived.Test.YtcbdeoekehkbiaaStBegP
import Derived.Test.YtcbdeoekehkbiaaStA
import Derived.Test.YtcbdeoekehkbiaaRowF2
import Derived.Deep.Cut
import Derived.Deep.RegionHeld3
namespace Go.Proofs.Ytcbdeoekehkbiaa
open Go.RowKit
set_option linter.unusedVariables false
set_option linter.unusedSimpArgs false

theorem chg_ext {S : Nat → Prop} {w w1 w2 : World} (h : Chg S w w1) (e : Ext w1 w2) : Chg S w w2 := h.trans (e.mono (fun _ _ h => h.elim))
/-- After so many rounds. -/
def BegSt (p : PrD) (g i : Nat) (ps : List (FlD × Value)) (wr : World) : Prop := ps.length = p.flows.length ∧ ∀ (j : Nat) (x : FlD), p.flows[j]? = some x → ∃ u, ps[j]? = some (if j < i then begF x else x, u) ∧ (j < i → ∀ X, Chg (fun q => q = g) wr X → RdExV X 0 false (begB x.name).args u)
set_option maxRecDepth 100000 in
set_option maxHeartbeats 8000000 in
theorem startsBegun_any (p : PrD) (cs : Array Value) (kk : Int) (w : World) (h : RdPr w 0 false p cs) (hkk : isU8 kk) : Calls Try.prog 6 #[.agg cs, .int .u8 kk] w (RetT w) := by
  have HP := Lib.hid h
  obtain ⟨ai, ci, af, cf, ao, co, rfl⟩ := pr_form h
  clear h
  have HA := Lib.hid stAlive_any
  go_enter Try.func6, Try.ntmps6
  go_wp2_with fail
  have e0 := (Chg.refl (fun _ => False) w).alloc (.cells #[.int .i64 p.st, .slice ai p.ins.length ci, .slice af p.flows.length cf, .slice ao p.outs.length co] 36)
  have bP := heap_alloc_new w (.cells #[.int .i64 p.st, .slice ai p.ins.length ci, .slice af p.flows.length cf, .slice ao p.outs.length co] 36)
  generalize (w.alloc (.cells #[.int .i64 p.st, .slice ai p.ins.length ci, .slice af p.flows.length cf, .slice ao p.outs.length co] 36)) = W0 at *
  have y0 : ∀ X, Ext W0 X → X.cell? ⟨w.heap.size, 0, none⟩ = some (.int .i64 p.st) := fun X hX => (blk_cell (Ext.heap hX bP) 0).trans rfl
  have y1 : ∀ X, Ext W0 X → X.cell? ⟨w.heap.size, 1, none⟩ = some (.slice ai p.ins.length ci) := fun X hX => (blk_cell (Ext.heap hX bP) 1).trans rfl
  have y2 : ∀ X, Ext W0 X → X.cell? ⟨w.heap.size, 2, none⟩ = some (.slice af p.flows.length cf) := fun X hX => (blk_cell (Ext.heap hX bP) 2).trans rfl
  have y3 : ∀ X, Ext W0 X → X.cell? ⟨w.heap.size, 3, none⟩ = some (.slice ao p.outs.length co) := fun X hX => (blk_cell (Ext.heap hX bP) 3).trans rfl
  have ed : ∀ X, Ext W0 X → Ext W0 X.drew := fun X hX => hX.drew
  have ea : ∀ X o, Ext W0 X → Ext W0 (X.alloc o) := fun X o hX => hX.alloc o
  refine (HA.out _).mono ?_
  rintro e w1 ⟨rfl, E1⟩
  have HG := Lib.hid (stGreat_any p _ _ (HP.out.ext (e0.trans E1)))
  go_wp2_with fail
  refine HG.out.mono ?_
  rintro e w2 ⟨b, rfl, E2'⟩
  have F2 := E1.trans E2'
  clear HG E2' E1
  cases b
  case true =>
    go_wp2_with fail
    refine (HA.out _).mono ?_
    rintro e w3 ⟨rfl, E3⟩
    go_wp2_with fail
    go_ret
    exact ⟨rfl, (e0.trans F2).trans E3⟩
  have F3 := F2
  clear F2
  have HC := Lib.hid (nCheck_any p _ _ (HP.out.ext (e0.trans F3)))
  go_wp2_with fail
  refine HC.out.mono ?_
  rintro e w3 ⟨rfl, E3'⟩
  have F4 := F3.trans E3'
  clear HC E3' F3
  by_cases hn : namesP p = 0
  case neg =>
    have bn : (namesP p != 0) = true := by simpa using hn
    generalize namesP p = n at *
    clear hn
    go_wp2_with fail
    refine (HA.out _).mono ?_
    rintro e w4 ⟨rfl, E4⟩
    go_wp2_with fail
    go_ret
    exact ⟨rfl, (e0.trans F4).trans E4⟩
  have HN := Lib.hid hn
  rw [hn]
  clear hn
  by_cases hl : p.flows.length = 0
  case pos =>
    have hl' : ((p.flows.length : Int) == 0) = true := by simp [hl]
    have HL := Lib.hid hl
    clear hl
    go_wp2_with fail
    refine (HA.out _).mono ?_
    rintro e w4 ⟨rfl, E4⟩
    go_wp2_with fail
    go_ret
    exact ⟨rfl, (e0.trans F4).trans E4⟩
  have hl' : ((p.flows.length : Int) == 0) = false := by rw [beq_eq_false_iff_ne]; omega
  have hpl : 0 < p.flows.length := by omega
  have hpl' : 0 < (p.flows.length : Int) := by omega
  clear hl HA
  have HT := Lib.hid (twinProg_any p _ w3 (HP.out.ext (e0.trans F4)))
  go_wp2_with fail
  refine HT.out.mono ?_
  rintro e w4 ⟨vi, vf, vo, qs, rfl, ht⟩
  obtain ⟨ti, di, rfl, _⟩ : ∃ ti di, vi = .slice ti p.ins.length di ∧ True := by obtain ⟨g, _, h, _⟩ := ht.ins.block; exact ⟨_, _, h, trivial⟩
  obtain ⟨to_, do_, rfl, _⟩ : ∃ ti di, vo = .slice ti p.outs.length di ∧ True := by obtain ⟨g, _, h, _⟩ := ht.outs.block; exact ⟨_, _, h, trivial⟩
  obtain ⟨g, cur0, rfl, hg0, hgb, hgs⟩ := ht.flows.block
  have HTW := Lib.hid ht
  have hqs : qs.length = p.flows.length := by rw [← ht.fst, List.length_map]
  have hsh := ht.flows.short
  rw [← hqs, take_flat flP_len, hqs] at hsh
  obtain ⟨cur, hcur, hsz, hrow, hc1, hc2, hgb2⟩ := RowOf.own (r := []) (ps := qs) flP_len (by simpa using hsh)
  have F5 := F4.trans ht.ext
  clear ht HT hgb hgs hsh cur0
  have hgw : g < w4.heap.size := lt_of_block hcur
  go_upto_region 4 with (fail)
  generalize hV : w4.alloc _ = V
  obtain ⟨sV, bV, eV⟩ := chain1 hV
  clear hV
  generalize hQ : w4.heap.size = Q at *
  have HQ := Lib.hid hQ
  clear hQ
  have F6 := F5.trans eV
  have hcurV := Ext.heap eV hcur
  have ec : ∀ X, Chg (fun q => q = g) V X → Ext W0 X := fun X h => Ext.then F6 h (fun b hb => by have := F4.size; omega)
  have hQg : Q ≠ g := by have := HQ.out; omega
  have z0 : ∀ X, Chg (fun q => q = g) V X → X.cell? ⟨Q, 0, none⟩ = some (.int .i64 p.st) := fun X hX => (blk_cell (hX.heap bV hQg) 0).trans rfl
  have z1 : ∀ X, Chg (fun q => q = g) V X → X.cell? ⟨Q, 1, none⟩ = some (.slice ti p.ins.length di) := fun X hX => (blk_cell (hX.heap bV hQg) 1).trans rfl
  have z2 : ∀ X, Chg (fun q => q = g) V X → X.cell? ⟨Q, 2, none⟩ = some (.slice (some ⟨g, 0, none⟩) p.flows.length (p.flows.length + 1)) := fun X hX => (blk_cell (hX.heap bV hQg) 2).trans rfl
  have z3 : ∀ X, Chg (fun q => q = g) V X → X.cell? ⟨Q, 3, none⟩ = some (.slice to_ p.outs.length do_) := fun X hX => (blk_cell (hX.heap bV hQg) 3).trans rfl
  have hgV := lt_of_block hcurV
  obtain ⟨_, _, _, eqh, hst, hi, hf, ho⟩ := HP.out
  simp only [Array.mk.injEq, List.cons.injEq, and_true, true_and] at eqh
  obtain ⟨rfl, rfl, rfl⟩ := eqh
  have HF := Lib.hid hf
  have HI := Lib.hid hi
  have HO := Lib.hid ho
  have h96 : p.flows.length * 96 ≤ 140737488351232 := by obtain ⟨_, _, _, h, _⟩ := hf.form; exact h
  have hbs : BegSt p g 0 qs V := ⟨hqs, fun j x hx => by
    have hj := (List.getElem?_eq_some_iff.1 hx).1
    have hfst := HTW.out.fst
    have : (qs.map (·.1))[j]? = some x := by rw [hfst]; exact hx
    rw [List.getElem?_map] at this
    obtain ⟨q, hq, rfl⟩ := Option.map_eq_some_iff.1 this
    exact ⟨q.2, by rw [hq, if_neg (Nat.not_lt_zero _)], fun h => absurd h (Nat.not_lt_zero _)⟩⟩
  have HCV := Lib.hid hcurV
  obtain ⟨hk0, hk1⟩ := hkk
  clear hf hi ho hqs hcur
  go_wp2_with fail
  go_loopw [6] (fun iv wr => ∃ (i : Nat) (cur : Array Value) (ps : List (FlD × Value)), i ≤ p.flows.length ∧ iv = .int .i64 i ∧ wr.heap[g]? = some (.cells cur 50 (0, 0)) ∧ cur.size = (p.flows.length + 1) * 8 ∧ RowOf flP 8 cur ps ∧ BegSt p g i ps wr ∧ Chg (fun q => q = g) V wr) (fun i _ => p.flows.length - (intOf i).toNat)
  case atStart => exact ⟨0, cur, qs, Nat.zero_le _, rfl, hcurV, hsz, hrow, hbs, Chg.refl _ _⟩
  case round =>
    clear hcurV hsz hrow hbs
    obtain ⟨i, cur, ps, hi, rfl, hcur, hsz, hrow, hbs, rC⟩ := hrel
    by_cases hlt : i < p.flows.length
    · have hx : p.flows[i]? = some p.flows[i] := List.getElem?_eq_getElem hlt
      have q1 : (i : Int) < (p.flows.length : Int) := by omega
      have hxf := HF.out.fine hx
      obtain ⟨_, _, e, _, _, _, hr, _⟩ := HF.out
      simp only [Value.slice.injEq, true_and] at e
      obtain ⟨rfl, rfl⟩ := e
      obtain ⟨_, _, _, _, b, o, rfl, _, _, c0, _⟩ := hr i _ hx
      have HX := Lib.hid hx
      generalize p.flows[i] = x at *
      have d0 : ∀ X, Ext W0 X → X.cell? ⟨b, o + i * 8, none⟩ = _ := fun X hX => Ext.cell (e0.trans hX) c0
      have hu : ∀ c, c < 8 → ∃ u, ∀ X, Ext wr X → X.cell? ⟨g, i * 8 + c, none⟩ = some u := fun c hc => by
        have h8 : i * 8 + c < cur.size := by omega
        exact ⟨cur[i * 8 + c], fun X hX => (blk_cell (Ext.heap hX hcur) _).trans (Array.getElem?_eq_getElem h8)⟩
      obtain ⟨u4, t4⟩ := hu 4 (by omega)
      obtain ⟨u5, t5⟩ := hu 5 (by omega)
      obtain ⟨u6, t6⟩ := hu 6 (by omega)
      obtain ⟨u7, t7⟩ := hu 7 (by omega)
      have g4 : ∀ X, Ext wr X → X.frozen? ⟨g, i * 8 + 4, none⟩ = false := fun X hX => blk_free (Ext.heap hX hcur) _
      have g5 : ∀ X, Ext wr X → X.frozen? ⟨g, i * 8 + 4 + 1, none⟩ = false := fun X hX => blk_free (Ext.heap hX hcur) _
      have g6 : ∀ X, Ext wr X → X.frozen? ⟨g, i * 8 + 4 + 2, none⟩ = false := fun X hX => blk_free (Ext.heap hX hcur) _
      have g7 : ∀ X, Ext wr X → X.frozen? ⟨g, i * 8 + 4 + 3, none⟩ = false := fun X hX => blk_free (Ext.heap hX hcur) _
      have G0 : Chg (fun q => q = g) V wr.drew := rC.drew
      have L0 : Ext wr wr.drew := (Chg.refl _ _).drew
      clear hr hx c0 hu
      go_wp2_with fail
      go_region_held3 (fun X => Chg (fun q => q = g) V X) (first | assumption | exact Chg.alloc (by assumption) _ | exact Chg.trans G4 (chg_setB _ _ _ _ _ _ _))
        (first
          | (have _ := G3; go_at_call 14; refine (stOf_new 18 _ 2 2 _ _ rfl).mono ?_; rintro e x4 ⟨rfl, hb4, E4⟩; have G4 := chg_ext G3 E4; have L4 := L3.trans E4; have hb3 := Ext.heap E4 hb3)
          | (have _ := G2; go_at_call 14; refine (stOf_new 19 _ 1 1 _ _ rfl).mono ?_; rintro e x3 ⟨rfl, hb3, E3⟩; have G3 := chg_ext G2 E3; have L3 := L2.trans E3)
          | (have _ := G1; go_at_call 13; refine (stName_any _ _).mono ?_; rintro e x2 ⟨rfl, E2⟩; have G2 := chg_ext G1 E2; have L2 := L1.trans E2)
          | (have _ := G0; go_at_call 15; refine (stNought_any _).mono ?_; rintro e x1 ⟨rfl, E1⟩; have G1 := chg_ext G0 E1; have L1 := L0.trans E1))
      have hB := L2.size
      have hgl := lt_of_block hcur
      have HT4 := StA.op2 (S := fun q => q = g) (o := 18) (x := noughtE) (by unfold isU8; omega) hb4 (by have := L3.size; omega) (fun X _ => exa_nought X) (StA.op1 (S := fun q => q = g) (o := 19) (by unfold isU8; omega) hb3 (by omega) (fun X _ => exa_nm X x.name hxf.1))
      have hcur4 := Ext.heap L4 hcur
      have C5 := chg_setB x4 g (i * 8) (.int .u8 18) (.int .i64 0) (.string ⟨#[]⟩) (.slice (some ⟨x3.heap.size, 0, none⟩) 2 2)
      have hcur5 := blk_setB hcur4 (i * 8) (.int .u8 18) (.int .i64 0) (.string ⟨#[]⟩) (.slice (some ⟨x3.heap.size, 0, none⟩) 2 2)
      have hD : Chg (fun q => q = g) wr _ := (L4.mono (fun _ _ h => h.elim)).trans C5
      obtain ⟨hbl, hbj⟩ := hbs
      obtain ⟨ui, hui, _⟩ := hbj i x HX.out
      rw [if_neg (Nat.lt_irrefl i)] at hui
      have hrow5 := hrow.setB (b := begB x.name) (u' := .slice (some ⟨x3.heap.size, 0, none⟩) 2 2) hui (by omega)
      have hb5 : BegSt p g (i + 1) (ps.set i (begF x, .slice (some ⟨x3.heap.size, 0, none⟩) 2 2)) _ := ⟨by rw [List.length_set]; exact hbl, fun j y hy => by
        by_cases hji : j = i
        · subst hji
          have hxy : x = y := by have := HX.out; rw [hy] at this; simpa using this.symm
          subst hxy
          exact ⟨_, by rw [List.getElem?_set_self (by omega), if_pos (Nat.lt_succ_self _)], fun _ X hX => (HT4.args X (C5.trans hX))⟩
        · obtain ⟨u, hu1, hu2⟩ := hbj j y hy
          refine ⟨u, ?_, fun hj X hX => hu2 (by omega) X (hD.trans hX)⟩
          rw [List.getElem?_set_ne (fun e => hji e.symm), hu1]
          by_cases hji' : j < i
          · rw [if_pos hji', if_pos (by omega)]
          · rw [if_neg hji', if_neg (by omega)]⟩
      have H1 := Lib.hid hcur5
      have H2 := Lib.hid hrow5
      have H3 := Lib.hid hb5
      have H4 := Lib.hid (rC.trans hD)
      have H5 := Lib.hid (setB_size cur (i * 8) (.int .u8 18) (.int .i64 0) (.string ⟨#[]⟩) (.slice (some ⟨x3.heap.size, 0, none⟩) 2 2) |>.trans hsz)
      clear hcur5 hrow5 hb5 hD C5 hcur4 HT4 hbj hui hcur hrow hsz t4 t5 t6 t7 g4 g5 g6 g7 G0 L0 L4 L3 L2 L1 G1 G2 G3 G4 hb3 hb4
      generalize ((((x4.setCell ⟨g, i * 8 + 4, none⟩ (.int .u8 18)).setCell ⟨g, i * 8 + 4 + 1, none⟩ (.int .i64 0)).setCell ⟨g, i * 8 + 4 + 2, none⟩ (.string ⟨#[]⟩)).setCell ⟨g, i * 8 + 4 + 3, none⟩ (.slice (some ⟨x3.heap.size, 0, none⟩) 2 2)) = W5 at *
      go_wp2_with fail
      go_roundw
      case rel => exact ⟨i + 1, _, _, by omega, by go_num, H1.out, H5.out, H2.out, H3.out, H4.out⟩
      case measure => simp [intOf]; omega
    · obtain rfl : i = p.flows.length := by omega
      have hB := F4.size
      have hw3g := hg0
      have eVX : ∀ X, Ext wr X → Chg (fun q => q = g) V X := fun X hX => chg_ext rC hX
      have hfst : ps.map (·.1) = p.flows.map begF := by
        obtain ⟨hbl, hbj⟩ := hbs
        apply List.ext_getElem?
        intro j
        rw [List.getElem?_map, List.getElem?_map]
        by_cases hj : j < p.flows.length
        · obtain ⟨u, hu, _⟩ := hbj j _ (List.getElem?_eq_getElem hj)
          rw [if_pos hj] at hu
          rw [hu, List.getElem?_eq_getElem hj]
          rfl
        · rw [List.getElem?_eq_none (by omega), List.getElem?_eq_none (by omega)]
          rfl
      have HRQ : Hid (∀ X, Ext wr X → RdPr X 0 false (begP p) #[.int .i64 p.st, .slice ti p.ins.length di, .slice (some ⟨g, 0, none⟩) p.flows.length (p.flows.length + 1), .slice to_ p.outs.length do_]) := by
        show ∀ X, _ → _
        intro X hX
        obtain ⟨_, _, _, i1, _, _, i4, _⟩ := HI.out
        obtain ⟨_, _, _, o1, _, _, o4, _⟩ := HO.out
        have hVX := eVX X hX
        have r1 := TwIn.rd ((HTW.out.ins.lift (Chg.refl _ _) eV).other HCV.out (by decide) hVX hg0) (fun i x hx => by obtain ⟨a, b, c, _⟩ := i4 i x hx; exact ⟨a, b, c⟩) i1
        have r3 := TwStr.rd ((HTW.out.outs.lift (Chg.refl _ _) eV).other HCV.out (by decide) hVX hg0) (fun x hx => by obtain ⟨i, hi, rfl⟩ := List.getElem_of_mem hx; exact (o4 i _ (List.getElem?_eq_getElem hi)).1) o1
        obtain ⟨hbl, hbj⟩ := hbs
        have r2 := hrow.rdFl (w0 := X) (cap := p.flows.length + 1) (Ext.heap hX hcur) (Chg.refl _ _) (fun q hq => by
          obtain ⟨j, hj, rfl⟩ := List.getElem_of_mem hq
          have hj' : j < p.flows.length := by omega
          obtain ⟨u, hu1, hu2⟩ := hbj j _ (List.getElem?_eq_getElem hj')
          rw [if_pos hj', List.getElem?_eq_getElem hj] at hu1
          simp only [Option.some.injEq] at hu1
          rw [hu1]
          obtain ⟨f1, f2, f3, f4, _⟩ := HF.out.fine (List.getElem?_eq_getElem hj')
          exact ⟨⟨f1, f2, f3, f4, by simp [begF, begB, opE, Ex.op, isU8], by simp [begF, begB, opE, Ex.n, isI64], by simp [begF, begB, opE, Ex.name, sNo, ByteArray.size]⟩, hu2 hj' X (hX.mono (fun _ _ h => h.elim))⟩) (by omega) (by unfold maxLen; omega) (by rw [hbl]; unfold fitsR; omega)
        rw [hfst, hbl] at r2
        exact ⟨_, _, _, rfl, hst, r1.plain.lower (Nat.zero_le _), r2, r3.plain.lower (Nat.zero_le _)⟩
      have HCQ : Hid (∀ X, Ext wr X → Calls Try.prog 25 #[.agg #[.int .i64 p.st, .slice ti p.ins.length di, .slice (some ⟨g, 0, none⟩) p.flows.length (p.flows.length + 1), .slice to_ p.outs.length do_]] X fun e w' => e = .returned (.int .i64 0) ∧ Ext X w') := by
        show ∀ X, _ → _
        intro X hX
        have := stCheck_any (begP p) _ X (HRQ.out X hX)
        rw [beg_starts HN.out] at this
        exact this
      have m1 := Int.emod_nonneg kk (show (p.flows.length : Int) ≠ 0 by omega)
      have m2 := Int.emod_lt_of_pos kk hpl'
      obtain ⟨k, hk⟩ : ∃ k : Nat, kk % (p.flows.length : Int) = k := ⟨_, (Int.toNat_of_nonneg m1).symm⟩
      have hkl : k < p.flows.length := by omega
      have HK := Lib.hid hk
      have FW := ec _ rC
      have HT2 := Lib.hid (twinProg_any (begP p) _ wr (HRQ.out wr (Chg.refl _ _)))
      clear hk hrow hbs hcur hsz hfst eVX
      go_wp2_with fail
      rw [HK.out]
      refine HT2.out.mono ?_
      rintro e w6 ⟨vi, vf, vo, rs, rfl, ht⟩
      obtain ⟨ti2, di2, rfl, _⟩ : ∃ ti di, vi = .slice ti p.ins.length di ∧ True := by obtain ⟨g, _, h, _⟩ := ht.ins.block; exact ⟨_, _, h, trivial⟩
      obtain ⟨to2, do2, rfl, _⟩ : ∃ ti di, vo = .slice ti p.outs.length di ∧ True := by obtain ⟨g, _, h, _⟩ := ht.outs.block; exact ⟨_, _, h, trivial⟩
      have hbl : (begP p).flows.length = p.flows.length := by simp [begP]
      have htf := ht.flows
      rw [hbl] at htf
      obtain ⟨g2, cur0, rfl, hg20, hgb, hgs⟩ := htf.block
      have HTW2 := Lib.hid ht
      have hrs : rs.length = p.flows.length := by rw [← hbl, ← ht.fst, List.length_map]
      have hsh := TwRow.short htf
      rw [← hrs, take_flat flP_len, hrs] at hsh
      obtain ⟨cur, hcur, hsz, hrow, hc1, hc2, hgb2⟩ := RowOf.own (r := []) (ps := rs) flP_len (by simpa using hsh)
      have E6 := ht.ext
      clear ht HT2 hgb hgs hsh htf cur0
      have hg2w : g2 < w6.heap.size := lt_of_block hcur
      go_upto_region 10 with (fail)
      generalize hV2 : w6.alloc _ = V2
      obtain ⟨sV2, bV2, eV2⟩ := chain1 hV2
      clear hV2
      generalize hT : w6.heap.size = T at *
      have HT := Lib.hid hT
      clear hT
      have hcurV2 := Ext.heap eV2 hcur
      have FV2 := (FW.trans E6).trans eV2
      have LV2 := E6.trans eV2
      have ec2 : ∀ X, Chg (fun q => q = g2) V2 X → Ext W0 X := fun X h => Ext.then FV2 h (fun b hb => by have := FW.size; omega)
      have lc2 : ∀ X, Chg (fun q => q = g2) V2 X → Ext wr X := fun X h => Ext.then LV2 h (fun b hb => by omega)
      have hTg : T ≠ g2 := by have := HT.out; omega
      have s0 : ∀ X, Chg (fun q => q = g2) V2 X → X.cell? ⟨T, 0, none⟩ = some (.int .i64 p.st) := fun X hX => (blk_cell (hX.heap bV2 hTg) 0).trans rfl
      have s1 : ∀ X, Chg (fun q => q = g2) V2 X → X.cell? ⟨T, 1, none⟩ = some (.slice ti2 p.ins.length di2) := fun X hX => (blk_cell (hX.heap bV2 hTg) 1).trans rfl
      have s2 : ∀ X, Chg (fun q => q = g2) V2 X → X.cell? ⟨T, 2, none⟩ = some (.slice (some ⟨g2, 0, none⟩) p.flows.length (p.flows.length + 1)) := fun X hX => (blk_cell (hX.heap bV2 hTg) 2).trans rfl
      have s3 : ∀ X, Chg (fun q => q = g2) V2 X → X.cell? ⟨T, 3, none⟩ = some (.slice to2 p.outs.length do2) := fun X hX => (blk_cell (hX.heap bV2 hTg) 3).trans rfl
      have q0 : ∀ X, Ext wr X → X.cell? ⟨Q, 0, none⟩ = some (.int .i64 p.st) := fun X hX => z0 X (chg_ext rC hX)
      have q1 : ∀ X, Ext wr X → X.cell? ⟨Q, 1, none⟩ = some (.slice ti p.ins.length di) := fun X hX => z1 X (chg_ext rC hX)
      have q2 : ∀ X, Ext wr X → X.cell? ⟨Q, 2, none⟩ = some (.slice (some ⟨g, 0, none⟩) p.flows.length (p.flows.length + 1)) := fun X hX => z2 X (chg_ext rC hX)
      have q3 : ∀ X, Ext wr X → X.cell? ⟨Q, 3, none⟩ = some (.slice to_ p.outs.length do_) := fun X hX => z3 X (chg_ext rC hX)
      obtain ⟨x, hx⟩ : ∃ x, p.flows[k]? = some x := ⟨_, List.getElem?_eq_getElem hkl⟩
      obtain ⟨y, hy⟩ : ∃ y, p.flows[0]? = some y := ⟨_, List.getElem?_eq_getElem hpl⟩
      have hyf := HF.out.fine hy
      obtain ⟨_, _, e, _, _, _, hr, _⟩ := HF.out
      simp only [Value.slice.injEq, true_and] at e
      obtain ⟨rfl, rfl⟩ := e
      obtain ⟨_, _, _, _, b, o, rfl, _, _, c0, _⟩ := hr 0 _ hy
      rw [Nat.zero_mul, Nat.add_zero] at c0
      have d0 : ∀ X, Ext W0 X → X.cell? ⟨b, o, none⟩ = _ := fun X hX => Ext.cell (e0.trans hX) c0
      have hu : ∀ c, c < 8 → ∃ u, ∀ X, Ext V2 X → X.cell? ⟨g2, k * 8 + c, none⟩ = some u := fun c hc => by
        have h8 : k * 8 + c < cur.size := by omega
        exact ⟨cur[k * 8 + c], fun X hX => (blk_cell (Ext.heap hX hcurV2) _).trans (Array.getElem?_eq_getElem h8)⟩
      obtain ⟨u4, t4⟩ := hu 4 (by omega)
      obtain ⟨u5, t5⟩ := hu 5 (by omega)
      obtain ⟨u6, t6⟩ := hu 6 (by omega)
      obtain ⟨u7, t7⟩ := hu 7 (by omega)
      have g4 : ∀ X, Ext V2 X → X.frozen? ⟨g2, k * 8 + 4, none⟩ = false := fun X hX => blk_free (Ext.heap hX hcurV2) _
      have g5 : ∀ X, Ext V2 X → X.frozen? ⟨g2, k * 8 + 4 + 1, none⟩ = false := fun X hX => blk_free (Ext.heap hX hcurV2) _
      have g6 : ∀ X, Ext V2 X → X.frozen? ⟨g2, k * 8 + 4 + 2, none⟩ = false := fun X hX => blk_free (Ext.heap hX hcurV2) _
      have g7 : ∀ X, Ext V2 X → X.frozen? ⟨g2, k * 8 + 4 + 3, none⟩ = false := fun X hX => blk_free (Ext.heap hX hcurV2) _
      have G0 : Chg (fun q => q = g2) V2 V2.drew := (Chg.refl _ _).drew
      have L0 : Ext V2 V2.drew := (Chg.refl _ _).drew
      have kq1 : (k : Int) < (p.flows.length : Int) := by omega
      have HXK := Lib.hid hx
      have HYK := Lib.hid hy
      clear hr hx hy c0 hu m1 m2 z0 z1 z2 z3
      go_region_held3 (fun X => Chg (fun q => q = g2) V2 X) (first | assumption | exact Chg.alloc (by assumption) _ | exact Chg.trans G2 (chg_setB _ _ _ _ _ _ _))
        (first
          | (have _ := G1; go_at_call 14; refine (stOf_new 19 _ 1 1 _ _ rfl).mono ?_; rintro e x2 ⟨rfl, hb2, E2⟩; have G2 := chg_ext G1 E2; have L2 := L1.trans E2)
          | (have _ := G0; go_at_call 13; refine (stName_any _ _).mono ?_; rintro e x1 ⟨rfl, E1⟩; have G1 := chg_ext G0 E1; have L1 := L0.trans E1))
      have hg2l := lt_of_block hcurV2
      have HT4 := StA.op1 (S := fun q => q = g2) (o := 19) (by unfold isU8; omega) hb2 (by have := L1.size; omega) (fun X _ => exa_nm X y.name hyf.1)
      have C5 := chg_setB x2 g2 (k * 8) (.int .u8 19) (.int .i64 0) (.string ⟨#[]⟩) (.slice (some ⟨x1.heap.size, 0, none⟩) 1 1)
      have hcur5 := blk_setB (Ext.heap L2 hcurV2) (k * 8) (.int .u8 19) (.int .i64 0) (.string ⟨#[]⟩) (.slice (some ⟨x1.heap.size, 0, none⟩) 1 1)
      have hD : Chg (fun q => q = g2) V2 _ := (L2.mono (fun _ _ h => h.elim)).trans C5
      have hfs := HTW2.out.fst
      have hrk : rs[k]? = some (begF x, (rs[k]'(by omega)).2) := by
        have h1 : (rs.map (·.1))[k]? = some (begF x) := by rw [hfs]; simp only [begP]; rw [List.getElem?_map, HXK.out]; rfl
        rw [List.getElem?_map, List.getElem?_eq_getElem (by omega)] at h1
        rw [List.getElem?_eq_getElem (show k < rs.length by omega)]
        simp only [Option.map_some, Option.some.injEq] at h1
        exact congrArg some (Prod.ext h1 rfl)
      have hrow5 := hrow.setB (b := preB y.name) (u' := .slice (some ⟨x1.heap.size, 0, none⟩) 1 1) hrk (by omega)
      have HP5 : Hid (RdPr ((((x2.setCell ⟨g2, k * 8 + 4, none⟩ (.int .u8 19)).setCell ⟨g2, k * 8 + 4 + 1, none⟩ (.int .i64 0)).setCell ⟨g2, k * 8 + 4 + 2, none⟩ (.string ⟨#[]⟩)).setCell ⟨g2, k * 8 + 4 + 3, none⟩ (.slice (some ⟨x1.heap.size, 0, none⟩) 1 1)) 0 false (lackP p k x y) #[.int .i64 p.st, .slice ti2 p.ins.length di2, .slice (some ⟨g2, 0, none⟩) p.flows.length (p.flows.length + 1), .slice to2 p.outs.length do2]) := by
        show RdPr _ _ _ _ _
        obtain ⟨_, _, _, i1, _, _, i4, _⟩ := HI.out
        obtain ⟨_, _, _, o1, _, _, o4, _⟩ := HO.out
        have r1 := TwIn.rd ((HTW2.out.ins.lift (Chg.refl _ _) eV2).other hcurV2 (by decide) hD hg20) (fun i x hx => by obtain ⟨a, b, c, _⟩ := i4 i x hx; exact ⟨a, b, c⟩) i1
        have r3 := TwStr.rd ((HTW2.out.outs.lift (Chg.refl _ _) eV2).other hcurV2 (by decide) hD hg20) (fun x hx => by obtain ⟨i, hi, rfl⟩ := List.getElem_of_mem hx; exact (o4 i _ (List.getElem?_eq_getElem hi)).1) o1
        have r2 := hrow5.rdFl (cap := p.flows.length + 1) hcur5 (Chg.refl _ _) (fun q hq => by
          rcases List.mem_or_eq_of_mem_set hq with hq | rfl
          · have hm : q.1 ∈ (begP p).flows := by rw [← hfs]; exact List.mem_map.2 ⟨q, hq, rfl⟩
            simp only [begP, List.mem_map] at hm
            obtain ⟨z, hz, hzq⟩ := hm
            obtain ⟨j, hj, rfl⟩ := List.getElem_of_mem hz
            obtain ⟨f1, f2, f3, f4, _⟩ := HF.out.fine (List.getElem?_eq_getElem hj)
            refine ⟨?_, ?_⟩
            · rw [← hzq]
              exact ⟨f1, f2, f3, f4, by simp [begF, begB, opE, Ex.op, isU8], by simp [begF, begB, opE, Ex.n, isI64], by simp [begF, begB, opE, Ex.name, sNo, ByteArray.size]⟩
            · exact (((HTW2.out.low q hq g2 rfl).ext eV2).far hD (fun b hb => by omega)).plain.lower (Nat.zero_le _)
          · obtain ⟨f1, f2, f3, f4, _⟩ := HF.out.fine HXK.out
            exact ⟨⟨f1, f2, f3, f4, by simp [preB, opE, Ex.op, isU8], by simp [preB, opE, Ex.n, isI64], by simp [preB, opE, Ex.name, sNo, ByteArray.size]⟩, HT4.args _ C5⟩) (by rw [List.length_set]; omega) (by unfold maxLen; omega) (by rw [List.length_set, hrs]; unfold fitsR; omega)
        rw [List.map_set, hfs, List.length_set, hrs] at r2
        exact ⟨_, _, _, rfl, hst, r1.plain.lower (Nat.zero_le _), r2, r3.plain.lower (Nat.zero_le _)⟩
      have HCR := stCheck_any (lackP p k x y) _ _ HP5.out
      have HCR2 : Hid (∀ X, Ext ((((x2.setCell ⟨g2, k * 8 + 4, none⟩ (.int .u8 19)).setCell ⟨g2, k * 8 + 4 + 1, none⟩ (.int .i64 0)).setCell ⟨g2, k * 8 + 4 + 2, none⟩ (.string ⟨#[]⟩)).setCell ⟨g2, k * 8 + 4 + 3, none⟩ (.slice (some ⟨x1.heap.size, 0, none⟩) 1 1)) X → Calls Try.prog 25 #[.agg #[.int .i64 p.st, .slice ti2 p.ins.length di2, .slice (some ⟨g2, 0, none⟩) p.flows.length (p.flows.length + 1), .slice to2 p.outs.length do2]] X fun e w' => e = .returned (.int .i64 9) ∧ Ext X w') := by
        show ∀ X, _ → _
        intro X hX
        have := stCheck_any (lackP p k x y) _ X (HP5.out.ext hX)
        rw [lack_starts HN.out HXK.out (List.mem_of_getElem? HYK.out)] at this
        exact this
      clear HCR HP5 hrow5 hcur5 HT4 hfs hrk C5 t4 t5 t6 t7 g4 g5 g6 g7 G0 L0 L1 L2 G1 G2 hb2
      generalize ((((x2.setCell ⟨g2, k * 8 + 4, none⟩ (.int .u8 19)).setCell ⟨g2, k * 8 + 4 + 1, none⟩ (.int .i64 0)).setCell ⟨g2, k * 8 + 4 + 2, none⟩ (.string ⟨#[]⟩)).setCell ⟨g2, k * 8 + 4 + 3, none⟩ (.slice (some ⟨x1.heap.size, 0, none⟩) 1 1)) = W5 at *
      have LW := lc2 _ hD
      have v0 : ∀ X, Ext W5 X → X.cell? ⟨T, 0, none⟩ = some (.int .i64 p.st) := fun X hX => s0 X (chg_ext hD hX)
      have v1 : ∀ X, Ext W5 X → X.cell? ⟨T, 1, none⟩ = some (.slice ti2 p.ins.length di2) := fun X hX => s1 X (chg_ext hD hX)
      have v2 : ∀ X, Ext W5 X → X.cell? ⟨T, 2, none⟩ = some (.slice (some ⟨g2, 0, none⟩) p.flows.length (p.flows.length + 1)) := fun X hX => s2 X (chg_ext hD hX)
      have v3 : ∀ X, Ext W5 X → X.cell? ⟨T, 3, none⟩ = some (.slice to2 p.outs.length do2) := fun X hX => s3 X (chg_ext hD hX)
      clear s0 s1 s2 s3
      go_wp2_with fail
      refine (HCQ.out _ LW).mono ?_
      rintro e x3 ⟨rfl, E3⟩
      go_wp2_with fail
      refine (HCR2.out _ E3).mono ?_
      rintro e x4 ⟨rfl, E4⟩
      go_wp2_with fail
      go_ret
      exact ⟨rfl, ((e0.trans (ec2 _ hD)).trans E3).trans E4⟩
end Go.Proofs.Ytcbdeoekehkbiaa
