/- LateTells answers true. -/
import Derived.Test.YtjdficgejjkaoaaLives
import Derived.Test.YtjdficgejjkaoaaRefAge
import Derived.Test.YtjdficgejjkaoaaTwinP
import Derived.Test.YtjdficgejjkaoaaLeft
import Derived.Deep.RegionHeld3
namespace Go.Proofs.Ytjdficgejjkaoaa
open Go.RowKit
set_option linter.unusedVariables false
set_option linter.unusedSimpArgs false

theorem RdPr.low {w : World} {lo lo' : Nat} {t : Bool} {p : PrD} {cs : Array Value} (h : RdPr w lo t p cs) (hl : lo' ≤ lo) : RdPr w lo' t p cs := by
  obtain ⟨vi, vf, vo, rfl, h1, h2, h3, h4⟩ := h
  exact ⟨vi, vf, vo, rfl, h1, h2.lower hl, h3.lower hl, h4.lower hl⟩
theorem great14_any (p : PrD) (cs : Array Value) (w : World) (h : RdPr w 0 false p cs) : Calls Try.prog 9 #[.agg cs] w (RetB w) := by
  have hp := fun w' (e : Ext w w') => progSize_any p cs w' (h.ext e)
  have HP := Lib.hid hp
  obtain ⟨ai, ci, af, cf, ao, co, rfl⟩ := pr_form h
  clear hp h
  have e0 := (Chg.refl (fun _ => False) w).alloc (.cells #[.int .i64 p.st, .slice ai p.ins.length ci, .slice af p.flows.length cf, .slice ao p.outs.length co] 26)
  have b0 := heap_alloc_new w (.cells #[.int .i64 p.st, .slice ai p.ins.length ci, .slice af p.flows.length cf, .slice ao p.outs.length co] 26)
  go_enter Try.func9, Try.ntmps9
  go_wp2_with fail
  generalize (w.alloc (.cells #[.int .i64 p.st, .slice ai p.ins.length ci, .slice af p.flows.length cf, .slice ao p.outs.length co] 26)) = W0 at *
  have y1 : ∀ X, Ext W0 X → X.cell? ⟨w.heap.size, 1, none⟩ = some (.slice ai p.ins.length ci) := fun X hX => (blk_cell (Ext.heap hX b0) 1).trans rfl
  have y2 : ∀ X, Ext W0 X → X.cell? ⟨w.heap.size, 2, none⟩ = some (.slice af p.flows.length cf) := fun X hX => (blk_cell (Ext.heap hX b0) 2).trans rfl
  have y3 : ∀ X, Ext W0 X → X.cell? ⟨w.heap.size, 3, none⟩ = some (.slice ao p.outs.length co) := fun X hX => (blk_cell (Ext.heap hX b0) 3).trans rfl
  refine (HP.out _ e0).mono ?_
  rintro e w1 ⟨m, rfl, E1⟩
  go_wp2_with fail
  all_goals (go_ret; exact ⟨_, rfl, e0.trans E1⟩)
set_option maxRecDepth 100000 in
set_option maxHeartbeats 8000000 in
theorem lateTells_any (p : PrD) (cs : Array Value) (l : List Int) (v : Value) (fi : Int) (r1 : ByteArray) (r2 : Int) (w : World) (h : RdPr w 0 false p cs) (hl : RdIntV w 0 false l v) {a b c d : Value} (hcs : cs = #[a, b, c, d]) :
    Calls Try.prog 3 #[.agg #[a, b, c, d, v, .int .i64 fi, .string r1, .int .i64 r2]] w (RetT w) := by
  have HP := Lib.hid h
  have HL := Lib.hid hl
  obtain ⟨ai, ci, af, cf, ao, co, hform⟩ := pr_form h
  obtain ⟨la, lc, rfl, hlf, _⟩ := hl.form
  unfold fitsR at hlf
  rw [hcs] at hform
  simp only [Array.mk.injEq, List.cons.injEq, and_true] at hform
  obtain ⟨rfl, rfl, rfl, rfl⟩ := hform
  subst hcs
  have HL64 := Lib.hid (fun x (hx : x ∈ l) => by
    obtain ⟨i, hi⟩ := List.getElem?_of_mem hx
    exact (hl.get hi).1 : ∀ x, x ∈ l → isI64 x)
  clear h hl
  have e0 := (Chg.refl (fun _ => False) w).alloc (.cells #[.int .i64 p.st, .slice ai p.ins.length ci, .slice af p.flows.length cf, .slice ao p.outs.length co, .slice la l.length lc, .int .i64 fi, .string r1, .int .i64 r2] 31)
  have b0 := heap_alloc_new w (.cells #[.int .i64 p.st, .slice ai p.ins.length ci, .slice af p.flows.length cf, .slice ao p.outs.length co, .slice la l.length lc, .int .i64 fi, .string r1, .int .i64 r2] 31)
  go_enter Try.func3, Try.ntmps3
  go_wp2_with fail
  generalize (w.alloc (.cells #[.int .i64 p.st, .slice ai p.ins.length ci, .slice af p.flows.length cf, .slice ao p.outs.length co, .slice la l.length lc, .int .i64 fi, .string r1, .int .i64 r2] 31)) = W0 at *
  refine (great14_any p _ _ (HP.out.ext e0)).mono ?_
  rintro e w1 ⟨gb, rfl, E1⟩
  have F1 := e0.trans E1
  have b1 := Ext.heap E1 b0
  clear b0 E1 e0
  have y0 : ∀ X, Ext w1 X → X.cell? ⟨w.heap.size, 0, none⟩ = some (.int .i64 p.st) := fun X hX => (blk_cell (Ext.heap hX b1) 0).trans rfl
  have y1 : ∀ X, Ext w1 X → X.cell? ⟨w.heap.size, 1, none⟩ = some (.slice ai p.ins.length ci) := fun X hX => (blk_cell (Ext.heap hX b1) 1).trans rfl
  have y2 : ∀ X, Ext w1 X → X.cell? ⟨w.heap.size, 2, none⟩ = some (.slice af p.flows.length cf) := fun X hX => (blk_cell (Ext.heap hX b1) 2).trans rfl
  have y3 : ∀ X, Ext w1 X → X.cell? ⟨w.heap.size, 3, none⟩ = some (.slice ao p.outs.length co) := fun X hX => (blk_cell (Ext.heap hX b1) 3).trans rfl
  have y4 : ∀ X, Ext w1 X → X.cell? ⟨w.heap.size, 4, none⟩ = some (.slice la l.length lc) := fun X hX => (blk_cell (Ext.heap hX b1) 4).trans rfl
  have y5 : ∀ X, Ext w1 X → X.cell? ⟨w.heap.size, 5, none⟩ = some (.int .i64 fi) := fun X hX => (blk_cell (Ext.heap hX b1) 5).trans rfl
  have y6 : ∀ X, Ext w1 X → X.cell? ⟨w.heap.size, 6, none⟩ = some (.string r1) := fun X hX => (blk_cell (Ext.heap hX b1) 6).trans rfl
  have y7 : ∀ X, Ext w1 X → X.cell? ⟨w.heap.size, 7, none⟩ = some (.int .i64 r2) := fun X hX => (blk_cell (Ext.heap hX b1) 7).trans rfl
  have er : Ext w1 w1 := Chg.refl _ _
  cases gb
  case true =>
    go_wp2_with fail
    refine (lives_any _).mono ?_
    rintro e w3 ⟨rfl, E3⟩
    go_wp2_with fail
    go_ret
    exact ⟨rfl, F1.trans E3⟩
  by_cases hbig : 200 < l.length
  · have hbI : (200 : Int) < (l.length : Int) := by omega
    go_wp2_with fail
    refine (lives_any _).mono ?_
    rintro e w3 ⟨rfl, E3⟩
    go_wp2_with fail
    go_ret
    exact ⟨rfl, F1.trans E3⟩
  have hbI : ¬ (200 : Int) < (l.length : Int) := by omega
  have HT := Lib.hid (twinProg_any p _ w1 (HP.out.ext F1))
  go_wp2_with fail
  refine HT.out.mono ?_
  rintro e w2 ⟨vi, vf, vo, ps, rfl, ht⟩
  have HRT := Lib.hid (ht.rd (HP.out.ext F1))
  obtain ⟨ti, ui, tf, uf, to_, uo, hform⟩ := pr_form HRT.out
  simp only [Array.mk.injEq, List.cons.injEq, and_true, true_and] at hform
  obtain ⟨rfl, rfl, rfl⟩ := hform
  have E2 := ht.ext
  clear ht HT
  have e3 := (Chg.refl (fun _ => False) w2).alloc (.cells #[.int .i64 p.st, .slice ti p.ins.length ui, .slice tf p.flows.length uf, .slice to_ p.outs.length uo] 26)
  have b3 := heap_alloc_new w2 (.cells #[.int .i64 p.st, .slice ti p.ins.length ui, .slice tf p.flows.length uf, .slice to_ p.outs.length uo] 26)
  have E3 := E2.trans e3
  go_wp2_with fail
  generalize (w2.alloc (.cells #[.int .i64 p.st, .slice ti p.ins.length ui, .slice tf p.flows.length uf, .slice to_ p.outs.length uo] 26)) = W3 at *
  refine (twinInts_any l _ W3 (HL.out.ext (F1.trans E3))).mono ?_
  rintro e w4 ⟨v4, rfl, ht4⟩
  have HRI := Lib.hid (TwInt.rd ht4 HL64.out (by unfold fitsR; omega))
  obtain ⟨ta, tc, rfl, _⟩ := HRI.out.form
  obtain ⟨_, _, _, _, E4⟩ := ht4
  have F4 := E3.trans E4
  have b4 := Ext.heap E4 b3
  replace y0 := fun X (hX : Ext w4 X) => y0 X (F4.trans hX)
  replace y1 := fun X (hX : Ext w4 X) => y1 X (F4.trans hX)
  replace y2 := fun X (hX : Ext w4 X) => y2 X (F4.trans hX)
  replace y3 := fun X (hX : Ext w4 X) => y3 X (F4.trans hX)
  replace y4 := fun X (hX : Ext w4 X) => y4 X (F4.trans hX)
  replace y5 := fun X (hX : Ext w4 X) => y5 X (F4.trans hX)
  replace y6 := fun X (hX : Ext w4 X) => y6 X (F4.trans hX)
  replace y7 := fun X (hX : Ext w4 X) => y7 X (F4.trans hX)
  have t0 : ∀ X, Ext w4 X → X.cell? ⟨w2.heap.size, 0, none⟩ = some (.int .i64 p.st) := fun X hX => (blk_cell (Ext.heap hX b4) 0).trans rfl
  have t1 : ∀ X, Ext w4 X → X.cell? ⟨w2.heap.size, 1, none⟩ = some (.slice ti p.ins.length ui) := fun X hX => (blk_cell (Ext.heap hX b4) 1).trans rfl
  have t2 : ∀ X, Ext w4 X → X.cell? ⟨w2.heap.size, 2, none⟩ = some (.slice tf p.flows.length uf) := fun X hX => (blk_cell (Ext.heap hX b4) 2).trans rfl
  have t3 : ∀ X, Ext w4 X → X.cell? ⟨w2.heap.size, 3, none⟩ = some (.slice to_ p.outs.length uo) := fun X hX => (blk_cell (Ext.heap hX b4) 3).trans rfl
  have er4 : Ext w4 w4 := Chg.refl _ _
  have HTP := Lib.hid (fun (X : World) (hX : Ext w4 X) => HRT.out.ext (e3.trans (E4.trans hX)))
  have HTI := Lib.hid (fun (X : World) (hX : Ext w4 X) => HRI.out.ext hX)
  have HPP := Lib.hid (fun (X : World) (hX : Ext w4 X) => HP.out.ext ((F1.trans F4).trans hX))
  have HLL := Lib.hid (fun (X : World) (hX : Ext w4 X) => HL.out.ext ((F1.trans F4).trans hX))
  have HA1 := Lib.hid (fun (X : World) (hX : Ext w4 X) => age_any p _ l _ fi (r1, r2) X ((HTP.out X hX).low (Nat.zero_le _)).plain ((HTI.out X hX).lower (Nat.zero_le _)).plain)
  have HA2 := Lib.hid (fun (X : World) (hX : Ext w4 X) => refAge_any p _ l _ fi (r1, r2) X (HPP.out X hX) (HLL.out X hX))
  have HC1 := Lib.hid (fun (X : World) (hX : Ext w4 X) => lateChk_any p _ l _ X ((HTP.out X hX).low (Nat.zero_le _)).plain ((HTI.out X hX).lower (Nat.zero_le _)).plain)
  have HC2 := Lib.hid (fun (X : World) (hX : Ext w4 X) => refLateChk_any p _ l _ X (HPP.out X hX) (HLL.out X hX))
  have HL1 := Lib.hid (fun (X : World) (hX : Ext w4 X) => leftProg_any p _ _ X (HTP.out X hX) (HPP.out X hX))
  have HL2 := Lib.hid (fun (X : World) (hX : Ext w4 X) => leftInts_any l _ _ X (HTI.out X hX) (HLL.out X hX))
  unfold RetAge at HA1 HA2
  unfold RetV at HC1 HC2
  unfold RetT at HL1 HL2
  generalize ageP p l fi (r1, r2) = ag at *
  generalize lateChk p l = cb at *
  obtain ⟨ag1, ag2⟩ := ag
  simp only at HA1 HA2
  have bb : (cb == cb) = true := by simp
  have ba1 : (ag1 == ag1) = true := by simp
  have ba2 : (ag2 == ag2) = true := by simp
  clear b1 b3 b4
  go_wp2_with fail
  refine (HA1.out _ er4).mono ?_
  rintro e w5 ⟨rfl, E5⟩
  go_wp2_with fail
  refine (HA2.out _ E5).mono ?_
  rintro e w6 ⟨rfl, E6'⟩
  have E6 := E5.trans E6'
  clear E6' E5 HA1 HA2
  have G0 : Ext w4 w6.drew := E6.drew
  go_wp2_with fail
  go_region_held3 (fun X => Ext w4 X) (first | assumption)
    (first
      | (go_at_call 15; refine (HC1.out _ (by assumption)).mono ?_; rintro e w7 ⟨rfl, E7⟩; have G7 := G0.trans E7; clear G0)
      | (go_at_call 16; refine (HC2.out _ (by assumption)).mono ?_; rintro e w8 ⟨rfl, E8⟩; have G8 := G7.trans E8; clear G7)
      | (go_at_call 17; refine (HL1.out _ (by assumption)).mono ?_; rintro e w9 ⟨rfl, E9⟩; have G9 := G8.trans E9; clear G8)
      | (go_at_call 18; refine (HL2.out _ (by assumption)).mono ?_; rintro e wa ⟨rfl, Ea⟩; have Ga := G9.trans Ea; clear G9)
      | (go_at_call 10; refine (lives_any _).mono ?_; rintro e wb ⟨rfl, Eb⟩; have Gb := Ga.trans Eb; clear Ga))
  go_wp2_with fail
  go_ret
  exact ⟨rfl, (F1.trans F4).trans Gb⟩
end Go.Proofs.Ytjdficgejjkaoaa
