/- The chapter's flows: lives answers yes. -/
import Derived.Test.YtjdficgejjkaoaaKnownP
import Derived.Test.YtjdficgejjkaoaaLateOf
namespace Go.Proofs.Ytjdficgejjkaoaa
open Go.RowKit
set_option linter.unusedVariables false
set_option linter.unusedSimpArgs false

set_option maxHeartbeats 1000000 in
theorem pre14_any (x : Ex) (u : Value) (w : World) (hx : ExA w x u) : Calls Try.prog 23 #[u] w (RetA (thenE noughtE (preE x)) w) := by
  have HX := Lib.hid hx
  obtain ⟨a, rfl, _, _, _, hav⟩ := hx
  obtain ⟨aa, ac, rfl, _⟩ := hav.form
  clear hav
  go_enter Try.func23, Try.ntmps23
  go_wp2_with fail
  generalize hw1 : w.alloc _ = w1
  obtain ⟨s1, b1, e1⟩ := chain1 hw1
  generalize hw2 : w1.alloc _ = w2
  obtain ⟨s2, b2, e2⟩ := chain1 hw2
  generalize hw3 : w2.alloc _ = w3
  obtain ⟨s3, b3, e3⟩ := chain1 hw3
  have E := (e1.trans e2).trans e3
  rw [s1] at b2
  have hB : w.heap.size + 1 < w3.heap.size := by omega
  have hst : StB (w.heap.size + 1) (fun X => ExA X (preE x) (.agg #[.int .u8 19, .int .i64 0, .string ⟨#[]⟩, .slice (some ⟨w2.heap.size, 0, none⟩) 1 1])) w3 := fun X hX =>
    exa_op (by unfold isU8; omega) (row1 (hX.heap b3 (by omega)) (HX.out.ext (Ext.then E hX (fun b hb => by omega))))
  rw [show w2.heap.size = w.heap.size + 1 + 1 from by omega] at hst
  have B2 := Ext.heap e3 b2
  clear hw1 hw2 hw3
  refine (two14_st (w.heap.size + 1) 18 _ _ _ _ w3 (by unfold isU8; omega) hB (fun X _ => exa_nought X) hst).mono ?_
  rintro e w4 ⟨r, rfl, hr, E4⟩
  obtain ⟨ra, rfl, _, _, _, hrv⟩ := hr.at
  obtain ⟨rb, rc, rfl, _⟩ := hrv.form
  have B4 := Ext.heap E4 B2
  have c0 := (blk_cell B4 0).trans rfl
  have c1 := (blk_cell B4 1).trans rfl
  have c2 := (blk_cell B4 2).trans rfl
  have c3 := (blk_cell B4 3).trans rfl
  simp only [List.getElem?_toArray, List.getElem?_cons_zero, List.getElem?_cons_succ] at c0 c1 c2 c3
  have f0 := blk_free B4 0
  have f1 := blk_free B4 1
  have f2 := blk_free B4 2
  have f3 := blk_free B4 3
  have HR := Lib.hid hr
  clear hr hrv hst
  generalize hy : opE 18 [noughtE, preE x] = y at *
  have C5 := chg_sets4 w4 (w.heap.size + 1) (.int .u8 y.op) (.int .i64 y.n) (.string y.name) (.slice rb y.args.length rc)
  have B5 := blk_set (blk_set (blk_set (blk_set B4 0 (.int .u8 y.op)) 1 (.int .i64 y.n)) 2 (.string y.name)) 3 (.slice rb y.args.length rc)
  have k0 := blk_cell B5 0
  have k1 := blk_cell B5 1
  have k2 := blk_cell B5 2
  have k3 := blk_cell B5 3
  simp at k0 k1 k2 k3
  go_wp2_with fail
  refine bodyPost_ret (v := .agg #[.int .u8 y.op, .int .i64 y.n, .string y.name, .slice rb y.args.length rc]) ?_ rfl ⟨_, rfl, ?_, Ext.then (E.trans E4) C5 (fun b hb => by omega)⟩
  · simp [results, Try.results23, go_sem, k0, k1, k2, k3]
  · rw [show thenE noughtE (preE x) = y from hy]
    exact HR.out _ C5
theorem fine_cS : FlFine crossS := by refine ⟨sz1 _, ?_, ?_, ?_, ?_, ?_, sz1 _⟩ <;> simp [crossS, nmE, Ex.op, Ex.n, Ex.name, isU8, isI64]
theorem fine_cT : FlFine crossT := by refine ⟨sz1 _, ?_, ?_, ?_, ?_, ?_, ?_⟩ <;> simp [crossT, thenE, opE, Ex.op, Ex.n, Ex.name, sNo, isU8, isI64, maxLen, ByteArray.size]
set_option maxRecDepth 100000 in
set_option maxHeartbeats 8000000 in
theorem lives_any (w : World) : Calls Try.prog 10 #[] w (RetT w) := by
  go_enter Try.func10, Try.ntmps10
  go_wp2_with fail
  refine (known_any _).mono ?_
  rintro e w1 ⟨cs, rfl, hpr, E1⟩
  have HP := Lib.hid hpr
  obtain ⟨ai, ci, af, cf, ao, co, rfl⟩ := pr_form hpr
  clear hpr
  have e2 := (Chg.refl (fun _ => False) w1).alloc (.cells #[.int .i64 knownP.st, .slice ai knownP.ins.length ci, .slice af knownP.flows.length cf, .slice ao knownP.outs.length co] 26)
  have b2 := heap_alloc_new w1 (.cells #[.int .i64 knownP.st, .slice ai knownP.ins.length ci, .slice af knownP.flows.length cf, .slice ao knownP.outs.length co] 26)
  go_wp2_with fail
  generalize (w1.alloc (.cells #[.int .i64 knownP.st, .slice ai knownP.ins.length ci, .slice af knownP.flows.length cf, .slice ao knownP.outs.length co] 26)) = W0 at *
  have y0 : ∀ X, Ext W0 X → X.cell? ⟨w1.heap.size, 0, none⟩ = some (.int .i64 knownP.st) := fun X hX => (blk_cell (Ext.heap hX b2) 0).trans rfl
  have y1 : ∀ X, Ext W0 X → X.cell? ⟨w1.heap.size, 1, none⟩ = some (.slice ai knownP.ins.length ci) := fun X hX => (blk_cell (Ext.heap hX b2) 1).trans rfl
  have y2 : ∀ X, Ext W0 X → X.cell? ⟨w1.heap.size, 2, none⟩ = some (.slice af knownP.flows.length cf) := fun X hX => (blk_cell (Ext.heap hX b2) 2).trans rfl
  have y3 : ∀ X, Ext W0 X → X.cell? ⟨w1.heap.size, 3, none⟩ = some (.slice ao knownP.outs.length co) := fun X hX => (blk_cell (Ext.heap hX b2) 3).trans rfl
  have er : Ext W0 W0 := Chg.refl _ _
  have F0 := E1.trans e2
  have HPX := Lib.hid (fun (X : World) (hX : Ext W0 X) => HP.out.ext (e2.trans hX))
  clear b2
  refine (lateOf_any knownP _ W0 (HPX.out _ er)).mono ?_
  rintro e w3 ⟨l, v, n, hla, rfl, hv, E3⟩
  obtain ⟨rfl, rfl⟩ := late_known hla
  obtain ⟨g, rfl, hg, hgb⟩ : LsV w3 W0.heap.size [0, 1, 2] v := by
    rcases hv with ⟨_, h⟩ | ⟨h, _⟩
    · exact h
    · exact absurd rfl h
  clear hv hla
  have hgb : w3.heap[g]? = some (.cells #[.int .i64 0, .int .i64 1, .int .i64 2] 3 (0, 0)) := hgb
  have z0 : ∀ X, Ext w3 X → X.cell? ⟨g, 0, none⟩ = some (.int .i64 0) := fun X hX => (blk_cell (Ext.heap hX hgb) 0).trans rfl
  have z1 : ∀ X, Ext w3 X → X.cell? ⟨g, 1, none⟩ = some (.int .i64 1) := fun X hX => (blk_cell (Ext.heap hX hgb) 1).trans rfl
  have z2 : ∀ X, Ext w3 X → X.cell? ⟨g, 2, none⟩ = some (.int .i64 2) := fun X hX => (blk_cell (Ext.heap hX hgb) 2).trans rfl
  have HRD := Lib.hid (fun (X : World) (hX : Ext w3 X) => (ints_rd (l := [0, 1, 2]) (Ext.heap hX hgb) fits_known.2.1 (by simp) : RdIntV X 0 false [0, 1, 2] (.slice (some ⟨g, 0, none⟩) 3 3)))
  have HAG := Lib.hid (fun (fi : Int) (r : Rf) (X : World) (hX : Ext w3 X) => age_any knownP _ [0, 1, 2] _ fi r X (HPX.out _ (E3.trans hX)) (HRD.out _ hX))
  have HCH := Lib.hid (fun (l : List Int) (v : Value) (X : World) (hX : Ext w3 X) (hl : RdIntV X 0 false l v) => lateChk_any knownP _ l v X (HPX.out _ (E3.trans hX)) hl)
  have er3 : Ext w3 w3 := Chg.refl _ _
  replace y0 := fun X (hX : Ext w3 X) => y0 X (E3.trans hX)
  replace y1 := fun X (hX : Ext w3 X) => y1 X (E3.trans hX)
  replace y2 := fun X (hX : Ext w3 X) => y2 X (E3.trans hX)
  replace y3 := fun X (hX : Ext w3 X) => y3 X (E3.trans hX)
  simp only [List.length_cons, List.length_nil, Nat.reduceAdd]
  clear hgb
  go_wp2_with fail
  have h1 := HAG.out 2 (sX, 0) w3 er3
  rw [age_1] at h1
  refine h1.mono ?_
  rintro e w4 ⟨rfl, E4⟩
  clear h1
  go_wp2_with fail
  have h1 := HAG.out 1 (sS, 0) w4 E4
  rw [age_2] at h1
  refine h1.mono ?_
  rintro e w5 ⟨rfl, E5'⟩
  have E5 := E4.trans E5'
  clear h1 E5' E4
  go_wp2_with fail
  have h1 := HAG.out 0 (sS, 1) w5 E5
  rw [age_3] at h1
  refine h1.mono ?_
  rintro e w6 ⟨rfl, E6'⟩
  have E6 := E5.trans E6'
  clear h1 E6' E5
  go_wp2_with fail
  have h1 := HAG.out 0 (sS, 0) w6 E6
  rw [age_4] at h1
  refine h1.mono ?_
  rintro e w7 ⟨rfl, E7'⟩
  have E7 := E6.trans E7'
  clear h1 E7' E6
  go_wp2_with fail
  refine (name14_any _ _).mono ?_
  rintro e w8 ⟨rfl, E8'⟩
  have E8 := E7.trans E8'
  clear E8' E7
  go_wp2_with fail
  refine (name14_any _ _).mono ?_
  rintro e w9 ⟨rfl, E9'⟩
  have E9 := E8.trans E9'
  clear E9' E8
  go_wp2_with fail
  refine (pre14_any (nmE sS) _ _ (exa_nm _ sS (sz1 _))).mono ?_
  rintro e wa ⟨u, rfl, hu, Ea'⟩
  have Ea := E9.trans Ea'
  obtain ⟨ua, rfl, _, _, _, huv⟩ := hu
  have HUV := Lib.hid huv
  obtain ⟨ub, uc, rfl, _⟩ := huv.form
  clear Ea' E9 huv
  go_wp2_with fail
  have eF := (Chg.refl (fun _ => False) wa).alloc (.cells ([(crossS, .slice none 0 0), (crossT, .slice ub (thenE noughtE (preE (nmE sS))).args.length uc)].flatMap flP).toArray 55)
  have eX := eF.alloc (.cells #[.int .i64 2, .slice none 0 0, .slice (some ⟨wa.heap.size, 0, none⟩) 2 2, .slice none 0 0] 26)
  have bF := Ext.heap ((Chg.refl (fun _ => False) (wa.alloc (.cells ([(crossS, .slice none 0 0), (crossT, .slice ub (thenE noughtE (preE (nmE sS))).args.length uc)].flatMap flP).toArray 55))).alloc (.cells #[.int .i64 2, .slice none 0 0, .slice (some ⟨wa.heap.size, 0, none⟩) 2 2, .slice none 0 0] 26)) (heap_alloc_new wa (.cells ([(crossS, .slice none 0 0), (crossT, .slice ub (thenE noughtE (preE (nmE sS))).args.length uc)].flatMap flP).toArray 55))
  have hfl := fl_rd (ps := [(crossS, .slice none 0 0), (crossT, .slice ub (thenE noughtE (preE (nmE sS))).args.length uc)]) bF (fun i x hx c hc => by have := flat_at flP_len [] hx hc; simpa using this) (by simp) (fun q hq => by
    simp only [List.mem_cons, List.not_mem_nil, or_false] at hq
    rcases hq with rfl | rfl
    · exact ⟨fine_cS, rd_none _⟩
    · exact ⟨fine_cT, HUV.out.ext eX⟩)
  have hcp : RdPr _ 0 false crossP #[.int .i64 2, .slice none 0 0, .slice (some ⟨wa.heap.size, 0, none⟩) 2 2, .slice none 0 0] :=
    ⟨_, _, _, rfl, by unfold crossP isI64; simp, ⟨none, 0, rfl, by simp [fitsR, crossP], Nat.zero_le _, Nat.zero_le _, fun i x hx => by simp [crossP] at hx, fun h => by cases h⟩, hfl, ⟨none, 0, rfl, by simp [fitsR, crossP], Nat.zero_le _, Nat.zero_le _, fun i x hx => by simp [crossP] at hx, fun h => by cases h⟩⟩
  have HOF := Lib.hid (lateOf_any crossP _ _ hcp)
  have Ex := Ea.trans eX
  clear bF hfl hcp eF eX
  refine HOF.out.mono ?_
  rintro e wb ⟨l, v, n, hla, rfl, hv, Eb'⟩
  obtain rfl := late_cross hla
  obtain rfl : v = .slice none 0 0 := by
    rcases hv with ⟨h, _⟩ | ⟨_, h⟩
    · cases h
    · exact h
  have Eb := Ex.trans Eb'
  clear hv hla Eb' Ex HOF
  go_wp2_with fail
  have h1 := HCH.out [0, 1, 2] _ wb Eb (HRD.out _ Eb)
  rw [chk_known] at h1
  refine h1.mono ?_
  rintro e wc ⟨rfl, Ec'⟩
  have Ec := Eb.trans Ec'
  clear h1 Ec' Eb
  go_wp2_with fail
  have E3c := (Chg.refl (fun _ => False) wc).alloc (.cells #[.int .i64 0, .int .i64 0, .int .i64 2] 3)
  have hr3 : RdIntV _ 0 false [0, 0, 2] (.slice (some ⟨wc.heap.size, 0, none⟩) 3 3) := ints_rd (l := [0, 0, 2]) (heap_alloc_new wc (.cells #[.int .i64 0, .int .i64 0, .int .i64 2] 3)) (by simp) (by simp)
  have h1 := HCH.out [0, 0, 2] _ _ (Ec.trans E3c) hr3
  rw [chk_other] at h1
  refine h1.mono ?_
  rintro e wd ⟨rfl, Ed'⟩
  have Ed := (Ec.trans E3c).trans Ed'
  clear h1 Ed' Ec E3c hr3
  go_wp2_with fail
  go_ret
  exact ⟨rfl, F0.trans (E3.trans Ed)⟩
end Go.Proofs.Ytjdficgejjkaoaa
