/- The document's Old and Age of lateness. -/
import Derived.Test.YtjdficgejjkaoaaRefChk
namespace Go.Proofs.Ytjdficgejjkaoaa
open Go.RowKit
set_option linter.unusedVariables false
set_option linter.unusedSimpArgs false

set_option maxRecDepth 100000 in
set_option maxHeartbeats 4000000 in
theorem refOld_any (p : PrD) (cs : Array Value) (l : List Int) (v : Value) (w : World) (h : RdPr w 0 false p cs) (hl : RdIntV w 0 false l v) (hp : progP p = true) (hok : LsOk p l) {k : Nat} {f : FlD} {r : Rf}
    (hk : p.flows[k]? = some f) (hr : r ∈ gthE [] 0 f.body) : Calls Try.prog 38 #[.agg cs, v, .int .i64 k, .agg #[.string r.1, .int .i64 r.2]] w (RetE (l.getD k 0 - leastA l (askOf p k f r)) w) := by
  have HLS := Lib.hid (fun (X : World) (hX : Ext w X) => refLeast_any p cs l v X (h.ext hX) (hl.ext hX) hp hok hk hr)
  have hmr := leastA_rng hok (ask_ok hp (asksP_mem.2 ⟨k, f, r, hk, hr, rfl⟩))
  have hkl : k < l.length := by have := (List.getElem?_eq_some_iff.1 hk).1; have := hok.1; omega
  obtain ⟨ai, ci, af, cf, ao, co, rfl⟩ := pr_form h
  obtain ⟨la, lc, rfl, hlf, _⟩ := hl.form
  unfold fitsR at hlf
  have hxl := List.getElem?_eq_getElem hkl
  obtain ⟨_, b2, o2, rfl, _, _, cu⟩ := hl.get hxl
  have hur := hok.2 _ (List.getElem_mem hkl)
  have hgd : l.getD k 0 = l[k] := by rw [List.getD_eq_getElem?_getD, hxl]; rfl
  rw [hgd]
  generalize l[k] = u at *
  generalize leastA l (askOf p k f r) = m at *
  obtain ⟨r1, r2⟩ := r
  simp only at *
  have hki : (k : Int) < (l.length : Int) := by omega
  have hk0 : (0 : Int) ≤ (k : Int) := by omega
  obtain ⟨u0, u1⟩ := hur
  obtain ⟨m0, m1⟩ := hmr
  have e0 := ((Chg.refl (fun _ => False) w).alloc (.cells #[.int .i64 p.st, .slice ai p.ins.length ci, .slice af p.flows.length cf, .slice ao p.outs.length co] 26)).alloc (.cells #[.string r1, .int .i64 r2] 29)
  have bP := Ext.heap ((Chg.refl (fun _ => False) _).alloc (.cells #[.string r1, .int .i64 r2] 29)) (heap_alloc_new w (.cells #[.int .i64 p.st, .slice ai p.ins.length ci, .slice af p.flows.length cf, .slice ao p.outs.length co] 26))
  have bR := heap_alloc_new (w.alloc (.cells #[.int .i64 p.st, .slice ai p.ins.length ci, .slice af p.flows.length cf, .slice ao p.outs.length co] 26)) (.cells #[.string r1, .int .i64 r2] 29)
  rw [World.size_alloc] at bR
  clear hxl hgd h hl hk hr hok hp
  have hwr : IntKind.i64.wrap (u - m) = u - m := by rw [IntKind.wrap_i64] <;> omega
  go_enter Try.func38, Try.ntmps38
  go_wp2_with fail
  generalize ((w.alloc (.cells #[.int .i64 p.st, .slice ai p.ins.length ci, .slice af p.flows.length cf, .slice ao p.outs.length co] 26)).alloc (.cells #[.string r1, .int .i64 r2] 29)) = W0 at *
  have y0 : ∀ X, Ext W0 X → X.cell? ⟨w.heap.size, 0, none⟩ = some (.int .i64 p.st) := fun X hX => (blk_cell (Ext.heap hX bP) 0).trans rfl
  have y1 : ∀ X, Ext W0 X → X.cell? ⟨w.heap.size, 1, none⟩ = some (.slice ai p.ins.length ci) := fun X hX => (blk_cell (Ext.heap hX bP) 1).trans rfl
  have y2 : ∀ X, Ext W0 X → X.cell? ⟨w.heap.size, 2, none⟩ = some (.slice af p.flows.length cf) := fun X hX => (blk_cell (Ext.heap hX bP) 2).trans rfl
  have y3 : ∀ X, Ext W0 X → X.cell? ⟨w.heap.size, 3, none⟩ = some (.slice ao p.outs.length co) := fun X hX => (blk_cell (Ext.heap hX bP) 3).trans rfl
  have z0 : ∀ X, Ext W0 X → X.cell? ⟨w.heap.size + 1, 0, none⟩ = some (.string r1) := fun X hX => (blk_cell (Ext.heap hX bR) 0).trans rfl
  have z1 : ∀ X, Ext W0 X → X.cell? ⟨w.heap.size + 1, 1, none⟩ = some (.int .i64 r2) := fun X hX => (blk_cell (Ext.heap hX bR) 1).trans rfl
  have zu : ∀ X, Ext W0 X → X.cell? ⟨b2, o2 + k, none⟩ = some (.int .i64 u) := fun X hX => Ext.cell (e0.trans hX) cu
  have G0 : Ext W0 W0.drew := (Chg.refl _ _).drew
  unfold RetE at HLS
  clear bP bR cu
  go_region_held3 (fun X => Ext W0 X) (first | assumption)
    (first
      | (go_at_call 42; refine (HLS.out _ (e0.trans (by assumption))).mono ?_; rintro e w9 ⟨rfl, E9⟩; have G9 := G0.trans E9))
  go_wp2_with fail
  go_ret
  exact ⟨rfl, e0.trans G9⟩
theorem age_out {p : PrD} {l : List Int} {flow : Int} {r : Rf} (h : flow < 0 ∨ (p.flows.length : Int) ≤ flow) : ageP p l flow r = (0, 1) := by
  cases e : lateChk p l
  · exact age_no e
  · refine age_none e (fun x hx => ?_)
    obtain ⟨i, f, r', hi, _, rfl⟩ := asksP_mem.1 hx
    have := (List.getElem?_eq_some_iff.1 hi).1
    have hne : ((askOf p i f r').flow : Int) ≠ flow := by simp only [askOf]; omega
    simp [askIs, hne]
theorem age_miss {p : PrD} {l : List Int} {k : Nat} {f : FlD} {r : Rf} (hi : p.flows[k]? = some f) (hr : r ∉ gthE [] 0 f.body) : ageP p l k r = (0, 1) := by
  cases e : lateChk p l
  · exact age_no e
  · refine age_none e (fun x hx => ?_)
    obtain ⟨i, f', r', hi', hr', rfl⟩ := asksP_mem.1 hx
    unfold askIs
    rw [Bool.and_eq_false_iff]
    by_cases hik : i = k
    · right
      subst hik
      rw [hi] at hi'
      simp only [Option.some.injEq] at hi'
      subst hi'
      rw [decide_eq_false_iff_not]
      intro he
      rw [show (askOf p i f r').ref = r' from rfl] at he
      exact hr (he ▸ hr')
    · left
      rw [decide_eq_false_iff_not]
      simp only [askOf]; omega
set_option maxRecDepth 100000 in
set_option maxHeartbeats 4000000 in
theorem refAge_any (p : PrD) (cs : Array Value) (l : List Int) (v : Value) (fi : Int) (r : Rf) (w : World) (h : RdPr w 0 false p cs) (hl : RdIntV w 0 false l v) : Calls Try.prog 14 #[.agg cs, v, .int .i64 fi, .agg #[.string r.1, .int .i64 r.2]] w (RetAge (ageP p l fi r) w) := by
  have HP := Lib.hid h
  have HL := Lib.hid hl
  have HCK := Lib.hid (fun (X : World) (hX : Ext w X) => refLateChk_any p cs l v X (h.ext hX) (hl.ext hX))
  have HOLD := Lib.hid (fun (X : World) (hX : Ext w X) (hp : progP p = true) (hok : LsOk p l) (k : Nat) (f : FlD) (r : Rf) (hk : p.flows[k]? = some f) (hr : r ∈ gthE [] 0 f.body) => refOld_any p cs l v X (h.ext hX) (hl.ext hX) hp hok hk hr)
  obtain ⟨ai, ci, af, cf, ao, co, rfl⟩ := pr_form h
  obtain ⟨la, lc, rfl, hlf, _⟩ := hl.form
  have HFl := Lib.hid (pr_fl h)
  obtain ⟨r1, r2⟩ := r
  clear h hl
  have e0 := ((Chg.refl (fun _ => False) w).alloc (.cells #[.int .i64 p.st, .slice ai p.ins.length ci, .slice af p.flows.length cf, .slice ao p.outs.length co] 26)).alloc (.cells #[.string r1, .int .i64 r2] 29)
  have bP := Ext.heap ((Chg.refl (fun _ => False) _).alloc (.cells #[.string r1, .int .i64 r2] 29)) (heap_alloc_new w (.cells #[.int .i64 p.st, .slice ai p.ins.length ci, .slice af p.flows.length cf, .slice ao p.outs.length co] 26))
  have bR := heap_alloc_new (w.alloc (.cells #[.int .i64 p.st, .slice ai p.ins.length ci, .slice af p.flows.length cf, .slice ao p.outs.length co] 26)) (.cells #[.string r1, .int .i64 r2] 29)
  rw [World.size_alloc] at bR
  go_enter Try.func14, Try.ntmps14
  go_wp2_with fail
  generalize ((w.alloc (.cells #[.int .i64 p.st, .slice ai p.ins.length ci, .slice af p.flows.length cf, .slice ao p.outs.length co] 26)).alloc (.cells #[.string r1, .int .i64 r2] 29)) = W0 at *
  refine (HCK.out _ e0).mono ?_
  rintro e w1 ⟨he, E1⟩
  have F1 := e0.trans E1
  have b1 := Ext.heap E1 bP
  have c1 := Ext.heap E1 bR
  clear bP bR e0 E1
  have y0 : ∀ X, Ext w1 X → X.cell? ⟨w.heap.size, 0, none⟩ = some (.int .i64 p.st) := fun X hX => (blk_cell (Ext.heap hX b1) 0).trans rfl
  have y1 : ∀ X, Ext w1 X → X.cell? ⟨w.heap.size, 1, none⟩ = some (.slice ai p.ins.length ci) := fun X hX => (blk_cell (Ext.heap hX b1) 1).trans rfl
  have y2 : ∀ X, Ext w1 X → X.cell? ⟨w.heap.size, 2, none⟩ = some (.slice af p.flows.length cf) := fun X hX => (blk_cell (Ext.heap hX b1) 2).trans rfl
  have y3 : ∀ X, Ext w1 X → X.cell? ⟨w.heap.size, 3, none⟩ = some (.slice ao p.outs.length co) := fun X hX => (blk_cell (Ext.heap hX b1) 3).trans rfl
  have z0 : ∀ X, Ext w1 X → X.cell? ⟨w.heap.size + 1, 0, none⟩ = some (.string r1) := fun X hX => (blk_cell (Ext.heap hX c1) 0).trans rfl
  have z1 : ∀ X, Ext w1 X → X.cell? ⟨w.heap.size + 1, 1, none⟩ = some (.int .i64 r2) := fun X hX => (blk_cell (Ext.heap hX c1) 1).trans rfl
  have er : Ext w1 w1 := Chg.refl _ _
  have fin : ∀ X, Ext w1 X → ageP p l fi (r1, r2) = (0, 1) → RetAge (ageP p l fi (r1, r2)) w (.returned (.tuple #[.int .i64 0, .int .i64 1])) X := fun X hX e => by rw [e]; exact ⟨rfl, F1.trans hX⟩
  have FIN := Lib.hid fin
  clear fin b1 c1
  cases hc : lateChk p l
  · rw [hc] at he
    subst he
    have HA := Lib.hid (age_no (p := p) (l := l) (flow := fi) (r := (r1, r2)) hc)
    clear hc
    go_wp2_with fail
    go_ret2
    exact FIN.out _ er HA.out
  rw [hc] at he
  subst he
  have HC := Lib.hid hc
  clear hc
  by_cases h0 : fi < 0
  · have HA := Lib.hid (age_out (p := p) (l := l) (flow := fi) (r := (r1, r2)) (.inl h0))
    go_wp2_with fail
    go_ret2
    exact FIN.out _ er HA.out
  by_cases h1 : (p.flows.length : Int) ≤ fi
  · have HA := Lib.hid (age_out (p := p) (l := l) (flow := fi) (r := (r1, r2)) (.inr h1))
    go_wp2_with fail
    go_ret2
    exact FIN.out _ er HA.out
  obtain ⟨k, rfl⟩ := Int.eq_ofNat_of_zero_le (show 0 ≤ fi by omega)
  have hk : k < p.flows.length := by omega
  have hki : (k : Int) < (p.flows.length : Int) := by omega
  have hx := List.getElem?_eq_getElem hk
  have HCI := Lib.hid (lateChk_iff.1 HC.out)
  have HPR := Lib.hid (names_prog HCI.out.1)
  have HOK : Hid (LsOk p l) := ⟨HCI.out.2.1, HCI.out.2.2.1⟩
  obtain ⟨hnm, _, _, _, b, o, rfl, _, _, c0, c1, c2, c3, _, _, hbn, vx, hvx, c4, c5, c6, c7⟩ := (HFl.out).at hx
  obtain ⟨_, _, _, hokf, _⟩ := prog_ok HPR.out
  obtain ⟨hwf, hnd⟩ := ok_wf' (hokf _ (List.getElem_mem hk))
  have HXF := Lib.hid hx
  generalize p.flows[k] = x at *
  clear hx hokf hwf
  have hle3 := gthE_le x.body [] 0
  have HR := Lib.hid (fun (X : World) (hX : Ext w X) => refRefs_any x.body vx X (hvx.ext hX) (by omega))
  obtain ⟨va, vc, rfl, _⟩ := hvx.form
  have d4 := F1.cell c4
  have d5 := F1.cell c5
  have d6 := F1.cell c6
  have d7 := F1.cell c7
  clear c0 c1 c2 c3 c4 c5 c6 c7 hvx hnm
  generalize hgl : gthE [] 0 x.body = L at *
  have HGL := Lib.hid hgl
  clear hgl
  have hLl : L.length ≤ 100000 := by simp at hle3; omega
  go_wp2_with fail
  refine (HR.out _ F1).mono ?_
  rintro e w3 ⟨v3, rfl, V3, E3⟩
  obtain ⟨ar, cr, rfl⟩ := V3.form
  clear HR d4 d5 d6 d7
  go_wp2_with fail
  go_loopw [11] (fun i wr => ∃ j : Nat, j ≤ L.length ∧ i = .int .i64 j ∧ (∀ r, r ∈ L.take j → r ≠ (r1, r2)) ∧ Ext w3 wr) (fun i _ => L.length - (intOf i).toNat)
  case atStart => exact ⟨0, Nat.zero_le _, rfl, fun n hn => by simp at hn, Chg.refl _ _⟩
  case round =>
    obtain ⟨j, hj, rfl, hall, sE⟩ := hrel
    have HALL := Lib.hid hall
    clear hall
    by_cases hlt2 : j < L.length
    · have hr := List.getElem?_eq_getElem hlt2
      obtain ⟨gr, rfl, c0, c1⟩ := V3.get hr
      have hji : (j : Int) < (L.length : Int) := by omega
      have htk := List.take_succ_eq_append_getElem hlt2
      have hrm := List.getElem_mem hlt2
      generalize L[j] = r at *
      have HTK := Lib.hid htk
      have HRM := Lib.hid hrm
      have sF := (F1.trans E3).trans sE
      have G0 : Ext wr wr.drew := (Chg.refl _ _).drew
      have s0 := y0 _ (E3.trans (sE.drew))
      have s1 := y1 _ (E3.trans (sE.drew))
      have s2 := y2 _ (E3.trans (sE.drew))
      have s3 := y3 _ (E3.trans (sE.drew))
      have s4 : wr.cell? ⟨gr, j * 2, none⟩ = some (.string r.1) := Ext.cell sE c0
      have s5 : wr.cell? ⟨gr, j * 2 + 1, none⟩ = some (.int .i64 r.2) := Ext.cell sE c1
      have q0 := z0 _ (E3.trans sE)
      have q1 := z1 _ (E3.trans sE)
      clear hr htk hrm c0 c1
      obtain ⟨q1_, q2_⟩ := r
      simp only at s4 s5
      have HGO : Hid ((q1_, q2_) ≠ (r1, r2) → (∀ r, r ∈ L.take (j + 1) → r ≠ (r1, r2)) ∧ Ext w3 wr.drew) := fun hne => ⟨fun y hy => by
        rw [HTK.out] at hy
        rcases List.mem_append.1 hy with hy | hy
        · exact HALL.out y hy
        · rw [List.mem_singleton.1 hy]; exact hne, sE.drew⟩
      by_cases e1 : q1_.toList = r1.toList
      · by_cases e2 : q2_ = r2
        · have e3 := str_eq0.1 (show (q1_.toList == r1.toList) = true by simpa using e1)
          subst e3
          subst e2
          have HOY := Lib.hid (fun (X : World) (hX : Ext w X) => HOLD.out X hX HPR.out HOK.out k x (q1_, q2_) HXF.out (by rw [HGL.out]; exact HRM.out))
          have HAG := Lib.hid (ageP_of HC.out HXF.out (show (q1_, q2_) ∈ gthE [] 0 x.body by rw [HGL.out]; exact HRM.out))
          unfold RetE at HOY
          generalize l.getD k 0 - leastA l (askOf p k x (q1_, q2_)) = m at HOY HAG
          go_wp2_with fail
          go_region
          go_wp2_with fail
          refine (HOY.out _ sF.drew).mono ?_
          rintro e w5 ⟨rfl, E5⟩
          go_wp2_with fail
          go_ret2
          rw [HAG.out]
          exact ⟨rfl, sF.drew.trans E5⟩
        · have H2 := Lib.hid (HGO.out (fun h => e2 (by simpa using congrArg Prod.snd h)))
          go_wp2_with fail
          go_region
          go_wp2_with fail
          go_roundw
          case rel => exact ⟨j + 1, by omega, by go_num, H2.out.1, H2.out.2⟩
          case measure => simp [intOf]; omega
      · have H2 := Lib.hid (HGO.out (fun h => e1 (by have := congrArg Prod.fst h; simp only at this; rw [this])))
        go_wp2_with fail
        go_region
        go_wp2_with fail
        go_roundw
        case rel => exact ⟨j + 1, by omega, by go_num, H2.out.1, H2.out.2⟩
        case measure => simp [intOf]; omega
    · obtain rfl : j = L.length := by omega
      have HA := Lib.hid (age_miss (l := l) HXF.out (show (r1, r2) ∉ gthE [] 0 x.body by rw [HGL.out]; exact fun h => HALL.out _ (by rw [List.take_length]; exact h) rfl))
      go_wp2_with fail
      go_ret2
      exact FIN.out _ (E3.trans sE) HA.out
end Go.Proofs.Ytjdficgejjkaoaa
