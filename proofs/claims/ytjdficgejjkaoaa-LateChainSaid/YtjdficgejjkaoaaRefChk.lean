/- The document's Check and Age of lateness. -/
import Derived.Test.YtjdficgejjkaoaaRefLate
import Derived.Test.YtjdficgejjkaoaaAge
import Derived.Deep.RegionHeld3
namespace Go.Proofs.Ytjdficgejjkaoaa
open Go.RowKit
set_option linter.unusedVariables false
set_option linter.unusedSimpArgs false

theorem fits_miss {p : PrD} {l : List Int} {k : Nat} {f : FlD} {r : Rf} (hk : p.flows[k]? = some f) (hr : r ∈ gthE [] 0 f.body) (h : l.getD k 0 < leastA l (askOf p k f r)) : lateChk p l = false :=
  lateChk_miss (x := ⟨askOf p k f r, asksP_mem.2 ⟨k, f, r, hk, hr, rfl⟩⟩) h
theorem bad_at {l : List Int} {k : Nat} (h : ∀ n, n ∈ l.take k → 0 ≤ n ∧ n ≤ 1000) {u : Int} (hu : l[k]? = some u) (h1 : 0 ≤ u) (h2 : u ≤ 1000) : ∀ n, n ∈ l.take (k + 1) → 0 ≤ n ∧ n ≤ 1000 := by
  intro n hn
  rw [List.take_add_one, hu] at hn
  rcases List.mem_append.1 hn with hn | hn
  · exact h n hn
  · simp at hn; subst hn; exact ⟨h1, h2⟩
set_option maxRecDepth 100000 in
set_option maxHeartbeats 4000000 in
theorem refLateChk_any (p : PrD) (cs : Array Value) (l : List Int) (v : Value) (w : World) (h : RdPr w 0 false p cs) (hl : RdIntV w 0 false l v) : Calls Try.prog 16 #[.agg cs, v] w (RetV (lateChk p l) w) := by
  have HP := Lib.hid h
  have HL := Lib.hid hl
  obtain ⟨ai, ci, af, cf, ao, co, rfl⟩ := pr_form h
  obtain ⟨la, lc, rfl, hlf, _⟩ := hl.form
  unfold fitsR at hlf
  have HFl := Lib.hid (pr_fl h)
  clear h hl
  have e0 := (Chg.refl (fun _ => False) w).alloc (.cells #[.int .i64 p.st, .slice ai p.ins.length ci, .slice af p.flows.length cf, .slice ao p.outs.length co] 26)
  have bP := heap_alloc_new w (.cells #[.int .i64 p.st, .slice ai p.ins.length ci, .slice af p.flows.length cf, .slice ao p.outs.length co] 26)
  go_enter Try.func16, Try.ntmps16
  go_wp2_with fail
  generalize (w.alloc (.cells #[.int .i64 p.st, .slice ai p.ins.length ci, .slice af p.flows.length cf, .slice ao p.outs.length co] 26)) = W0 at *
  refine (refNCheck_any p _ _ (HP.out.ext e0)).mono ?_
  rintro e w1 ⟨rfl, E1⟩
  have F1 := e0.trans E1
  have b1 := Ext.heap E1 bP
  clear E1 e0 bP
  have y0 : ∀ X, Ext w1 X → X.cell? ⟨w.heap.size, 0, none⟩ = some (.int .i64 p.st) := fun X hX => (blk_cell (Ext.heap hX b1) 0).trans rfl
  have y1 : ∀ X, Ext w1 X → X.cell? ⟨w.heap.size, 1, none⟩ = some (.slice ai p.ins.length ci) := fun X hX => (blk_cell (Ext.heap hX b1) 1).trans rfl
  have y2 : ∀ X, Ext w1 X → X.cell? ⟨w.heap.size, 2, none⟩ = some (.slice af p.flows.length cf) := fun X hX => (blk_cell (Ext.heap hX b1) 2).trans rfl
  have y3 : ∀ X, Ext w1 X → X.cell? ⟨w.heap.size, 3, none⟩ = some (.slice ao p.outs.length co) := fun X hX => (blk_cell (Ext.heap hX b1) 3).trans rfl
  have er : Ext w1 w1 := Chg.refl _ _
  by_cases hn : namesP p = 0
  case neg =>
    have bn : (namesP p != 0) = true := by simp [hn]
    have HF := Lib.hid (lateChk_not (p := p) (l := l) (.inl hn))
    clear hn
    generalize namesP p = np at bn ⊢
    go_wp2_with fail
    go_ret
    rw [HF.out]; exact ⟨rfl, F1⟩
  have HN := Lib.hid hn
  have bn : (namesP p != 0) = false := by simp [hn]
  have HPR := Lib.hid (names_prog hn)
  clear hn
  generalize namesP p = np at bn ⊢
  by_cases hlen : l.length = p.flows.length
  case neg =>
    have bl : ((l.length : Int) != (p.flows.length : Int)) = true := by simp; omega
    have HF := Lib.hid (lateChk_not (p := p) (l := l) (.inr (fun h => hlen h.1)))
    go_wp2_with fail
    go_ret
    rw [HF.out]; exact ⟨rfl, F1⟩
  have bl : ((l.length : Int) != (p.flows.length : Int)) = false := by simp; omega
  have HLEN := Lib.hid hlen
  have hle : l.length ≤ p.flows.length ∧ p.flows.length ≤ l.length := by omega
  obtain ⟨hle1, hle2⟩ := hle
  clear hlen
  go_wp2_with fail
  go_loopw [5] (fun i wr => ∃ k : Nat, k ≤ l.length ∧ i = .int .i64 k ∧ (∀ n, n ∈ l.take k → 0 ≤ n ∧ n ≤ 1000) ∧ Ext w1 wr) (fun i _ => l.length - (intOf i).toNat)
  case atStart => exact ⟨0, Nat.zero_le _, rfl, fun n hn => by simp at hn, er⟩
  case round =>
    obtain ⟨k, hk, rfl, hall, rE⟩ := hrel
    have HALL := Lib.hid hall
    clear hall
    by_cases hlt : k < l.length
    · have hx := List.getElem?_eq_getElem hlt
      obtain ⟨_, b, o, rfl, _, _, c0⟩ := (HL.out.ext (F1.trans rE)).get hx
      have hki : (k : Int) < (l.length : Int) := by omega
      have HX := Lib.hid hx
      generalize l[k] = u at *
      clear hx
      by_cases h1 : u < 0
      · have HF : Hid (lateChk p l = false) := lateChk_not (.inr (fun h => by have := h.2 u (List.mem_of_getElem? HX.out); omega))
        go_wp2_with fail
        go_ret
        rw [HF.out]; exact ⟨rfl, F1.trans rE⟩
      · by_cases h2 : 1000 < u
        · have HF : Hid (lateChk p l = false) := lateChk_not (.inr (fun h => by have := h.2 u (List.mem_of_getElem? HX.out); omega))
          go_wp2_with fail
          go_ret
          rw [HF.out]; exact ⟨rfl, F1.trans rE⟩
        · have H2 := Lib.hid (bad_at HALL.out HX.out (by omega) (by omega))
          go_wp2_with fail
          go_roundw
          case rel => exact ⟨k + 1, by omega, by go_num, H2.out, rE⟩
          case measure => simp [intOf]; omega
    · obtain rfl : k = l.length := by omega
      have hok : LsOk p l := ⟨HLEN.out, fun n hn => HALL.out n (by rw [List.take_length]; exact hn)⟩
      have HOK := Lib.hid hok
      clear hok
      go_wp2_with fail
      obtain ⟨wo, rfl⟩ : ∃ wo : World, wo = wr := ⟨_, rfl⟩
      go_loopw [6] (fun i wr => ∃ k : Nat, k ≤ l.length ∧ i = .int .i64 k ∧ (∀ j f r, j < k → p.flows[j]? = some f → r ∈ gthE [] 0 f.body → leastA l (askOf p j f r) ≤ l.getD j 0) ∧ Ext w1 wr) (fun i _ => l.length - (intOf i).toNat)
      case atStart => exact ⟨0, Nat.zero_le _, rfl, fun j f r hj => absurd hj (Nat.not_lt_zero _), rE⟩
      case round =>
        clear rE HALL
        obtain ⟨k, hk, rfl, hall, rE⟩ := hrel
        have HALL := Lib.hid hall
        clear hall
        by_cases hlt : k < l.length
        · have hx := List.getElem?_eq_getElem (show k < p.flows.length by omega)
          have hki : (k : Int) < (p.flows.length : Int) := by omega
          have hkl : (k : Int) < (l.length : Int) := by omega
          have hxl := List.getElem?_eq_getElem hlt
          obtain ⟨_, b2, o2, rfl, _, _, cu⟩ := HL.out.get hxl
          obtain ⟨hnm, _, _, _, b, o, rfl, _, _, c0, c1, c2, c3, _, _, hbn, vx, hvx, c4, c5, c6, c7⟩ := (HFl.out).at hx
          obtain ⟨_, _, _, hokf, _⟩ := prog_ok HPR.out
          obtain ⟨hwf, hnd⟩ := ok_wf' (hokf _ (List.getElem_mem (show k < p.flows.length by omega)))
          have HXF := Lib.hid hx
          have hgd : l.getD k 0 = l[k] := by rw [List.getD_eq_getElem?_getD, hxl]; rfl
          have HGD := Lib.hid hgd
          generalize p.flows[k] = x at *
          generalize hu : l[k] = u at *
          clear hu hgd hx hxl hokf hwf
          have hle3 := gthE_le x.body [] 0
          have HR := Lib.hid (fun (X : World) (hX : Ext w X) => refRefs_any x.body vx X (hvx.ext hX) (by omega))
          have HLS := Lib.hid (fun (r : Rf) (hr : r ∈ gthE [] 0 x.body) (X : World) (hX : Ext w X) => refLeast_any p _ l _ X (HP.out.ext hX) (HL.out.ext hX) HPR.out HOK.out HXF.out hr)
          obtain ⟨va, vc, rfl, _⟩ := hvx.form
          have rF := F1.trans rE
          have d4 := rF.cell c4
          have d5 := rF.cell c5
          have d6 := rF.cell c6
          have d7 := rF.cell c7
          clear c0 c1 c2 c3 c4 c5 c6 c7 hvx hnm
          generalize hgl : gthE [] 0 x.body = L at *
          have HGL := Lib.hid hgl
          clear hgl
          have hLl : L.length ≤ 100000 := by simp at hle3; omega
          go_wp2_with fail
          refine (HR.out _ rF).mono ?_
          rintro e w3 ⟨v3, rfl, V3, E3⟩
          obtain ⟨ar, cr, rfl⟩ := V3.form
          have R3 := rE.trans E3
          clear HR E3 d4 d5 d6 d7 rF
          go_wp2_with fail
          obtain ⟨wo2, rfl⟩ : ∃ wo : World, wo = wr := ⟨_, rfl⟩
          go_loopw [8] (fun i wr => ∃ j : Nat, j ≤ L.length ∧ i = .int .i64 j ∧ (∀ r, r ∈ L.take j → leastA l (askOf p k x r) ≤ u) ∧ Ext w3 wr) (fun i _ => L.length - (intOf i).toNat)
          case atStart => exact ⟨0, Nat.zero_le _, rfl, fun n hn => by simp at hn, Chg.refl _ _⟩
          case round =>
            obtain ⟨j, hj, rfl, hal2, sE⟩ := hrel
            have HAL2 := Lib.hid hal2
            clear hal2
            by_cases hlt2 : j < L.length
            · have hr := List.getElem?_eq_getElem hlt2
              obtain ⟨gr, rfl, c0, c1⟩ := V3.get hr
              have hji : (j : Int) < (L.length : Int) := by omega
              have htk := List.take_succ_eq_append_getElem hlt2
              have hrm := List.getElem_mem hlt2
              generalize L[j] = r at *
              have HTK := Lib.hid htk
              have HRM := Lib.hid hrm
              have sF := (F1.trans R3).trans sE
              have hmr := leastA_rng HOK.out (ask_ok HPR.out (asksP_mem.2 ⟨k, x, r, HXF.out, by rw [HGL.out]; exact hrm, rfl⟩))
              have HLX := Lib.hid (fun (X : World) (hX : Ext w X) => HLS.out r hrm X hX)
              generalize hm : leastA l (askOf p k x r) = m at HLX hmr
              have HM := Lib.hid hm
              have G0 : Ext wr wr.drew := (Chg.refl _ _).drew
              have s0 : ∀ X, Ext wr X → X.cell? ⟨w.heap.size, 0, none⟩ = some (.int .i64 p.st) := fun X hX => y0 X ((R3.trans sE).trans hX)
              have s1 : ∀ X, Ext wr X → X.cell? ⟨w.heap.size, 1, none⟩ = some (.slice ai p.ins.length ci) := fun X hX => y1 X ((R3.trans sE).trans hX)
              have s2 : ∀ X, Ext wr X → X.cell? ⟨w.heap.size, 2, none⟩ = some (.slice (some ⟨b, o, none⟩) p.flows.length cf) := fun X hX => y2 X ((R3.trans sE).trans hX)
              have s3 : ∀ X, Ext wr X → X.cell? ⟨w.heap.size, 3, none⟩ = some (.slice ao p.outs.length co) := fun X hX => y3 X ((R3.trans sE).trans hX)
              have s4 : ∀ X, Ext wr X → X.cell? ⟨gr, j * 2, none⟩ = some (.string r.1) := fun X hX => Ext.cell (sE.trans hX) c0
              have s5 : ∀ X, Ext wr X → X.cell? ⟨gr, j * 2 + 1, none⟩ = some (.int .i64 r.2) := fun X hX => Ext.cell (sE.trans hX) c1
              have s6 : ∀ X, Ext wr X → X.cell? ⟨b2, o2 + k, none⟩ = some (.int .i64 u) := fun X hX => Ext.cell (sF.trans hX) cu
              unfold RetE at HLX
              clear hr htk hrm hm c0 c1
              by_cases hbig : u < m
              · have HF : Hid (lateChk p l = false) := fits_miss HXF.out (by rw [HGL.out]; exact HRM.out) (by rw [HGD.out, HM.out]; exact hbig)
                go_wp2_with fail
                go_region_held3 (fun X => Ext wr X) (first | assumption)
                  (first
                    | (go_at_call 42; refine (HLX.out _ (sF.trans (by assumption))).mono ?_; rintro e w9 ⟨rfl, E9⟩; have G9 := G0.trans E9))
                go_wp2_with fail
                go_ret
                rw [HF.out]; exact ⟨rfl, sF.trans G9⟩
              · have HAL3 : Hid (∀ r, r ∈ L.take (j + 1) → leastA l (askOf p k x r) ≤ u) := fun y hy => by
                  rw [HTK.out] at hy
                  rcases List.mem_append.1 hy with hy | hy
                  · exact HAL2.out y hy
                  · rw [List.mem_singleton.1 hy, HM.out]; omega
                go_wp2_with fail
                go_region_held3 (fun X => Ext wr X) (first | assumption)
                  (first
                    | (go_at_call 42; refine (HLX.out _ (sF.trans (by assumption))).mono ?_; rintro e w9 ⟨rfl, E9⟩; have G9 := G0.trans E9))
                have K9 := sE.trans G9
                clear s0 s1 s2 s3 s4 s5 s6 G0 G9
                go_wp2_with fail
                go_roundw
                case rel => exact ⟨j + 1, by omega, by go_num, HAL3.out, K9⟩
                case measure => simp [intOf]; omega
            · obtain rfl : j = L.length := by omega
              have HALL3 : Hid (∀ j f r, j < k + 1 → p.flows[j]? = some f → r ∈ gthE [] 0 f.body → leastA l (askOf p j f r) ≤ l.getD j 0) := fun i f r hi hf hr => by
                by_cases hik : i < k
                · exact HALL.out i f r hik hf hr
                · obtain rfl : i = k := by omega
                  rw [HXF.out] at hf
                  simp only [Option.some.injEq] at hf
                  subst hf
                  rw [HGD.out]
                  exact HAL2.out r (by rw [List.take_length, ← HGL.out]; exact hr)
              have K9 := R3.trans sE
              go_wp2_with fail
              go_roundw
              case rel => exact ⟨k + 1, by omega, by go_num, HALL3.out, K9⟩
              case measure => simp [intOf]; omega
        · obtain rfl : k = l.length := by omega
          have HT : Hid (lateChk p l = true) := lateChk_yes HN.out HOK.out (fun x hx => by
            obtain ⟨i, f, r, hi, hr, rfl⟩ := asksP_mem.1 hx
            have := (List.getElem?_eq_some_iff.1 hi).1
            exact HALL.out i f r (by omega) hi hr)
          go_wp2_with fail
          go_ret
          rw [HT.out]; exact ⟨rfl, F1.trans rE⟩
end Go.Proofs.Ytjdficgejjkaoaa
