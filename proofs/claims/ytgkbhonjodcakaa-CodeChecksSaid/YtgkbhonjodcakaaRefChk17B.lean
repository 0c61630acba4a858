/- The reference of chapter 17: Check. -/
import Derived.Test.YtgkbhonjodcakaaRefPileB
import Derived.Test.YtgkbhonjodcakaaJ17
import Derived.Test.YtgkbhonjodcakaaJF
import Derived.Deep.RegionHeld3
namespace Go.Proofs.Ytgkbhonjodcakaa
open Go.RowKit
set_option linter.unusedVariables false
set_option linter.unusedSimpArgs false

theorem manyR_push {o : Int} (h : manyP o = 0) : manyR o = -1 := by unfold manyR; rw [if_pos h]
theorem manyR_op {o : Int} (h : manyP o ≠ 0) : manyR o = (manyP o : Int) := by unfold manyR; rw [if_neg h]
theorem head_drop {l : List Int} {j : Nat} (hj : j < l.length) (h : ∀ x, x ∈ l → x ≠ 0) : (l.drop j).headD 0 ≠ 0 := by
  rw [List.drop_eq_getElem_cons hj]
  exact h _ (List.getElem_mem hj)
theorem take_ne {l : List Int} {j : Nat} {t : Int} (h : ∀ x, x ∈ l → x ≠ 0) (ht : t ≠ 0) : ∀ x, x ∈ l.take j ++ [t] → x ≠ 0 := by
  intro x hx
  rcases List.mem_append.1 hx with h1 | h1
  · exact h x (List.mem_of_mem_take h1)
  · rw [List.mem_singleton.1 h1]; exact ht
set_option maxRecDepth 100000 in
set_option maxHeartbeats 40000000 in
theorem refChk_any (ps : List PlD) (l : List IsD) (pv lv : Value) (w : World) (hp : RdPlS w ps pv) (hl : RdIsS w l lv) : Calls Try.prog 10 #[pv, lv] w (RetCk ps l w) := by
  have HP := Lib.hid hp
  have HL := Lib.hid hl
  obtain ⟨pa, pc, rfl, _, _, hpf⟩ := hp.form
  obtain ⟨la, lc, rfl, _, _, hlf⟩ := hl.form
  clear hp hl
  have hpn : ps.length ≤ 9000000000000000000 := by omega
  have hln : l.length ≤ 9000000000000000000 := by omega
  have HC := Lib.hid (refPlaces_any ps _ w HP.out)
  generalize hb : placesOk ps = b at *
  have HOK := Lib.hid hb
  clear hb
  go_enter Try.func10, Try.ntmps10
  go_wp2_with fail
  refine HC.out.mono ?_
  rintro e w1 ⟨rfl, E1⟩
  clear HC
  cases b
  case false =>
    have HQ := Lib.hid (chk_no (ps := ps) (l := l) (fun h => by rw [HOK.out] at h; simp at h))
    go_wp2_with fail
    go_ret2
    exact retCk HQ.out E1
  by_cases h800 : l.length ≤ 800
  case neg =>
    have HQ := Lib.hid (chk_no (ps := ps) (l := l) (fun h => h800 h.2))
    have q8 : (800 : Int) < (l.length : Int) := by omega
    go_wp2_with fail
    go_ret2
    exact retCk HQ.out E1
  have q8 : ¬ (800 : Int) < (l.length : Int) := by omega
  have HEND := Lib.hid (chk_end (ps := ps) (l := l) ⟨HOK.out, h800⟩)
  go_wp2_with fail
  go_loopw [6, 7] (fun pv2 iv wr => ∃ (k : Nat) (pile : List Int), k ≤ l.length ∧ iv = .int .i64 k ∧ PileV wr pile pv2 ∧ runP ps l [] = runP ps (l.drop k) pile ∧ pile.length ≤ k ∧ (∀ x, x ∈ pile → x ≠ 0) ∧ Ext w1 wr) (fun _ iv _ => l.length - (intOf iv).toNat)
  case atStart => exact ⟨0, [], Nat.zero_le _, rfl, PileV.nil _, rfl, Nat.le_refl _, (fun x hx => by cases hx), Chg.refl _ _⟩
  case round =>
    obtain ⟨k, pile, hk, rfl, hpl, hrun, hpk, hnz, hE⟩ := hrel
    have HRUN := Lib.hid hrun
    have HPL := Lib.hid hpl
    have HNZ := Lib.hid hnz
    clear hrun hnz
    obtain ⟨a, cap, rfl, hcap, hno, hso⟩ := hpl.form
    clear hpl
    by_cases hlt : k < l.length
    case neg =>
      obtain rfl : k = l.length := by omega
      have hr := HRUN.out
      rw [List.drop_length] at hr
      have HQ : Hid (chkC ps l = endP (some pile)) := by show _ = _; rw [HEND.out, hr]; rfl
      have HE := E1.trans hE
      clear hr HRUN HEND
      by_cases h1 : pile.length = 1
      · obtain ⟨t, rfl⟩ := List.length_eq_one_iff.1 h1
        obtain ⟨g, cap', e, _⟩ := pile_form HPL.out (by simp)
        simp only [Value.slice.injEq] at e
        obtain ⟨rfl, _, rfl⟩ := e
        have c0 := HPL.out.get (i := 0) rfl
        simp only [List.length_cons, List.length_nil, Nat.zero_add] at *
        have HQ2 := Lib.hid (HQ.out.trans (end_one t))
        clear HQ
        go_wp2_with fail
        go_ret2
        exact retCk HQ2.out HE
      · have HQ2 := Lib.hid (HQ.out.trans (end_not h1))
        have b1 : ((pile.length : Int) != 1) = true := by
          rw [bne_iff_ne]; omega
        clear HQ
        go_wp2_with fail
        go_ret2
        exact retCk HQ2.out HE
    have hx := List.getElem?_eq_getElem hlt
    have q1 : (k : Int) < (l.length : Int) := by omega
    obtain ⟨bb, oo, rfl, hbb, hu8, c0, c1, c2⟩ := (HL.out.ext (E1.trans hE)).get hx
    have HAT := Lib.hid (run_at (ps := ps) (pile := pile) hx)
    generalize l[k] = x at *
    clear hx hu8
    obtain ⟨op, n, ago⟩ := x
    simp only at c0 c1 c2
    have HSP := Lib.hid (fun h => stepI_push (ps := ps) (x := ⟨op, n, ago⟩) (pile := pile) h)
    have HSN := Lib.hid (fun h h2 => stepI_no (ps := ps) (x := ⟨op, n, ago⟩) (pile := pile) h h2)
    have HSY := Lib.hid (fun h h2 => stepI_yes (ps := ps) (x := ⟨op, n, ago⟩) (pile := pile) h h2)
    simp only at HSP HSN HSY
    go_upto_region 8 with (fail)
    generalize hw3 : wr.alloc _ = w3
    have e3 : Ext wr w3 := by rw [← hw3]; exact (Chg.refl _ _).alloc _
    have hb3 := heap_alloc_new wr (.cells #[.int .u8 op, .int .i64 n, .int .i64 ago] 38)
    rw [hw3] at hb3
    clear hw3 c0 c1 c2
    have y0 : w3.cell? ⟨wr.heap.size, 0, none⟩ = some (.int .u8 op) := (blk_cell hb3 0).trans rfl
    go_wp2_with (fail)
    refine (manyR_any op w3).mono ?_
    rintro e w4 ⟨rfl, e4⟩
    have hb4 := Ext.heap e4 hb3
    have E34 := e3.trans e4
    have hE4 := hE.trans E34
    have HE4 := E1.trans hE4
    have HPL4 := Lib.hid (HPL.out.ext E34)
    have z0 : w4.cell? ⟨wr.heap.size, 0, none⟩ = some (.int .u8 op) := (blk_cell hb4 0).trans rfl
    have z1 : w4.cell? ⟨wr.heap.size, 1, none⟩ = some (.int .i64 n) := (blk_cell hb4 1).trans rfl
    have z2 : w4.cell? ⟨wr.heap.size, 2, none⟩ = some (.int .i64 ago) := (blk_cell hb4 2).trans rfl
    clear y0 hb3 hb4 e3 e4 E34
    by_cases hm0 : manyP op = 0
    · have HS := Lib.hid (HSP.out hm0)
      have HM0 := Lib.hid hm0
      rw [manyR_push hm0]
      have hw1 : IntKind.i64.wrap ((pile.length : Int) - 0) = (pile.length : Int) := by rw [IntKind.wrap_i64] <;> omega
      have hcI : (pile.length : Int) ≤ (cap : Int) := by omega
      have HPU := Lib.hid (refPush_any ps _ ⟨op, n, ago⟩ w4 (HP.out.ext HE4))
      simp only at HPU
      clear HSP HSN HSY hm0
      go_wp2_with fail
      refine HPU.out.mono ?_
      rintro e W ⟨rfl, E5⟩
      generalize hgt : pushP ps ⟨op, n, ago⟩ = t at *
      have HT := HS
      clear hgt HPU
      by_cases ht0 : t = 0
      case pos =>
        have HQ : Hid (chkC ps l = (0, false)) := by
          show _ = _
          rw [HEND.out, HRUN.out, HAT.out, step_zero (by rw [HT.out, ht0])]
          rfl
        subst ht0
        have HE := HE4.trans E5
        go_wp2_with fail
        go_ret2
        exact retCk HQ.out HE
      have bt0 : (t == 0) = false := by simpa using ht0
      have HR2 : Hid (runP ps l [] = runP ps (l.drop (k + 1)) (pile.take (pile.length) ++ [t])) := by
        show _ = _
        rw [HRUN.out, HAT.out, step_some (by rw [HT.out]; exact ht0), HT.out, Option.bind_some]
        simp only [HM0.out, Nat.sub_zero]
      have HNZ2 := Lib.hid (take_ne (j := pile.length) HNZ.out ht0)
      clear ht0
      obtain ⟨a6, c6, w6, hr6, g7, c7, w7, hr7, hpl7, E7⟩ := pile_copy (k := pile.length) (HPL4.out.ext E5) rfl (by omega) (by omega) cap t 58 58
      have hE7 := (hE4.trans E5).trans E7
      have HPL7 := Lib.hid hpl7
      have hlen7 : (pile.take (pile.length) ++ [t]).length = pile.length + 1 := by rw [List.length_append, List.length_take]; simp only [List.length_cons, List.length_nil]; omega
      have HLEN7 := Lib.hid hlen7
      clear hpl7 hlen7 E7
      go_wp2_with (first | (at_builtin; refine Lib.wpList_append_run _ rfl _ _ _ _ rfl _ _ rfl rfl _ _ hr6 ?_) | (at_builtin; refine Lib.wpList_append_run _ rfl _ _ _ _ rfl _ _ rfl rfl _ _ hr7 ?_))
      go_roundw
      case rel => exact ⟨k + 1, _, by omega, by go_num, HPL7.out, HR2.out, by rw [HLEN7.out]; omega, HNZ2.out, hE7⟩
      case measure => simp [intOf]; omega
    · have HM0 := Lib.hid hm0
      have hm3 := many_le op
      rw [manyR_op hm0]
      have hopm : ¬ ((manyP op : Int) < 0) := by omega
      generalize hmm : manyP op = m at *
      have HMM := Lib.hid hmm
      clear hmm HSP hm0
      by_cases d0 : m ≤ pile.length
      case neg =>
        have bd : decide ((m : Int) ≤ (pile.length : Int)) = false := decide_eq_false (by omega)
        have HQ : Hid (chkC ps l = (0, false)) := by
          show _ = _
          rw [HEND.out, HRUN.out, HAT.out, step_zero (HSN.out HM0.out (fun h => by have hh := h; exact d0 hh.1))]
          rfl
        go_wp2_with fail
        go_ret2
        exact retCk HQ.out HE4
      obtain ⟨j, hj⟩ : ∃ j : Nat, pile.length = j + m := ⟨pile.length - m, by omega⟩
      have dI : (m : Int) ≤ (pile.length : Int) := by omega
      have hm1 : 1 ≤ m := Nat.one_le_iff_ne_zero.2 HM0.out
      by_cases d1 : n = 0
      case neg =>
        have bd : (n == 0) = false := by simpa using d1
        have HQ : Hid (chkC ps l = (0, false)) := by
          show _ = _
          rw [HEND.out, HRUN.out, HAT.out, step_zero (HSN.out HM0.out (fun h => by have hh := h; exact d1 hh.2.1))]
          rfl
        go_wp2_with fail
        go_ret2
        exact retCk HQ.out HE4
      subst d1
      by_cases d2 : ago = 0
      · subst d2
        have hmo : (0 : Int) ≤ mostP op := by unfold mostP; split <;> omega
        have hjl : j < pile.length := by omega
        have hw1 : IntKind.i64.wrap ((pile.length : Int) - (m : Int)) = (j : Int) := by rw [IntKind.wrap_i64] <;> omega
        have hjI : (j : Int) ≤ (pile.length : Int) := by omega
        have hjne : ¬ pile.length = j := by omega
        have hj0 : (0 : Int) ≤ (j : Int) := by omega
        have hcI : (pile.length : Int) ≤ (cap : Int) := by omega
        have hcJ : (j : Int) ≤ (cap : Int) := by omega
        have hcne : ¬ cap = j := by omega
        have hcne2 : ¬ j = cap := by omega
        have hjle : j ≤ pile.length := by omega
        have hjc2 : j ≤ cap := by omega
        have hcneI : ¬ (cap : Int) = (j : Int) := by omega
        have Z0 : ∀ X, Ext w4 X → X.cell? ⟨wr.heap.size, 0, none⟩ = _ := fun X hX => Ext.cell hX z0
        have er : Ext w4 w4 := Chg.refl _ _
        obtain ⟨g, cap', e, hcap2⟩ := pile_form HPL4.out (by omega)
        simp only [Value.slice.injEq] at e
        obtain ⟨rfl, _, rfl⟩ := e
        have HS := Lib.hid (HSY.out HM0.out ⟨by omega, rfl, Int.le_refl _, hmo⟩)
        have hjj : pile.length - m = j := by omega
        rw [hjj] at HS
        have HJ := Lib.hid hjj
        have hdl : (pile.drop j).length = m := by rw [List.length_drop]; omega
        have G0 : Ext w4 w4.drew := (Chg.refl _ _).drew
        have HCA := Lib.hid (refOne_any _ (pile.drop j) _ _ ((HPL4.out.ext G0).top (k := j) (Nat.le_of_lt hjl) (show pile.length - j ≤ cap - j by omega)) (hdl.trans HMM.out.symm) (by rw [HMM.out]; exact HM0.out) (head_drop hjl HNZ.out))
        clear hjj hdl HSN HSY hmo hj
        go_upto_region 14 with (fail)
        have HT0 := HS
        generalize hgt : leaveT _ (pile.drop j) = t at HT0 HCA
        have HT := HT0
        clear hgt HT0 HS
        go_region_held3 (fun X => Ext w4 X) (first | assumption)
          (first
            | (go_at_call 23; refine HCA.out.mono ?_; rintro e W ⟨rfl, E5'⟩; have E5 := G0.trans E5'))
        clear E5' HCA
        by_cases ht0 : t = 0
        case pos =>
          have HQ : Hid (chkC ps l = (0, false)) := by
            show _ = _
            rw [HEND.out, HRUN.out, HAT.out, step_zero (by rw [HT.out, ht0])]
            rfl
          subst ht0
          have HE := HE4.trans E5
          go_wp2_with fail
          go_ret2
          exact retCk HQ.out HE
        have bt0 : (t == 0) = false := by simpa using ht0
        have HR2 : Hid (runP ps l [] = runP ps (l.drop (k + 1)) (pile.take (j) ++ [t])) := by
          show _ = _
          rw [HRUN.out, HAT.out, step_some (by rw [HT.out]; exact ht0), HT.out, Option.bind_some]
          rw [HMM.out, HJ.out]
        have HNZ2 := Lib.hid (take_ne (j := j) HNZ.out ht0)
        clear ht0
        obtain ⟨a6, c6, w6, hr6, g7, c7, w7, hr7, hpl7, E7⟩ := pile_copy (k := j) (HPL4.out.ext E5) rfl (by omega) (by omega) cap t 58 58
        have hE7 := (hE4.trans E5).trans E7
        have HPL7 := Lib.hid hpl7
        have hlen7 : (pile.take (j) ++ [t]).length = j + 1 := by rw [List.length_append, List.length_take]; simp only [List.length_cons, List.length_nil]; omega
        have HLEN7 := Lib.hid hlen7
        clear hpl7 hlen7 E7
        go_wp2_with (first | (at_builtin; refine Lib.wpList_append_run _ rfl _ _ _ _ rfl _ _ rfl rfl _ _ hr6 ?_) | (at_builtin; refine Lib.wpList_append_run _ rfl _ _ _ _ rfl _ _ rfl rfl _ _ hr7 ?_))
        go_roundw
        case rel => exact ⟨k + 1, _, by omega, by go_num, HPL7.out, HR2.out, by rw [HLEN7.out]; omega, HNZ2.out, hE7⟩
        case measure => simp [intOf]; omega
      have b2 : (ago == 0) = false := by simpa using d2
      by_cases d3 : op = 18
      case neg =>
        have b3 : (op == 18) = false := by simpa using d3
        have HQ : Hid (chkC ps l = (0, false)) := by
          show _ = _
          rw [HEND.out, HRUN.out, HAT.out, step_zero (HSN.out HM0.out (fun h => by have hh := h; have h1 : mostP op = 0 := if_neg d3; omega))]
          rfl
        go_wp2_with fail
        go_ret2
        exact retCk HQ.out HE4
      subst d3
      have h18 : mostP 18 = 32 := rfl
      rw [h18] at HSN HSY
      by_cases d4 : 0 < ago
      case neg =>
        have bd : decide (0 < ago) = false := decide_eq_false d4
        have HQ : Hid (chkC ps l = (0, false)) := by
          show _ = _
          rw [HEND.out, HRUN.out, HAT.out, step_zero (HSN.out HM0.out (fun h => by have hh := h; omega))]
          rfl
        go_wp2_with fail
        go_ret2
        exact retCk HQ.out HE4
      by_cases d5 : ago ≤ 32
      case neg =>
        have bd : decide (ago ≤ 32) = false := decide_eq_false d5
        have HQ : Hid (chkC ps l = (0, false)) := by
          show _ = _
          rw [HEND.out, HRUN.out, HAT.out, step_zero (HSN.out HM0.out (fun h => by have hh := h; exact d5 hh.2.2.2))]
          rfl
        go_wp2_with fail
        go_ret2
        exact retCk HQ.out HE4
      have hjl : j < pile.length := by omega
      have hw1 : IntKind.i64.wrap ((pile.length : Int) - (m : Int)) = (j : Int) := by rw [IntKind.wrap_i64] <;> omega
      have hjI : (j : Int) ≤ (pile.length : Int) := by omega
      have hjne : ¬ pile.length = j := by omega
      have hj0 : (0 : Int) ≤ (j : Int) := by omega
      have hcI : (pile.length : Int) ≤ (cap : Int) := by omega
      have hcJ : (j : Int) ≤ (cap : Int) := by omega
      have hcne : ¬ cap = j := by omega
      have hcne2 : ¬ j = cap := by omega
      have hjle : j ≤ pile.length := by omega
      have hjc2 : j ≤ cap := by omega
      have hcneI : ¬ (cap : Int) = (j : Int) := by omega
      have Z0 : ∀ X, Ext w4 X → X.cell? ⟨wr.heap.size, 0, none⟩ = _ := fun X hX => Ext.cell hX z0
      have er : Ext w4 w4 := Chg.refl _ _
      obtain ⟨g, cap', e, hcap2⟩ := pile_form HPL4.out (by omega)
      simp only [Value.slice.injEq] at e
      obtain ⟨rfl, _, rfl⟩ := e
      have HS := Lib.hid (HSY.out HM0.out ⟨by omega, rfl, by omega, d5⟩)
      have hjj : pile.length - m = j := by omega
      rw [hjj] at HS
      have HJ := Lib.hid hjj
      have hdl : (pile.drop j).length = m := by rw [List.length_drop]; omega
      have G0 : Ext w4 w4.drew := (Chg.refl _ _).drew
      have HCA := Lib.hid (refOne_any _ (pile.drop j) _ _ ((HPL4.out.ext G0).top (k := j) (Nat.le_of_lt hjl) (show pile.length - j ≤ cap - j by omega)) (hdl.trans HMM.out.symm) (by rw [HMM.out]; exact HM0.out) (head_drop hjl HNZ.out))
      clear hjj hdl HSN HSY hj
      go_upto_region 14 with (fail)
      have HT0 := HS
      generalize hgt : leaveT _ (pile.drop j) = t at HT0 HCA
      have HT := HT0
      clear hgt HT0 HS
      go_region_held3 (fun X => Ext w4 X) (first | assumption)
        (first
          | (go_at_call 23; refine HCA.out.mono ?_; rintro e W ⟨rfl, E5'⟩; have E5 := G0.trans E5'))
      clear E5' HCA
      by_cases ht0 : t = 0
      case pos =>
        have HQ : Hid (chkC ps l = (0, false)) := by
          show _ = _
          rw [HEND.out, HRUN.out, HAT.out, step_zero (by rw [HT.out, ht0])]
          rfl
        subst ht0
        have HE := HE4.trans E5
        go_wp2_with fail
        go_ret2
        exact retCk HQ.out HE
      have bt0 : (t == 0) = false := by simpa using ht0
      have HR2 : Hid (runP ps l [] = runP ps (l.drop (k + 1)) (pile.take (j) ++ [t])) := by
        show _ = _
        rw [HRUN.out, HAT.out, step_some (by rw [HT.out]; exact ht0), HT.out, Option.bind_some]
        rw [HMM.out, HJ.out]
      have HNZ2 := Lib.hid (take_ne (j := j) HNZ.out ht0)
      clear ht0
      obtain ⟨a6, c6, w6, hr6, g7, c7, w7, hr7, hpl7, E7⟩ := pile_copy (k := j) (HPL4.out.ext E5) rfl (by omega) (by omega) cap t 58 58
      have hE7 := (hE4.trans E5).trans E7
      have HPL7 := Lib.hid hpl7
      have hlen7 : (pile.take (j) ++ [t]).length = j + 1 := by rw [List.length_append, List.length_take]; simp only [List.length_cons, List.length_nil]; omega
      have HLEN7 := Lib.hid hlen7
      clear hpl7 hlen7 E7
      go_wp2_with (first | (at_builtin; refine Lib.wpList_append_run _ rfl _ _ _ _ rfl _ _ rfl rfl _ _ hr6 ?_) | (at_builtin; refine Lib.wpList_append_run _ rfl _ _ _ _ rfl _ _ rfl rfl _ _ hr7 ?_))
      go_roundw
      case rel => exact ⟨k + 1, _, by omega, by go_num, HPL7.out, HR2.out, by rw [HLEN7.out]; omega, HNZ2.out, hE7⟩
      case measure => simp [intOf]; omega
end Go.Proofs.Ytgkbhonjodcakaa
