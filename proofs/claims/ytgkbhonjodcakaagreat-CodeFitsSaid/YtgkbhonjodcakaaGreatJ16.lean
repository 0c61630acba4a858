/- What stands in this text: CodeChk, Lin, Tree. -/
import Derived.Test.YtgkbhonjodcakaaGreatJ0
import Derived.Test.YtgkbhonjodcakaaGreatJ15
import Derived.Deep.Cut
import Derived.Deep.CutRange
import Derived.Lib.AppendZeros
import Derived.OrdersHeld
namespace Go.Proofs.YtgkbhonjodcakaaGreat
open Go.RowKit
set_option linter.unusedVariables false
set_option linter.unusedSimpArgs false

theorem chk_no {ps : List PlD} {l : List IsD} (h : ¬ (placesOk ps = true ∧ l.length ≤ 800)) : chkC ps l = (0, false) := by unfold chkC; rw [if_neg h]
theorem chk_end {ps : List PlD} {l : List IsD} (h : placesOk ps = true ∧ l.length ≤ 800) : chkC ps l = endP (runP ps l []) := by unfold chkC; rw [if_pos h]
theorem run_at {ps : List PlD} {l : List IsD} {k : Nat} {x : IsD} {pile : List Int} (h : l[k]? = some x) : runP ps (l.drop k) pile = (stepJ ps x pile).bind (runP ps (l.drop (k + 1))) := by
  obtain ⟨hk, rfl⟩ := List.getElem?_eq_some_iff.1 h
  rw [List.drop_eq_getElem_cons hk, run_cons]
theorem step_zero {ps : List PlD} {x : IsD} {pile : List Int} (h : stepI ps x pile = 0) : stepJ ps x pile = none := by unfold stepJ; rw [if_pos h]
theorem step_some {ps : List PlD} {x : IsD} {pile : List Int} (h : stepI ps x pile ≠ 0) : stepJ ps x pile = some (pile.take (pile.length - manyP x.op) ++ [stepI ps x pile]) := by unfold stepJ; rw [if_neg h]
theorem end_one (t : Int) : endP (some [t]) = (t, true) := rfl
theorem end_not {l : List Int} (h : l.length ≠ 1) : endP (some l) = (0, false) := by
  unfold endP
  split
  · rename_i t e
    simp only [Option.some.injEq] at e
    subst e
    exact absurd rfl h
  · rfl
theorem stepI_push {ps : List PlD} {x : IsD} {pile : List Int} (h : manyP x.op = 0) : stepI ps x pile = pushP ps x := by unfold stepI; rw [if_pos h]
theorem stepI_no {ps : List PlD} {x : IsD} {pile : List Int} (h : manyP x.op ≠ 0) (h2 : ¬ (manyP x.op ≤ pile.length ∧ x.n = 0 ∧ 0 ≤ x.ago ∧ x.ago ≤ mostP x.op)) : stepI ps x pile = 0 := by unfold stepI; rw [if_neg h, if_neg h2]
theorem stepI_yes {ps : List PlD} {x : IsD} {pile : List Int} (h : manyP x.op ≠ 0) (h2 : manyP x.op ≤ pile.length ∧ x.n = 0 ∧ 0 ≤ x.ago ∧ x.ago ≤ mostP x.op) : stepI ps x pile = leaveT x.op (pile.drop (pile.length - manyP x.op)) := by unfold stepI; rw [if_neg h, if_pos h2]
theorem leave_18 {o : Int} (h : o = 18) {l : List Int} : leaveT o l = alikC l := by subst h; rfl
theorem leave_11 {o : Int} (h : o = 11 ∨ o = 12) {l : List Int} : leaveT o l = eqC l := by rcases h with rfl | rfl <;> rfl
theorem leave_17 {o : Int} (h : o = 17) {l : List Int} : leaveT o l = ifC l := by subst h; rfl
theorem many_17 {o : Int} (h : o = 17) : manyP o = 3 := by subst h; rfl
def RetCk (ps : List PlD) (l : List IsD) (w : World) (e : Ending) (w' : World) : Prop := e = .returned (.tuple #[.int .u8 (chkC ps l).1, .bool (chkC ps l).2]) ∧ Ext w w'
theorem retCk {ps : List PlD} {l : List IsD} {w w' : World} {t : Int} {b : Bool} (h : chkC ps l = (t, b)) (hE : Ext w w') : RetCk ps l w (.returned (.tuple #[.int .u8 t, .bool b])) w' := by
  unfold RetCk; rw [h]; exact ⟨rfl, hE⟩
/-- What a closure of a form answers. -/
theorem pile_form {w : World} {l : List Int} {v : Value} (h : PileV w l v) (h1 : 1 ≤ l.length) : ∃ g cap, v = .slice (some ⟨g, 0, none⟩) l.length cap ∧ l.length ≤ cap := by
  rcases h with ⟨_, rfl⟩ | ⟨g, cap, h1, h2, _⟩
  · simp at h1
  · exact ⟨g, cap, h1, h2⟩
set_option maxRecDepth 100000 in
set_option maxHeartbeats 8000000 in
theorem codeChk_any (ps : List PlD) (l : List IsD) (pv lv : Value) (w : World) (hp : RdPlS w ps pv) (hl : RdIsS w l lv) : Calls Tryz.prog 13 #[pv, lv] w (RetCk ps l w) := by
  have HP := Lib.hid hp
  have HL := Lib.hid hl
  obtain ⟨pa, pc, rfl, _, _, hpf⟩ := hp.form
  obtain ⟨la, lc, rfl, _, _, hlf⟩ := hl.form
  clear hp hl
  have hpn : ps.length ≤ 9000000000000000000 := by omega
  have hln : l.length ≤ 9000000000000000000 := by omega
  have hpo : placesOk ps = !(ps.any fun x => !placeOk x) := rfl
  have HPO := Lib.hid hpo
  have HC := Lib.hid (hasPl_any ps _ w HP.out)
  clear hpo
  generalize hb : (ps.any fun x => !placeOk x) = b at *
  clear hb
  go_enter Tryz.func13, Tryz.ntmps13
  go_wp2_with fail
  refine HC.out.mono ?_
  rintro e w1 ⟨rfl, E1⟩
  clear HC
  cases b
  case true =>
    have HQ := Lib.hid (chk_no (ps := ps) (l := l) (fun h => by rw [HPO.out] at h; simp at h))
    go_wp2_with fail
    go_ret2
    exact retCk HQ.out E1
  have HOK := Lib.hid (show placesOk ps = true by rw [HPO.out]; rfl)
  clear HPO
  by_cases h800 : l.length ≤ 800
  case neg =>
    have HQ := Lib.hid (chk_no (ps := ps) (l := l) (fun h => h800 h.2))
    have q8 : (800 : Int) < (l.length : Int) := by omega
    go_wp2_with fail
    go_ret2
    exact retCk HQ.out E1
  have q8 : ¬ (800 : Int) < (l.length : Int) := by omega
  have HEND := Lib.hid (chk_end (ps := ps) (l := l) ⟨HOK.out, h800⟩)
  go_wp2_with fail
  refine (forms_any _).mono ?_
  rintro e w2 ⟨M, rfl, hfm, E2'⟩
  have E2 := E1.trans E2'
  have HFM := Lib.hid hfm
  clear hfm E2' E1
  go_wp2_with fail
  go_loopw [7, 27] (fun pv2 iv wr => ∃ (k : Nat) (pile : List Int), k ≤ l.length ∧ iv = .int .i64 k ∧ PileV wr pile pv2 ∧ runP ps l [] = runP ps (l.drop k) pile ∧ pile.length ≤ k ∧ Ext w2 wr) (fun _ iv _ => l.length - (intOf iv).toNat)
  case atStart => exact ⟨0, [], Nat.zero_le _, rfl, PileV.nil _, rfl, Nat.le_refl _, Chg.refl _ _⟩
  case round =>
    obtain ⟨k, pile, hk, rfl, hpl, hrun, hpk, hE⟩ := hrel
    have HRUN := Lib.hid hrun
    have HPL := Lib.hid hpl
    clear hrun
    obtain ⟨a, cap, rfl, hcap, hno, hso⟩ := hpl.form
    clear hpl
    by_cases hlt : k < l.length
    case neg =>
      obtain rfl : k = l.length := by omega
      have hr := HRUN.out
      rw [List.drop_length] at hr
      have HQ : Hid (chkC ps l = endP (some pile)) := by show _ = _; rw [HEND.out, hr]; rfl
      have HE := E2.trans hE
      clear hr HRUN HEND
      by_cases h1 : pile.length = 1
      · obtain ⟨t, rfl⟩ := List.length_eq_one_iff.1 h1
        obtain ⟨g, cap', e, _⟩ := pile_form HPL.out (by simp)
        simp only [Value.slice.injEq] at e
        obtain ⟨rfl, _, rfl⟩ := e
        have c0 := HPL.out.get (i := 0) rfl
        simp only [List.length_cons, List.length_nil, Nat.zero_add] at *
        have HQ2 := Lib.hid (HQ.out.trans (end_one t))
        clear HQ
        go_wp2_with fail
        go_ret2
        exact retCk HQ2.out HE
      · have HQ2 := Lib.hid (HQ.out.trans (end_not h1))
        have b1 : ((pile.length : Int) != 1) = true := by
          rw [bne_iff_ne]; omega
        clear HQ
        go_wp2_with fail
        go_ret2
        exact retCk HQ2.out HE
    have hx := List.getElem?_eq_getElem hlt
    have q1 : (k : Int) < (l.length : Int) := by omega
    obtain ⟨bb, oo, rfl, hbb, hu8, c0, c1, c2⟩ := (HL.out.ext (E2.trans hE)).get hx
    have HAT := Lib.hid (run_at (ps := ps) (pile := pile) hx)
    have HU8 := Lib.hid hu8
    generalize l[k] = x at *
    clear hx hu8
    have HLK := Lib.hid ((HFM.out.ext hE).look HU8.out)
    obtain ⟨op, n, ago⟩ := x
    simp only at c0 c1 c2 HLK HU8
    have HSP := Lib.hid (fun h => stepI_push (ps := ps) (x := ⟨op, n, ago⟩) (pile := pile) h)
    have HSN := Lib.hid (fun h h2 => stepI_no (ps := ps) (x := ⟨op, n, ago⟩) (pile := pile) h h2)
    have HSY := Lib.hid (fun h h2 => stepI_yes (ps := ps) (x := ⟨op, n, ago⟩) (pile := pile) h h2)
    simp only at HSP HSN HSY
    rcases HLK.out with ⟨hm0, hlk⟩ | ⟨hm0, c, hcl, hlk⟩
    · clear HLK
      have HS := Lib.hid (HSP.out hm0)
      have HM0 := Lib.hid hm0
      clear HSP HSN HSY hm0
      have ew : ∀ o, Ext wr (wr.alloc o) := fun o => (Chg.refl _ _).alloc o
      go_upto_region 10 with (fail)
      generalize hw3 : wr.alloc _ = w3
      obtain ⟨s3, b3, e3⟩ := chain1 hw3
      clear hw3
      generalize hw4 : w3.alloc _ = w4
      obtain ⟨s4, b4, e4⟩ := chain1 hw4
      clear hw4
      rw [s3] at b4
      have b3 := Ext.heap e4 b3
      have E4 := e3.trans e4
      have z0 : ∀ X, Ext w4 X → X.cell? ⟨wr.heap.size, 0, none⟩ = some (.int .u8 op) := fun X hX => (blk_cell (Ext.heap hX b3) 0).trans rfl
      have z1 : ∀ X, Ext w4 X → X.cell? ⟨wr.heap.size, 1, none⟩ = some (.int .i64 n) := fun X hX => (blk_cell (Ext.heap hX b3) 1).trans rfl
      have z2 : ∀ X, Ext w4 X → X.cell? ⟨wr.heap.size, 2, none⟩ = some (.int .i64 ago) := fun X hX => (blk_cell (Ext.heap hX b3) 2).trans rfl
      have z3 : ∀ X, Ext w4 X → X.cell? ⟨wr.heap.size + 1, 0, none⟩ = some (.int .i64 0) := fun X hX => (blk_cell (Ext.heap hX b4) 0).trans rfl
      have z4 : ∀ X, Ext w4 X → X.cell? ⟨wr.heap.size + 1, 1, none⟩ = some (.nilFunc) := fun X hX => (blk_cell (Ext.heap hX b4) 1).trans rfl
      have er : Ext w4 w4 := Chg.refl _ _
      have hEw := hE.trans E4
      have HPL4 := Lib.hid (HPL.out.ext E4)
      have HP4 := Lib.hid (HP.out.ext (E2.trans hEw))
      have hplen : pile.length ≤ 1000 := by omega
      clear b3 b4 s3 s4 e3 e4 ew c0 c1 c2 hlk
      have hw1 : IntKind.i64.wrap ((pile.length : Int) - 0) = (pile.length : Int) := by rw [IntKind.wrap_i64] <;> omega
      have HLF := Lib.hid (leaf_any ps _ ⟨op, n, ago⟩ w4 HP4.out)
      simp only at HLF
      go_upto_region 14 with (fail)
      all_goals (
        go_wp2_with fail
        refine HLF.out.mono ?_
        rintro e W ⟨rfl, E5⟩
        generalize hgt : pushP ps ⟨op, n, ago⟩ = t at *
        have HT := HS
        clear hgt
        by_cases ht0 : t = 0
        case pos =>
          have HQ : Hid (chkC ps l = (0, false)) := by
            show _ = _
            rw [HEND.out, HRUN.out, HAT.out, step_zero (by rw [HT.out, ht0])]
            rfl
          subst ht0
          have HE := E2.trans (hEw.trans E5)
          go_wp2_with fail
          go_ret2
          exact retCk HQ.out HE
        have bt0 : (t == 0) = false := by simpa using ht0
        have HR2 : Hid (runP ps l [] = runP ps (l.drop (k + 1)) (pile.take (pile.length) ++ [t])) := by
          show _ = _
          rw [HRUN.out, HAT.out, step_some (by rw [HT.out]; exact ht0), HT.out, Option.bind_some]
          simp only [HM0.out, Nat.sub_zero]
        clear ht0
        have hpB := (HPL4.out.ext E5).ext ((Chg.refl (fun _ => False) W).alloc (.cells #[.int .u8 t] 37))
        obtain ⟨g6, c6, w6, hrun6, hpl6, E6⟩ := pile_push (k := pile.length) hpB rfl (by omega) (by omega) (t := t) (B := W.heap.size) (ty := 106) (World.cell?_alloc_new _ _ _ _)
        have hE6 := (hEw.trans E5).trans (((Chg.refl (fun _ => False) W).alloc _).trans E6)
        have HPL6 := Lib.hid hpl6
        have hlen6 : (pile.take (pile.length) ++ [t]).length = pile.length + 1 := by rw [List.length_append, List.length_take]; simp only [List.length_cons, List.length_nil]; omega
        have HLEN6 := Lib.hid hlen6
        clear hpB hpl6 hlen6 E6
        go_wp2_with (at_builtin; refine Lib.wpList_append_run _ rfl _ _ _ _ rfl _ _ rfl rfl _ _ hrun6 ?_)
        go_wp2_with fail
        go_roundw
        case rel => exact ⟨k + 1, _, by omega, by go_num, HPL6.out, HR2.out, by rw [HLEN6.out]; omega, hE6⟩
        case measure => simp [intOf]; omega
      )
    · obtain ⟨F, caps, rfl⟩ : ∃ F caps, c = .func (.func F) #[] caps := by
        rcases hcl with ⟨_, _, ⟨_, _, h, _⟩, _⟩ | ⟨_, h⟩ | ⟨_, _, h, _⟩ | ⟨_, _, h, _⟩ <;> exact ⟨_, _, h⟩
      have HCL := Lib.hid hcl
      clear HLK HSP hcl
      have ew : ∀ o, Ext wr (wr.alloc o) := fun o => (Chg.refl _ _).alloc o
      go_upto_region 10 with (fail)
      generalize hw3 : wr.alloc _ = w3
      obtain ⟨s3, b3, e3⟩ := chain1 hw3
      clear hw3
      generalize hw4 : w3.alloc _ = w4
      obtain ⟨s4, b4, e4⟩ := chain1 hw4
      clear hw4
      rw [s3] at b4
      have b3 := Ext.heap e4 b3
      have E4 := e3.trans e4
      have z0 : ∀ X, Ext w4 X → X.cell? ⟨wr.heap.size, 0, none⟩ = some (.int .u8 op) := fun X hX => (blk_cell (Ext.heap hX b3) 0).trans rfl
      have z1 : ∀ X, Ext w4 X → X.cell? ⟨wr.heap.size, 1, none⟩ = some (.int .i64 n) := fun X hX => (blk_cell (Ext.heap hX b3) 1).trans rfl
      have z2 : ∀ X, Ext w4 X → X.cell? ⟨wr.heap.size, 2, none⟩ = some (.int .i64 ago) := fun X hX => (blk_cell (Ext.heap hX b3) 2).trans rfl
      have z3 : ∀ X, Ext w4 X → X.cell? ⟨wr.heap.size + 1, 0, none⟩ = some (.int .i64 (manyP op)) := fun X hX => (blk_cell (Ext.heap hX b4) 0).trans rfl
      have z4 : ∀ X, Ext w4 X → X.cell? ⟨wr.heap.size + 1, 1, none⟩ = some (.func (.func F) #[] caps) := fun X hX => (blk_cell (Ext.heap hX b4) 1).trans rfl
      have er : Ext w4 w4 := Chg.refl _ _
      have hEw := hE.trans E4
      have HPL4 := Lib.hid (HPL.out.ext E4)
      have HP4 := Lib.hid (HP.out.ext (E2.trans hEw))
      have hplen : pile.length ≤ 1000 := by omega
      clear b3 b4 s3 s4 e3 e4 ew c0 c1 c2 hlk
      have hmle := many_le op
      have HM0 := Lib.hid hm0
      have HCL4 := Lib.hid (HCL.out.chg E4 (fun _ _ h => h.elim))
      have HMX : Hid (∀ o, manyP o = manyP o) := fun _ => rfl
      obtain ⟨z, hz⟩ : ∃ z : Int, z = (pile.length : Int) - (manyP op : Int) := ⟨_, rfl⟩
      have hw1 : IntKind.i64.wrap ((pile.length : Int) - (manyP op : Int)) = z := by rw [hz, IntKind.wrap_i64] <;> omega
      have HZ := Lib.hid hz
      clear hz HCL
      generalize hmm : manyP op = m at *
      have HMM := Lib.hid hmm
      clear hmm
      by_cases h18 : op = 18
      · have bo : (op == 18) = true := by simpa using h18
        have hmo : mostP op = 32 := by unfold mostP; rw [if_pos h18]
        rw [hmo] at HSN HSY
        clear hmo h18
        by_cases d : m ≤ pile.length
        case neg =>
          have HQ : Hid (chkC ps l = (0, false)) := by
            show _ = _
            rw [HEND.out, HRUN.out, HAT.out, step_zero (HSN.out HM0.out (fun h => d h.1))]
            rfl
          have bd : decide (0 ≤ z) = false := decide_eq_false (by have := HZ.out; omega)
          have HE := E2.trans hEw
          go_wp2_with fail
          go_ret2
          exact retCk HQ.out HE
        have d0 := d
        clear d
        by_cases d : n = 0
        case neg =>
          have HQ : Hid (chkC ps l = (0, false)) := by
            show _ = _
            rw [HEND.out, HRUN.out, HAT.out, step_zero (HSN.out HM0.out (fun h => d h.2.1))]
            rfl
          have dz : 0 ≤ z := by have := HZ.out; omega
          have bd : (n == 0) = false := by simpa using d
          have HE := E2.trans hEw
          go_wp2_with fail
          go_ret2
          exact retCk HQ.out HE
        have d1 := d
        clear d
        by_cases d : 0 ≤ ago
        case neg =>
          have HQ : Hid (chkC ps l = (0, false)) := by
            show _ = _
            rw [HEND.out, HRUN.out, HAT.out, step_zero (HSN.out HM0.out (fun h => d h.2.2.1))]
            rfl
          have dz : 0 ≤ z := by have := HZ.out; omega
          have bd : decide (0 ≤ ago) = false := decide_eq_false d
          have HE := E2.trans hEw
          go_wp2_with fail
          go_ret2
          exact retCk HQ.out HE
        have d2 := d
        clear d
        by_cases d : ago ≤ 32
        case neg =>
          have HQ : Hid (chkC ps l = (0, false)) := by
            show _ = _
            rw [HEND.out, HRUN.out, HAT.out, step_zero (HSN.out HM0.out (fun h => d h.2.2.2))]
            rfl
          have dz : 0 ≤ z := by have := HZ.out; omega
          have bd : decide (ago ≤ 32) = false := decide_eq_false d
          have HE := E2.trans hEw
          go_wp2_with fail
          go_ret2
          exact retCk HQ.out HE
        have d3 := d
        clear d
        subst d1
        obtain ⟨j, hj⟩ : ∃ j : Nat, j = pile.length - m := ⟨_, rfl⟩
        obtain rfl : z = (j : Int) := by have := HZ.out; omega
        have hm1 : 1 ≤ m := Nat.one_le_iff_ne_zero.2 HM0.out
        obtain ⟨g, cap', e, hcap2⟩ := pile_form HPL4.out (by omega)
        simp only [Value.slice.injEq] at e
        obtain ⟨rfl, _, rfl⟩ := e
        have HS := Lib.hid (HSY.out HM0.out ⟨d0, rfl, d2, d3⟩)
        rw [← hj] at HS
        have hjl : j ≤ pile.length := by omega
        have hjI : (j : Int) ≤ (pile.length : Int) := by omega
        have hjne : ¬ pile.length = j := by omega
        have hcI : (pile.length : Int) ≤ (cap : Int) := by omega
        have HJ := Lib.hid hj
        have hdl : (pile.drop j).length = m := by rw [List.length_drop]; omega
        have HDL := Lib.hid hdl
        have HT4 := Lib.hid (fun (X : World) (hX : Ext w4 X) => (HPL4.out.ext hX).top (k := j) hjl (Nat.le_refl (pile.length - j)))
        have HD1 : Hid (1 ≤ (pile.drop j).length) := by show _ ≤ _; rw [HDL.out]; exact hm1
        have HD2 : Hid ((pile.drop j).length ≤ 100000) := by show _ ≤ _; rw [HDL.out]; omega
        clear hj hdl HSN HSY
        go_upto_region 18 with (fail)
        have G0 : Ext w4 w4.drew := er.drew
        rcases HCL4.out with ⟨tf, tt, ⟨b0, b1, h, hb0, hb1⟩, hlv⟩ | ⟨ho, h⟩ | ⟨ho, b0, h, hb0⟩ | ⟨ho, b0, h, hb0⟩
        · simp only [Value.func.injEq, Fn.func.injEq, true_and] at h
          obtain ⟨rfl, rfl⟩ := h
          have HT0 := Lib.hid (HS.out.trans (hlv _))
          have HCA := Lib.hid (from1_any tf tt (pile.drop j) _ b0 b1 _ (HT4.out _ G0) HD2.out (Ext.cell G0 hb0) (Ext.cell G0 hb1))
          generalize hgt : eachT tf tt (pile.drop j) = t at *
          have HT := HT0
          clear hgt HT4 HD1 HD2 HDL HCL4
          go_region_held3 (fun X => Ext w4 X) (first | assumption)
            (first
              | (go_at_call 115; refine HCA.out.mono ?_; rintro e W ⟨rfl, E5'⟩; have E5 := G0.trans E5'))
          clear E5' HCA
          by_cases ht0 : t = 0
          case pos =>
            have HQ : Hid (chkC ps l = (0, false)) := by
              show _ = _
              rw [HEND.out, HRUN.out, HAT.out, step_zero (by rw [HT.out, ht0])]
              rfl
            subst ht0
            have HE := E2.trans (hEw.trans E5)
            go_wp2_with fail
            go_ret2
            exact retCk HQ.out HE
          have bt0 : (t == 0) = false := by simpa using ht0
          have HR2 : Hid (runP ps l [] = runP ps (l.drop (k + 1)) (pile.take (j) ++ [t])) := by
            show _ = _
            rw [HRUN.out, HAT.out, step_some (by rw [HT.out]; exact ht0), HT.out, Option.bind_some]
            rw [HMM.out, ← HJ.out]
          clear ht0
          have hpB := (HPL4.out.ext E5).ext ((Chg.refl (fun _ => False) W).alloc (.cells #[.int .u8 t] 37))
          obtain ⟨g6, c6, w6, hrun6, hpl6, E6⟩ := pile_push (k := j) hpB rfl (by omega) (by omega) (t := t) (B := W.heap.size) (ty := 106) (World.cell?_alloc_new _ _ _ _)
          have hE6 := (hEw.trans E5).trans (((Chg.refl (fun _ => False) W).alloc _).trans E6)
          have HPL6 := Lib.hid hpl6
          have hlen6 : (pile.take (j) ++ [t]).length = j + 1 := by rw [List.length_append, List.length_take]; simp only [List.length_cons, List.length_nil]; omega
          have HLEN6 := Lib.hid hlen6
          clear hpB hpl6 hlen6 E6
          go_wp2_with (at_builtin; refine Lib.wpList_append_run _ rfl _ _ _ _ rfl _ _ rfl rfl _ _ hrun6 ?_)
          go_wp2_with fail
          go_roundw
          case rel => exact ⟨k + 1, _, by omega, by go_num, HPL6.out, HR2.out, by rw [HLEN6.out]; omega, hE6⟩
          case measure => simp [intOf]; omega
        · simp only [Value.func.injEq, Fn.func.injEq, true_and] at h
          obtain ⟨rfl, rfl⟩ := h
          have HT0 := Lib.hid (HS.out.trans (leave_18 ho))
          have HCA := Lib.hid (alikC_any (pile.drop j) _ _ (HT4.out _ G0) HD1.out HD2.out)
          generalize hgt : alikC (pile.drop j) = t at *
          have HT := HT0
          clear hgt HT4 HD1 HD2 HDL HCL4
          go_region_held3 (fun X => Ext w4 X) (first | assumption)
            (first
              | (go_at_call 82; refine HCA.out.mono ?_; rintro e W ⟨rfl, E5'⟩; have E5 := G0.trans E5'))
          clear E5' HCA
          by_cases ht0 : t = 0
          case pos =>
            have HQ : Hid (chkC ps l = (0, false)) := by
              show _ = _
              rw [HEND.out, HRUN.out, HAT.out, step_zero (by rw [HT.out, ht0])]
              rfl
            subst ht0
            have HE := E2.trans (hEw.trans E5)
            go_wp2_with fail
            go_ret2
            exact retCk HQ.out HE
          have bt0 : (t == 0) = false := by simpa using ht0
          have HR2 : Hid (runP ps l [] = runP ps (l.drop (k + 1)) (pile.take (j) ++ [t])) := by
            show _ = _
            rw [HRUN.out, HAT.out, step_some (by rw [HT.out]; exact ht0), HT.out, Option.bind_some]
            rw [HMM.out, ← HJ.out]
          clear ht0
          have hpB := (HPL4.out.ext E5).ext ((Chg.refl (fun _ => False) W).alloc (.cells #[.int .u8 t] 37))
          obtain ⟨g6, c6, w6, hrun6, hpl6, E6⟩ := pile_push (k := j) hpB rfl (by omega) (by omega) (t := t) (B := W.heap.size) (ty := 106) (World.cell?_alloc_new _ _ _ _)
          have hE6 := (hEw.trans E5).trans (((Chg.refl (fun _ => False) W).alloc _).trans E6)
          have HPL6 := Lib.hid hpl6
          have hlen6 : (pile.take (j) ++ [t]).length = j + 1 := by rw [List.length_append, List.length_take]; simp only [List.length_cons, List.length_nil]; omega
          have HLEN6 := Lib.hid hlen6
          clear hpB hpl6 hlen6 E6
          go_wp2_with (at_builtin; refine Lib.wpList_append_run _ rfl _ _ _ _ rfl _ _ rfl rfl _ _ hrun6 ?_)
          go_wp2_with fail
          go_roundw
          case rel => exact ⟨k + 1, _, by omega, by go_num, HPL6.out, HR2.out, by rw [HLEN6.out]; omega, hE6⟩
          case measure => simp [intOf]; omega
        · simp only [Value.func.injEq, Fn.func.injEq, true_and] at h
          obtain ⟨rfl, rfl⟩ := h
          have HT0 := Lib.hid (HS.out.trans (leave_11 ho))
          have HCA := Lib.hid (eqC_any (pile.drop j) _ b0 _ (HT4.out _ G0) HD1.out HD2.out (Ext.cell G0 hb0))
          generalize hgt : eqC (pile.drop j) = t at *
          have HT := HT0
          clear hgt HT4 HD1 HD2 HDL HCL4
          go_region_held3 (fun X => Ext w4 X) (first | assumption)
            (first
              | (go_at_call 84; refine HCA.out.mono ?_; rintro e W ⟨rfl, E5'⟩; have E5 := G0.trans E5'))
          clear E5' HCA
          by_cases ht0 : t = 0
          case pos =>
            have HQ : Hid (chkC ps l = (0, false)) := by
              show _ = _
              rw [HEND.out, HRUN.out, HAT.out, step_zero (by rw [HT.out, ht0])]
              rfl
            subst ht0
            have HE := E2.trans (hEw.trans E5)
            go_wp2_with fail
            go_ret2
            exact retCk HQ.out HE
          have bt0 : (t == 0) = false := by simpa using ht0
          have HR2 : Hid (runP ps l [] = runP ps (l.drop (k + 1)) (pile.take (j) ++ [t])) := by
            show _ = _
            rw [HRUN.out, HAT.out, step_some (by rw [HT.out]; exact ht0), HT.out, Option.bind_some]
            rw [HMM.out, ← HJ.out]
          clear ht0
          have hpB := (HPL4.out.ext E5).ext ((Chg.refl (fun _ => False) W).alloc (.cells #[.int .u8 t] 37))
          obtain ⟨g6, c6, w6, hrun6, hpl6, E6⟩ := pile_push (k := j) hpB rfl (by omega) (by omega) (t := t) (B := W.heap.size) (ty := 106) (World.cell?_alloc_new _ _ _ _)
          have hE6 := (hEw.trans E5).trans (((Chg.refl (fun _ => False) W).alloc _).trans E6)
          have HPL6 := Lib.hid hpl6
          have hlen6 : (pile.take (j) ++ [t]).length = j + 1 := by rw [List.length_append, List.length_take]; simp only [List.length_cons, List.length_nil]; omega
          have HLEN6 := Lib.hid hlen6
          clear hpB hpl6 hlen6 E6
          go_wp2_with (at_builtin; refine Lib.wpList_append_run _ rfl _ _ _ _ rfl _ _ rfl rfl _ _ hrun6 ?_)
          go_wp2_with fail
          go_roundw
          case rel => exact ⟨k + 1, _, by omega, by go_num, HPL6.out, HR2.out, by rw [HLEN6.out]; omega, hE6⟩
          case measure => simp [intOf]; omega
        · simp only [Value.func.injEq, Fn.func.injEq, true_and] at h
          obtain ⟨rfl, rfl⟩ := h
          have HT0 := Lib.hid (HS.out.trans (leave_17 ho))
          have HCA := Lib.hid (ifC_any (pile.drop j) _ b0 _ (HT4.out _ G0) (HDL.out.trans (HMM.out.symm.trans (many_17 ho))) (Ext.cell G0 hb0))
          generalize hgt : ifC (pile.drop j) = t at *
          have HT := HT0
          clear hgt HT4 HD1 HD2 HDL HCL4
          go_region_held3 (fun X => Ext w4 X) (first | assumption)
            (first
              | (go_at_call 85; refine HCA.out.mono ?_; rintro e W ⟨rfl, E5'⟩; have E5 := G0.trans E5'))
          clear E5' HCA
          by_cases ht0 : t = 0
          case pos =>
            have HQ : Hid (chkC ps l = (0, false)) := by
              show _ = _
              rw [HEND.out, HRUN.out, HAT.out, step_zero (by rw [HT.out, ht0])]
              rfl
            subst ht0
            have HE := E2.trans (hEw.trans E5)
            go_wp2_with fail
            go_ret2
            exact retCk HQ.out HE
          have bt0 : (t == 0) = false := by simpa using ht0
          have HR2 : Hid (runP ps l [] = runP ps (l.drop (k + 1)) (pile.take (j) ++ [t])) := by
            show _ = _
            rw [HRUN.out, HAT.out, step_some (by rw [HT.out]; exact ht0), HT.out, Option.bind_some]
            rw [HMM.out, ← HJ.out]
          clear ht0
          have hpB := (HPL4.out.ext E5).ext ((Chg.refl (fun _ => False) W).alloc (.cells #[.int .u8 t] 37))
          obtain ⟨g6, c6, w6, hrun6, hpl6, E6⟩ := pile_push (k := j) hpB rfl (by omega) (by omega) (t := t) (B := W.heap.size) (ty := 106) (World.cell?_alloc_new _ _ _ _)
          have hE6 := (hEw.trans E5).trans (((Chg.refl (fun _ => False) W).alloc _).trans E6)
          have HPL6 := Lib.hid hpl6
          have hlen6 : (pile.take (j) ++ [t]).length = j + 1 := by rw [List.length_append, List.length_take]; simp only [List.length_cons, List.length_nil]; omega
          have HLEN6 := Lib.hid hlen6
          clear hpB hpl6 hlen6 E6
          go_wp2_with (at_builtin; refine Lib.wpList_append_run _ rfl _ _ _ _ rfl _ _ rfl rfl _ _ hrun6 ?_)
          go_wp2_with fail
          go_roundw
          case rel => exact ⟨k + 1, _, by omega, by go_num, HPL6.out, HR2.out, by rw [HLEN6.out]; omega, hE6⟩
          case measure => simp [intOf]; omega
      · have bo : (op == 18) = false := by simpa using h18
        have hmo : mostP op = 0 := by unfold mostP; rw [if_neg h18]
        rw [hmo] at HSN HSY
        clear hmo h18
        by_cases d : m ≤ pile.length
        case neg =>
          have HQ : Hid (chkC ps l = (0, false)) := by
            show _ = _
            rw [HEND.out, HRUN.out, HAT.out, step_zero (HSN.out HM0.out (fun h => d h.1))]
            rfl
          have bd : decide (0 ≤ z) = false := decide_eq_false (by have := HZ.out; omega)
          have HE := E2.trans hEw
          go_wp2_with fail
          go_ret2
          exact retCk HQ.out HE
        have d0 := d
        clear d
        by_cases d : n = 0
        case neg =>
          have HQ : Hid (chkC ps l = (0, false)) := by
            show _ = _
            rw [HEND.out, HRUN.out, HAT.out, step_zero (HSN.out HM0.out (fun h => d h.2.1))]
            rfl
          have dz : 0 ≤ z := by have := HZ.out; omega
          have bd : (n == 0) = false := by simpa using d
          have HE := E2.trans hEw
          go_wp2_with fail
          go_ret2
          exact retCk HQ.out HE
        have d1 := d
        clear d
        by_cases d : 0 ≤ ago
        case neg =>
          have HQ : Hid (chkC ps l = (0, false)) := by
            show _ = _
            rw [HEND.out, HRUN.out, HAT.out, step_zero (HSN.out HM0.out (fun h => d h.2.2.1))]
            rfl
          have dz : 0 ≤ z := by have := HZ.out; omega
          have bd : decide (0 ≤ ago) = false := decide_eq_false d
          have HE := E2.trans hEw
          go_wp2_with fail
          go_ret2
          exact retCk HQ.out HE
        have d2 := d
        clear d
        by_cases d : ago ≤ 0
        case neg =>
          have HQ : Hid (chkC ps l = (0, false)) := by
            show _ = _
            rw [HEND.out, HRUN.out, HAT.out, step_zero (HSN.out HM0.out (fun h => d h.2.2.2))]
            rfl
          have dz : 0 ≤ z := by have := HZ.out; omega
          have bd : decide (ago ≤ 0) = false := decide_eq_false d
          have HE := E2.trans hEw
          go_wp2_with fail
          go_ret2
          exact retCk HQ.out HE
        have d3 := d
        clear d
        subst d1
        obtain ⟨j, hj⟩ : ∃ j : Nat, j = pile.length - m := ⟨_, rfl⟩
        obtain rfl : z = (j : Int) := by have := HZ.out; omega
        have hm1 : 1 ≤ m := Nat.one_le_iff_ne_zero.2 HM0.out
        obtain ⟨g, cap', e, hcap2⟩ := pile_form HPL4.out (by omega)
        simp only [Value.slice.injEq] at e
        obtain ⟨rfl, _, rfl⟩ := e
        have HS := Lib.hid (HSY.out HM0.out ⟨d0, rfl, d2, d3⟩)
        rw [← hj] at HS
        have hjl : j ≤ pile.length := by omega
        have hjI : (j : Int) ≤ (pile.length : Int) := by omega
        have hjne : ¬ pile.length = j := by omega
        have hcI : (pile.length : Int) ≤ (cap : Int) := by omega
        have HJ := Lib.hid hj
        have hdl : (pile.drop j).length = m := by rw [List.length_drop]; omega
        have HDL := Lib.hid hdl
        have HT4 := Lib.hid (fun (X : World) (hX : Ext w4 X) => (HPL4.out.ext hX).top (k := j) hjl (Nat.le_refl (pile.length - j)))
        have HD1 : Hid (1 ≤ (pile.drop j).length) := by show _ ≤ _; rw [HDL.out]; exact hm1
        have HD2 : Hid ((pile.drop j).length ≤ 100000) := by show _ ≤ _; rw [HDL.out]; omega
        clear hj hdl HSN HSY
        go_upto_region 18 with (fail)
        have G0 : Ext w4 w4.drew := er.drew
        rcases HCL4.out with ⟨tf, tt, ⟨b0, b1, h, hb0, hb1⟩, hlv⟩ | ⟨ho, h⟩ | ⟨ho, b0, h, hb0⟩ | ⟨ho, b0, h, hb0⟩
        · simp only [Value.func.injEq, Fn.func.injEq, true_and] at h
          obtain ⟨rfl, rfl⟩ := h
          have HT0 := Lib.hid (HS.out.trans (hlv _))
          have HCA := Lib.hid (from1_any tf tt (pile.drop j) _ b0 b1 _ (HT4.out _ G0) HD2.out (Ext.cell G0 hb0) (Ext.cell G0 hb1))
          generalize hgt : eachT tf tt (pile.drop j) = t at *
          have HT := HT0
          clear hgt HT4 HD1 HD2 HDL HCL4
          go_region_held3 (fun X => Ext w4 X) (first | assumption)
            (first
              | (go_at_call 115; refine HCA.out.mono ?_; rintro e W ⟨rfl, E5'⟩; have E5 := G0.trans E5'))
          clear E5' HCA
          by_cases ht0 : t = 0
          case pos =>
            have HQ : Hid (chkC ps l = (0, false)) := by
              show _ = _
              rw [HEND.out, HRUN.out, HAT.out, step_zero (by rw [HT.out, ht0])]
              rfl
            subst ht0
            have HE := E2.trans (hEw.trans E5)
            go_wp2_with fail
            go_ret2
            exact retCk HQ.out HE
          have bt0 : (t == 0) = false := by simpa using ht0
          have HR2 : Hid (runP ps l [] = runP ps (l.drop (k + 1)) (pile.take (j) ++ [t])) := by
            show _ = _
            rw [HRUN.out, HAT.out, step_some (by rw [HT.out]; exact ht0), HT.out, Option.bind_some]
            rw [HMM.out, ← HJ.out]
          clear ht0
          have hpB := (HPL4.out.ext E5).ext ((Chg.refl (fun _ => False) W).alloc (.cells #[.int .u8 t] 37))
          obtain ⟨g6, c6, w6, hrun6, hpl6, E6⟩ := pile_push (k := j) hpB rfl (by omega) (by omega) (t := t) (B := W.heap.size) (ty := 106) (World.cell?_alloc_new _ _ _ _)
          have hE6 := (hEw.trans E5).trans (((Chg.refl (fun _ => False) W).alloc _).trans E6)
          have HPL6 := Lib.hid hpl6
          have hlen6 : (pile.take (j) ++ [t]).length = j + 1 := by rw [List.length_append, List.length_take]; simp only [List.length_cons, List.length_nil]; omega
          have HLEN6 := Lib.hid hlen6
          clear hpB hpl6 hlen6 E6
          go_wp2_with (at_builtin; refine Lib.wpList_append_run _ rfl _ _ _ _ rfl _ _ rfl rfl _ _ hrun6 ?_)
          go_wp2_with fail
          go_roundw
          case rel => exact ⟨k + 1, _, by omega, by go_num, HPL6.out, HR2.out, by rw [HLEN6.out]; omega, hE6⟩
          case measure => simp [intOf]; omega
        · simp only [Value.func.injEq, Fn.func.injEq, true_and] at h
          obtain ⟨rfl, rfl⟩ := h
          have HT0 := Lib.hid (HS.out.trans (leave_18 ho))
          have HCA := Lib.hid (alikC_any (pile.drop j) _ _ (HT4.out _ G0) HD1.out HD2.out)
          generalize hgt : alikC (pile.drop j) = t at *
          have HT := HT0
          clear hgt HT4 HD1 HD2 HDL HCL4
          go_region_held3 (fun X => Ext w4 X) (first | assumption)
            (first
              | (go_at_call 82; refine HCA.out.mono ?_; rintro e W ⟨rfl, E5'⟩; have E5 := G0.trans E5'))
          clear E5' HCA
          by_cases ht0 : t = 0
          case pos =>
            have HQ : Hid (chkC ps l = (0, false)) := by
              show _ = _
              rw [HEND.out, HRUN.out, HAT.out, step_zero (by rw [HT.out, ht0])]
              rfl
            subst ht0
            have HE := E2.trans (hEw.trans E5)
            go_wp2_with fail
            go_ret2
            exact retCk HQ.out HE
          have bt0 : (t == 0) = false := by simpa using ht0
          have HR2 : Hid (runP ps l [] = runP ps (l.drop (k + 1)) (pile.take (j) ++ [t])) := by
            show _ = _
            rw [HRUN.out, HAT.out, step_some (by rw [HT.out]; exact ht0), HT.out, Option.bind_some]
            rw [HMM.out, ← HJ.out]
          clear ht0
          have hpB := (HPL4.out.ext E5).ext ((Chg.refl (fun _ => False) W).alloc (.cells #[.int .u8 t] 37))
          obtain ⟨g6, c6, w6, hrun6, hpl6, E6⟩ := pile_push (k := j) hpB rfl (by omega) (by omega) (t := t) (B := W.heap.size) (ty := 106) (World.cell?_alloc_new _ _ _ _)
          have hE6 := (hEw.trans E5).trans (((Chg.refl (fun _ => False) W).alloc _).trans E6)
          have HPL6 := Lib.hid hpl6
          have hlen6 : (pile.take (j) ++ [t]).length = j + 1 := by rw [List.length_append, List.length_take]; simp only [List.length_cons, List.length_nil]; omega
          have HLEN6 := Lib.hid hlen6
          clear hpB hpl6 hlen6 E6
          go_wp2_with (at_builtin; refine Lib.wpList_append_run _ rfl _ _ _ _ rfl _ _ rfl rfl _ _ hrun6 ?_)
          go_wp2_with fail
          go_roundw
          case rel => exact ⟨k + 1, _, by omega, by go_num, HPL6.out, HR2.out, by rw [HLEN6.out]; omega, hE6⟩
          case measure => simp [intOf]; omega
        · simp only [Value.func.injEq, Fn.func.injEq, true_and] at h
          obtain ⟨rfl, rfl⟩ := h
          have HT0 := Lib.hid (HS.out.trans (leave_11 ho))
          have HCA := Lib.hid (eqC_any (pile.drop j) _ b0 _ (HT4.out _ G0) HD1.out HD2.out (Ext.cell G0 hb0))
          generalize hgt : eqC (pile.drop j) = t at *
          have HT := HT0
          clear hgt HT4 HD1 HD2 HDL HCL4
          go_region_held3 (fun X => Ext w4 X) (first | assumption)
            (first
              | (go_at_call 84; refine HCA.out.mono ?_; rintro e W ⟨rfl, E5'⟩; have E5 := G0.trans E5'))
          clear E5' HCA
          by_cases ht0 : t = 0
          case pos =>
            have HQ : Hid (chkC ps l = (0, false)) := by
              show _ = _
              rw [HEND.out, HRUN.out, HAT.out, step_zero (by rw [HT.out, ht0])]
              rfl
            subst ht0
            have HE := E2.trans (hEw.trans E5)
            go_wp2_with fail
            go_ret2
            exact retCk HQ.out HE
          have bt0 : (t == 0) = false := by simpa using ht0
          have HR2 : Hid (runP ps l [] = runP ps (l.drop (k + 1)) (pile.take (j) ++ [t])) := by
            show _ = _
            rw [HRUN.out, HAT.out, step_some (by rw [HT.out]; exact ht0), HT.out, Option.bind_some]
            rw [HMM.out, ← HJ.out]
          clear ht0
          have hpB := (HPL4.out.ext E5).ext ((Chg.refl (fun _ => False) W).alloc (.cells #[.int .u8 t] 37))
          obtain ⟨g6, c6, w6, hrun6, hpl6, E6⟩ := pile_push (k := j) hpB rfl (by omega) (by omega) (t := t) (B := W.heap.size) (ty := 106) (World.cell?_alloc_new _ _ _ _)
          have hE6 := (hEw.trans E5).trans (((Chg.refl (fun _ => False) W).alloc _).trans E6)
          have HPL6 := Lib.hid hpl6
          have hlen6 : (pile.take (j) ++ [t]).length = j + 1 := by rw [List.length_append, List.length_take]; simp only [List.length_cons, List.length_nil]; omega
          have HLEN6 := Lib.hid hlen6
          clear hpB hpl6 hlen6 E6
          go_wp2_with (at_builtin; refine Lib.wpList_append_run _ rfl _ _ _ _ rfl _ _ rfl rfl _ _ hrun6 ?_)
          go_wp2_with fail
          go_roundw
          case rel => exact ⟨k + 1, _, by omega, by go_num, HPL6.out, HR2.out, by rw [HLEN6.out]; omega, hE6⟩
          case measure => simp [intOf]; omega
        · simp only [Value.func.injEq, Fn.func.injEq, true_and] at h
          obtain ⟨rfl, rfl⟩ := h
          have HT0 := Lib.hid (HS.out.trans (leave_17 ho))
          have HCA := Lib.hid (ifC_any (pile.drop j) _ b0 _ (HT4.out _ G0) (HDL.out.trans (HMM.out.symm.trans (many_17 ho))) (Ext.cell G0 hb0))
          generalize hgt : ifC (pile.drop j) = t at *
          have HT := HT0
          clear hgt HT4 HD1 HD2 HDL HCL4
          go_region_held3 (fun X => Ext w4 X) (first | assumption)
            (first
              | (go_at_call 85; refine HCA.out.mono ?_; rintro e W ⟨rfl, E5'⟩; have E5 := G0.trans E5'))
          clear E5' HCA
          by_cases ht0 : t = 0
          case pos =>
            have HQ : Hid (chkC ps l = (0, false)) := by
              show _ = _
              rw [HEND.out, HRUN.out, HAT.out, step_zero (by rw [HT.out, ht0])]
              rfl
            subst ht0
            have HE := E2.trans (hEw.trans E5)
            go_wp2_with fail
            go_ret2
            exact retCk HQ.out HE
          have bt0 : (t == 0) = false := by simpa using ht0
          have HR2 : Hid (runP ps l [] = runP ps (l.drop (k + 1)) (pile.take (j) ++ [t])) := by
            show _ = _
            rw [HRUN.out, HAT.out, step_some (by rw [HT.out]; exact ht0), HT.out, Option.bind_some]
            rw [HMM.out, ← HJ.out]
          clear ht0
          have hpB := (HPL4.out.ext E5).ext ((Chg.refl (fun _ => False) W).alloc (.cells #[.int .u8 t] 37))
          obtain ⟨g6, c6, w6, hrun6, hpl6, E6⟩ := pile_push (k := j) hpB rfl (by omega) (by omega) (t := t) (B := W.heap.size) (ty := 106) (World.cell?_alloc_new _ _ _ _)
          have hE6 := (hEw.trans E5).trans (((Chg.refl (fun _ => False) W).alloc _).trans E6)
          have HPL6 := Lib.hid hpl6
          have hlen6 : (pile.take (j) ++ [t]).length = j + 1 := by rw [List.length_append, List.length_take]; simp only [List.length_cons, List.length_nil]; omega
          have HLEN6 := Lib.hid hlen6
          clear hpB hpl6 hlen6 E6
          go_wp2_with (at_builtin; refine Lib.wpList_append_run _ rfl _ _ _ _ rfl _ _ rfl rfl _ _ hrun6 ?_)
          go_wp2_with fail
          go_roundw
          case rel => exact ⟨k + 1, _, by omega, by go_num, HPL6.out, HR2.out, by rw [HLEN6.out]; omega, hE6⟩
          case measure => simp [intOf]; omega
end Go.Proofs.YtgkbhonjodcakaaGreat
namespace Go.Proofs.YtgkbhonjodcakaaGreat
open Go.RowKit
set_option linter.unusedVariables false
set_option linter.unusedSimpArgs false

section
variable {P : Program} {ops : Array Oper} {Q : Exit → Act → World → Prop}
theorem any_done {listed : Array Bool} {a : Act} {w : World} (hl : ∀ j, j < ops.size → listed.getD j true = true) (hQ : Q .normal a w) : ∀ fuel, wpAny P .any ops Q fuel listed a w := by
  have hr : Region.ready .any ops listed = [] := by
    rw [List.eq_nil_iff_forall_not_mem]
    intro j hj
    obtain ⟨h0, o, ho, _⟩ := mem_ready.1 hj
    rw [hl j (Array.getElem?_eq_some_iff.1 ho).1] at h0
    cases h0
  intro fuel
  cases fuel with
  | zero => exact ⟨hr, hQ⟩
  | succ fuel => exact ⟨fun _ => hQ, fun i hi => by rw [hr] at hi; cases hi⟩
/-- What is known of the state on the way. -/
structure LinSt (n : Nat) (d : Nat → Nat) (Φ : Nat → Value → World → Prop) (W0 : World) (a0 : Act) (listed : Array Bool) (a : Act) (w : World) : Prop where
  ext : Ext W0 w
  size : a.tmps.size = a0.tmps.size
  defers : a.defers = a0.defers
  rest : ∀ t, (∀ i, i < n → d i ≠ t) → a.tmps[t]? = a0.tmps[t]?
  vals : ∀ j, j < n → listed.getD j false = true → Φ j (a.tmps.getD (d j) undef) w
def unl (listed : Array Bool) : Nat := (listed.toList.filter fun b => !b).length
theorem unl_set {listed : Array Bool} {i : Nat} (h : listed[i]? = some false) : unl (listed.setIfInBounds i true) + 1 = unl listed := by
  obtain ⟨l⟩ := listed
  simp only [unl, List.setIfInBounds_toArray, List.getElem?_toArray] at *
  induction l generalizing i with
  | nil => simp at h
  | cons b r ih =>
    cases i with
    | zero =>
      simp only [List.getElem?_cons_zero, Option.some.injEq] at h
      subst h
      simp [List.filter_cons]
    | succ i =>
      simp only [List.getElem?_cons_succ] at h
      have := ih h
      rw [List.set_cons_succ, List.filter_cons, List.filter_cons]
      cases b
      · simp only [Bool.not_false, if_true, List.length_cons]; omega
      · simp only [Bool.not_true, Bool.false_eq_true, if_false]; omega
theorem lin_any {n : Nat} {d : Nat → Nat} {Φ : Nat → Value → World → Prop} {W0 : World} {a0 : Act} {deps : Nat → List Nat} (hn : ops.size = n + 1) (hst : ∀ i v X Y, Φ i v X → Ext X Y → Φ i v Y)
    (hd : ∀ i j, i < n → j < n → d i = d j → i = j) (hlt : ∀ i, i < n → d i < a0.tmps.size)
    (hdep : ∀ i, i < n → ∀ j, j ∈ deps i → j < n ∧ ∃ o, ops[i]? = some o ∧ ∃ e, e ∈ o.after ∧ Region.binds .any e = true ∧ e.on = j)
    (htop : ∀ (i : Nat) (o : Oper), ops[i]? = some o → ∀ e, e ∈ o.after → e.on < i)
    (hlast : ∀ j, j < n → ∃ o, ops[n]? = some o ∧ ∃ e, e ∈ o.after ∧ Region.binds .any e = true ∧ e.on = j)
    (step : ∀ i, i < n → ∀ a w, Ext W0 w → a.tmps.size = a0.tmps.size → a.defers = a0.defers → (∀ t, (∀ i, i < n → d i ≠ t) → a.tmps[t]? = a0.tmps[t]?) → (∀ j, j ∈ deps i → Φ j (a.tmps.getD (d j) undef) w) →
      wpOp P ops Q i (fun a' w' => ∃ u, a' = a.put (some (d i)) u ∧ Φ i u w' ∧ Ext w w') a w)
    (last : ∀ a w, Ext W0 w → a.tmps.size = a0.tmps.size → a.defers = a0.defers → (∀ t, (∀ i, i < n → d i ≠ t) → a.tmps[t]? = a0.tmps[t]?) → (∀ j, j < n → Φ j (a.tmps.getD (d j) undef) w) → wpOp P ops Q n (fun a' w' => Q .normal a' w') a w) :
    ∀ (fuel : Nat) (listed : Array Bool) (a : Act) (w : World), listed.size = n + 1 → listed[n]? = some false → unl listed ≤ fuel → LinSt n d Φ W0 a0 listed a w → wpAny P .any ops Q fuel listed a w
  | 0, listed, a, w, hs, hf, hu, h => by
    have := unl_set hf
    omega
  | fuel + 1, listed, a, w, hs, hf, hu, h => by
    have hbool : ∀ j, j < n + 1 → listed.getD j true = listed.getD j false := fun j hj => by
      rw [Array.getD_eq_getD_getElem?, Array.getD_eq_getD_getElem?, Array.getElem?_eq_getElem (by omega)]; rfl
    refine ⟨fun hr => ?_, fun i hi => ?_⟩
    · exfalso
      -- the least that has not come up may come up
      have key : ∀ m, m ≤ n → (∀ j, j < m → listed.getD j false = true) ∨ ∃ i, i ∈ Region.ready .any ops listed := by
        intro m
        induction m with
        | zero => exact fun _ => .inl (fun j hj => absurd hj (Nat.not_lt_zero _))
        | succ m ih =>
          intro hm
          rcases ih (by omega) with h1 | h1
          · by_cases hb : listed.getD m false = true
            · exact .inl (fun j hj => by
                by_cases hjm : j < m
                · exact h1 j hjm
                · obtain rfl : j = m := by omega
                  exact hb)
            · refine .inr ⟨m, mem_ready.2 ⟨by rw [hbool m (by omega)]; simpa using hb, ops[m]'(by omega), Array.getElem?_eq_getElem (by omega), fun e he _ => h1 _ (htop m _ (Array.getElem?_eq_getElem (by omega)) e he)⟩⟩
          · exact .inr h1
      rcases key n (Nat.le_refl _) with h1 | ⟨i, h1⟩
      · have : n ∈ Region.ready .any ops listed := mem_ready.2 ⟨by rw [Array.getD_eq_getD_getElem?, hf]; rfl, ops[n]'(by omega), Array.getElem?_eq_getElem (by omega), fun e he _ => h1 _ (htop n _ (Array.getElem?_eq_getElem (by omega)) e he)⟩
        rw [hr] at this
        cases this
      · rw [hr] at h1
        cases h1
    · obtain ⟨h0, o, ho, hall⟩ := mem_ready.1 hi
      have hil : i < n + 1 := by have := (Array.getElem?_eq_some_iff.1 ho).1; omega
      have hfi : listed[i]? = some false := by
        rw [Array.getElem?_eq_getElem (by omega)]
        rw [Array.getD_eq_getD_getElem?, Array.getElem?_eq_getElem (by omega)] at h0
        simpa using h0
      by_cases hin : i = n
      · subst hin
        have hjs : ∀ j, j < i → listed.getD j false = true := fun j hj => by
          obtain ⟨o', ho', e, he, hb, rfl⟩ := hlast j hj
          rw [ho] at ho'
          simp only [Option.some.injEq] at ho'
          subst ho'
          exact hall e he hb
        refine wpOp_mono (fun a' w' h' => any_done (fun j hj => ?_) h' fuel) (last a w h.ext h.size h.defers h.rest (fun j hj => h.vals j hj (hjs j hj)))
        rw [Array.getD_eq_getD_getElem?, Array.getElem?_setIfInBounds]
        by_cases hji : i = j
        · rw [if_pos hji, if_pos (by omega)]; rfl
        · rw [if_neg hji]
          have := hjs j (by omega)
          rw [Array.getD_eq_getD_getElem?, Array.getElem?_eq_getElem (by omega)] at this
          rw [Array.getElem?_eq_getElem (by omega)]
          simpa using this
      · have hin' : i < n := by omega
        refine wpOp_mono (fun a' w' h' => ?_) (step i hin' a w h.ext h.size h.defers h.rest (fun j hj => ?_))
        · obtain ⟨u, rfl, hΦ, hE⟩ := h'
          refine lin_any hn hst hd hlt hdep htop hlast step last fuel _ _ _ (by simpa using hs) ?_ ?_ ⟨h.ext.trans hE, ?_, h.defers, fun t ht => ?_, fun j hj hl => ?_⟩
          · rw [Array.getElem?_setIfInBounds, if_neg hin]; exact hf
          · have := unl_set hfi; omega
          · simp [Act.put, h.size]
          · simp only [Act.put]
            rw [Array.getElem?_setIfInBounds, if_neg (ht i hin')]
            exact h.rest t ht
          · simp only [Act.put]
            rw [Array.getD_eq_getD_getElem?, Array.getElem?_setIfInBounds]
            by_cases hij : i = j
            · subst hij
              rw [if_pos rfl, if_pos (by rw [h.size]; exact hlt i hin')]
              exact hΦ
            · rw [if_neg (fun e => hij (hd i j hin' hj e)), ← Array.getD_eq_getD_getElem?]
              refine hst j _ _ _ (h.vals j hj ?_) hE
              rw [Array.getD_eq_getD_getElem?, Array.getElem?_setIfInBounds, if_neg hij] at hl
              rw [Array.getD_eq_getD_getElem?]; exact hl
        · obtain ⟨hjn, o', ho', e, he, hb, rfl⟩ := hdep i hin' j hj
          rw [ho] at ho'
          simp only [Option.some.injEq] at ho'
          subst ho'
          exact h.vals _ hjn (hall e he hb)
theorem region_lin {id n : Nat} {d : Nat → Nat} {Φ : Nat → Value → World → Prop} {W0 : World} {a0 : Act} {deps : Nat → List Nat} (hm : P.follows .mixedOrders = true) (hn : ops.size = n + 1) (hst : ∀ i v X Y, Φ i v X → Ext X Y → Φ i v Y)
    (hd : ∀ i j, i < n → j < n → d i = d j → i = j) (hlt : ∀ i, i < n → d i < a0.tmps.size)
    (hdep : ∀ i, i < n → ∀ j, j ∈ deps i → j < n ∧ ∃ o, ops[i]? = some o ∧ ∃ e, e ∈ o.after ∧ Region.binds .any e = true ∧ e.on = j)
    (htop : ∀ (i : Nat) (o : Oper), ops[i]? = some o → ∀ e, e ∈ o.after → e.on < i)
    (hlast : ∀ j, j < n → ∃ o, ops[n]? = some o ∧ ∃ e, e ∈ o.after ∧ Region.binds .any e = true ∧ e.on = j)
    (step : ∀ i, i < n → ∀ a w, Ext W0 w → a.tmps.size = a0.tmps.size → a.defers = a0.defers → (∀ t, (∀ i, i < n → d i ≠ t) → a.tmps[t]? = a0.tmps[t]?) → (∀ j, j ∈ deps i → Φ j (a.tmps.getD (d j) undef) w) →
      wpOp P ops Q i (fun a' w' => ∃ u, a' = a.put (some (d i)) u ∧ Φ i u w' ∧ Ext w w') a w)
    (last : ∀ a w, Ext W0 w → a.tmps.size = a0.tmps.size → a.defers = a0.defers → (∀ t, (∀ i, i < n → d i ≠ t) → a.tmps[t]? = a0.tmps[t]?) → (∀ j, j < n → Φ j (a.tmps.getD (d j) undef) w) → wpOp P ops Q n (fun a' w' => Q .normal a' w') a w) :
    (Code.region id ops true).wp P Q a0 W0 := by
  refine wp_region_any hm (lin_any (a0 := a0) (W0 := W0) hn hst hd hlt hdep htop hlast step last ops.size _ _ _ (by simp [hn]) ?_ ?_ ⟨(Chg.refl _ _).drew, rfl, rfl, fun _ _ => rfl, fun j hj hl => ?_⟩)
  · simp [hn]
  · have : ∀ m, unl (Array.replicate m false) = m := fun m => by simp [unl]
    rw [this]; exact Nat.le_refl _
  · rw [Array.getD_eq_getD_getElem?, Array.getElem?_replicate] at hl
    split at hl <;> simp at hl
def depB (ops : Array Oper) (i j : Nat) : Bool := match ops[i]? with | some o => o.after.any fun e => Region.binds .any e && e.on == j | none => false
theorem depB_spec {i j : Nat} (h : depB ops i j = true) : ∃ o, ops[i]? = some o ∧ ∃ e, e ∈ o.after ∧ Region.binds .any e = true ∧ e.on = j := by
  unfold depB at h
  split at h
  · rename_i o ho
    obtain ⟨k, hk, he⟩ := Array.any_eq_true.1 h
    rw [Bool.and_eq_true, beq_iff_eq] at he
    exact ⟨o, ho, _, Array.getElem_mem hk, he⟩
  · cases h
def topB (ops : Array Oper) : Bool := (List.range ops.size).all fun i => match ops[i]? with | some o => o.after.all fun e => decide (e.on < i) | none => true
theorem topB_spec (h : topB ops = true) (i : Nat) (o : Oper) (ho : ops[i]? = some o) : ∀ e, e ∈ o.after → e.on < i := by
  intro e he
  have := List.all_eq_true.1 h i (List.mem_range.2 (Array.getElem?_eq_some_iff.1 ho).1)
  rw [ho] at this
  simp only at this
  obtain ⟨k, hk, rfl⟩ := Array.getElem_of_mem he
  exact of_decide_eq_true (Array.all_eq_true.1 this k hk)
def depsB (ops : Array Oper) (n : Nat) (deps : List (List Nat)) : Bool := (List.range n).all fun i => (deps.getD i []).all fun j => decide (j < n) && depB ops i j
def lastB (ops : Array Oper) (n : Nat) : Bool := (List.range n).all fun j => depB ops n j
/-- The same, its side conditions as Bools; slot i + m is operation i's. -/
theorem region_lin' {id n m : Nat} {Φ : Nat → Value → World → Prop} {W0 : World} {a0 : Act} (deps : List (List Nat)) (hm : P.follows .mixedOrders = true) (hn : ops.size = n + 1) (hlt : n + m ≤ a0.tmps.size) (hB : (depsB ops n deps && topB ops && lastB ops n) = true)
    (hst : ∀ i v X Y, Φ i v X → Ext X Y → Φ i v Y)
    (step : ∀ i, i < n → ∀ a w, Ext W0 w → a.tmps.size = a0.tmps.size → a.defers = a0.defers → (∀ t, t < m → a.tmps[t]? = a0.tmps[t]?) → (∀ j, j ∈ deps.getD i [] → Φ j (a.tmps.getD (j + m) undef) w) →
      wpOp P ops Q i (fun a' w' => ∃ u, a' = a.put (some (i + m)) u ∧ Φ i u w' ∧ Ext w w') a w)
    (last : ∀ a w, Ext W0 w → a.tmps.size = a0.tmps.size → a.defers = a0.defers → (∀ t, t < m → a.tmps[t]? = a0.tmps[t]?) → (∀ j, j < n → Φ j (a.tmps.getD (j + m) undef) w) → wpOp P ops Q n (fun a' w' => Q .normal a' w') a w) :
    (Code.region id ops true).wp P Q a0 W0 := by
  rw [Bool.and_eq_true, Bool.and_eq_true] at hB
  obtain ⟨⟨h1, h2⟩, h3⟩ := hB
  refine region_lin (d := fun i => i + m) (deps := fun i => deps.getD i []) hm hn hst (fun i j _ _ h => by omega) (fun i hi => by omega) (fun i hi j hj => ?_) (topB_spec h2) (fun j hj => depB_spec (List.all_eq_true.1 h3 j (List.mem_range.2 hj)))
    (fun i hi a w hE hs hdf hr hv => step i hi a w hE hs hdf (fun t ht => hr t (fun i _ h => by omega)) hv) (fun a w hE hs hdf hr hv => last a w hE hs hdf (fun t ht => hr t (fun i _ h => by omega)) hv)
  have := List.all_eq_true.1 (List.all_eq_true.1 h1 i (List.mem_range.2 hi)) j hj
  rw [Bool.and_eq_true, decide_eq_true_eq] at this
  exact ⟨this.1, depB_spec this.2⟩
end
end Go.Proofs.YtgkbhonjodcakaaGreat
namespace Go.Proofs.YtgkbhonjodcakaaGreat
open Go.RowKit
set_option linter.unusedVariables false
set_option linter.unusedSimpArgs false

theorem RdEx.ext {w w1 : World} {lo : Nat} {t : Bool} {x : Ex} {cs : List Value} (h : RdEx w lo t x cs) (he : Ext w w1) : RdEx w1 lo t x cs := h.far he (fun _ h => h.elim)
/-- An expression's value. -/
def ExA (w : World) (x : Ex) (v : Value) : Prop := ∃ a, v = .agg #[.int .u8 x.op, .int .i64 x.n, .string x.name, a] ∧ isU8 x.op ∧ isI64 x.n ∧ x.name.size ≤ maxLen ∧ RdExV w 0 false x.args a
theorem ExA.ext {w w1 : World} {x : Ex} {v : Value} (h : ExA w x v) (he : Ext w w1) : ExA w1 x v := by
  obtain ⟨a, rfl, h1, h2, h3, h4⟩ := h
  exact ⟨a, rfl, h1, h2, h3, h4.ext he⟩
theorem rd_row {W : World} {B : Nat} {cur : Array Value} {xs : List Ex} (hb : W.heap[B]? = some (.cells cur 41 (0, 0))) (hn : xs.length ≤ 1000)
    (h : ∀ i x, xs[i]? = some x → ∃ a, cur[i * 4]? = some (.int .u8 x.op) ∧ cur[i * 4 + 1]? = some (.int .i64 x.n) ∧ cur[i * 4 + 2]? = some (.string x.name) ∧ cur[i * 4 + 3]? = some a ∧ isU8 x.op ∧ isI64 x.n ∧ x.name.size ≤ maxLen ∧ RdExV W 0 false x.args a) :
    RdExV W 0 false xs (.slice (some ⟨B, 0, none⟩) xs.length xs.length) := by
  have hl := lt_of_block hb
  refine ⟨_, _, rfl, by unfold fitsR; omega, Nat.le_refl _, by unfold maxLen; omega, RdExs.mk (fun {i x} hx => ?_), fun h => by cases h⟩
  obtain ⟨a, c0, c1, c2, c3, k0, k1, k2, k3⟩ := h i x hx
  obtain ⟨op, n, nm, args⟩ := x
  refine ⟨B, 0, _, _, _, _, rfl, Nat.zero_le _, hl, ?_, ?_, ?_, ?_, RdEx.shut k0 k1 k2 k3⟩
  · rw [blk_cell hb, Nat.zero_add, Nat.zero_add]; exact c0
  · rw [blk_cell hb, Nat.zero_add, Nat.zero_add]; exact c1
  · rw [blk_cell hb, Nat.zero_add, Nat.zero_add]; exact c2
  · rw [blk_cell hb, Nat.zero_add, Nat.zero_add]; exact c3
theorem rd_none (W : World) : RdExV W 0 false [] (.slice none 0 0) := by
  refine ⟨none, 0, rfl, by simp [fitsR], Nat.le_refl _, Nat.zero_le _, ?_, fun h => by cases h⟩
  unfold RdExs
  trivial
theorem exa_leaf (W : World) (op n : Int) (s : ByteArray) (h1 : isU8 op) (h2 : isI64 n) (h3 : s.size ≤ maxLen) : ExA W (.mk op n s []) (.agg #[.int .u8 op, .int .i64 n, .string s, .slice none 0 0]) := ⟨_, rfl, h1, h2, h3, rd_none W⟩
theorem exa_mk {W : World} {op n : Int} {s : ByteArray} {l : List Ex} {v : Value} (h1 : isU8 op) (h2 : isI64 n) (h3 : s.size ≤ maxLen) (h : RdExV W 0 false l v) : ExA W (.mk op n s l) (.agg #[.int .u8 op, .int .i64 n, .string s, v]) := ⟨_, rfl, h1, h2, h3, h⟩
/-- One part in a block of its own. -/
theorem row1 {W : World} {B : Nat} {x : Ex} {a0 a1 a2 a3 : Value} (hb : W.heap[B]? = some (.cells #[a0, a1, a2, a3] 41 (0, 0))) (h : ExA W x (.agg #[a0, a1, a2, a3])) : RdExV W 0 false [x] (.slice (some ⟨B, 0, none⟩) 1 1) := by
  obtain ⟨a, e, h1, h2, h3, h4⟩ := h
  simp only [Value.agg.injEq, Array.mk.injEq, List.cons.injEq, and_true] at e
  obtain ⟨rfl, rfl, rfl, rfl⟩ := e
  refine rd_row (xs := [x]) hb (by simp) (fun i y hy => ?_)
  match i, hy with
  | 0, hy =>
    simp only [List.getElem?_cons_zero, Option.some.injEq] at hy
    subst hy
    exact ⟨a3, rfl, rfl, rfl, rfl, h1, h2, h3, h4⟩
  | n + 1, hy => simp at hy
/-- Two parts. -/
theorem row2 {W : World} {B : Nat} {x y : Ex} {a0 a1 a2 a3 b0 b1 b2 b3 : Value} (hb : W.heap[B]? = some (.cells #[a0, a1, a2, a3, b0, b1, b2, b3] 41 (0, 0))) (h : ExA W x (.agg #[a0, a1, a2, a3])) (k : ExA W y (.agg #[b0, b1, b2, b3])) :
    RdExV W 0 false [x, y] (.slice (some ⟨B, 0, none⟩) 2 2) := by
  obtain ⟨a, e, h1, h2, h3, h4⟩ := h
  simp only [Value.agg.injEq, Array.mk.injEq, List.cons.injEq, and_true] at e
  obtain ⟨rfl, rfl, rfl, rfl⟩ := e
  obtain ⟨b, e, k1, k2, k3, k4⟩ := k
  simp only [Value.agg.injEq, Array.mk.injEq, List.cons.injEq, and_true] at e
  obtain ⟨rfl, rfl, rfl, rfl⟩ := e
  refine rd_row (xs := [x, y]) hb (by simp) (fun i z hz => ?_)
  match i, hz with
  | 0, hz =>
    simp only [List.getElem?_cons_zero, Option.some.injEq] at hz
    subst hz
    exact ⟨a3, rfl, rfl, rfl, rfl, h1, h2, h3, h4⟩
  | 1, hz =>
    simp only [List.getElem?_cons_zero, List.getElem?_cons_succ, Option.some.injEq] at hz
    subst hz
    exact ⟨b3, rfl, rfl, rfl, rfl, k1, k2, k3, k4⟩
  | n + 2, hz => simp at hz
end Go.Proofs.YtgkbhonjodcakaaGreat
