/- CodeFits answers true. -/
import Derived.Test.YtgkbhonjodcakaaGreatJ17
import Derived.Test.YtgkbhonjodcakaaGreatJG
import Derived.Deep.Cut
import Derived.Deep.RegionHeld3
namespace Go.Proofs.YtgkbhonjodcakaaGreat
open Go.RowKit
set_option linter.unusedVariables false
set_option linter.unusedSimpArgs false

theorem step_ops {ps : List PlD} {x : IsD} {pile q : List Int} (h : stepJ ps x pile = some q) : 1 ≤ x.op ∧ x.op ≤ 18 := by
  unfold stepJ at h
  by_cases h0 : stepI ps x pile = 0
  · rw [if_pos h0] at h; cases h
  · unfold stepI at h0
    by_cases hm : manyP x.op = 0
    · rw [if_pos hm] at h0
      unfold pushP at h0
      by_cases h1 : x.op = 1
      · omega
      · rw [if_neg h1] at h0
        by_cases h2 : x.op = 2
        · omega
        · rw [if_neg h2] at h0
          by_cases h3 : x.op = 3
          · omega
          · rw [if_neg h3] at h0; exact absurd rfl h0
    · have := manyP_pos.1 hm
      omega
theorem run_ops {ps : List PlD} : ∀ {l : List IsD} {pile q : List Int}, runP ps l pile = some q → ∀ x, x ∈ l → 1 ≤ x.op ∧ x.op ≤ 18
  | [], _, _, _, x, hx => by cases hx
  | y :: r, pile, q, h, x, hx => by
    rw [run_cons] at h
    cases hs : stepJ ps y pile with
    | none => rw [hs] at h; cases h
    | some z =>
      rw [hs] at h
      rcases List.mem_cons.1 hx with rfl | hx
      · exact step_ops hs
      · exact run_ops (pile := z) h x hx
set_option maxRecDepth 100000 in
set_option maxHeartbeats 8000000 in
theorem codeFits_any (p : PrD) (cs : Array Value) (w : World) (h : RdPr w 0 false p cs) : Calls Tryz.prog 3 #[.agg cs] w (RetT w) := by
  have HP := Lib.hid h
  obtain ⟨ai, ci, af, cf, ao, co, rfl⟩ := pr_form h
  have HFl := Lib.hid (pr_fl h)
  clear h
  have HLV := Lib.hid lives17_any
  have e0 := (Chg.refl (fun _ => False) w).alloc (.cells #[.int .i64 p.st, .slice ai p.ins.length ci, .slice af p.flows.length cf, .slice ao p.outs.length co] 26)
  have b0 := heap_alloc_new w (.cells #[.int .i64 p.st, .slice ai p.ins.length ci, .slice af p.flows.length cf, .slice ao p.outs.length co] 26)
  go_enter Tryz.func3, Tryz.ntmps3
  go_wp2_with fail
  generalize (w.alloc (.cells #[.int .i64 p.st, .slice ai p.ins.length ci, .slice af p.flows.length cf, .slice ao p.outs.length co] 26)) = W0 at *
  refine (great14_any p _ _ (HP.out.ext e0)).mono ?_
  rintro e w1 ⟨gb, rfl, E1⟩
  have F1 := e0.trans E1
  have b1 := Ext.heap E1 b0
  clear b0 E1 e0
  have y0 : ∀ X, Ext w1 X → X.cell? ⟨w.heap.size, 0, none⟩ = some (.int .i64 p.st) := fun X hX => (blk_cell (Ext.heap hX b1) 0).trans rfl
  have y1 : ∀ X, Ext w1 X → X.cell? ⟨w.heap.size, 1, none⟩ = some (.slice ai p.ins.length ci) := fun X hX => (blk_cell (Ext.heap hX b1) 1).trans rfl
  have y2 : ∀ X, Ext w1 X → X.cell? ⟨w.heap.size, 2, none⟩ = some (.slice af p.flows.length cf) := fun X hX => (blk_cell (Ext.heap hX b1) 2).trans rfl
  have y3 : ∀ X, Ext w1 X → X.cell? ⟨w.heap.size, 3, none⟩ = some (.slice ao p.outs.length co) := fun X hX => (blk_cell (Ext.heap hX b1) 3).trans rfl
  have er : Ext w1 w1 := Chg.refl _ _
  clear b1
  cases gb
  case true =>
    go_wp2_with fail
    refine (HLV.out _).mono ?_
    rintro e w3 ⟨rfl, E3⟩
    go_wp2_with fail
    go_ret
    exact ⟨rfl, F1.trans E3⟩
  have HOF := Lib.hid (lateOf_any p _ w1 (HP.out.ext F1))
  go_wp2_with fail
  refine HOF.out.mono ?_
  rintro e w2 ⟨l, v, n, hla, rfl, hv, E2⟩
  have F2 := F1.trans E2
  clear HOF
  by_cases hn : n = 0
  case neg =>
    have bn : (n != 0) = true := by simp [hn]
    obtain rfl : v = .slice none 0 0 := by
      rcases hv with ⟨h, _⟩ | ⟨_, h⟩
      · exact absurd h hn
      · exact h
    clear hla hv hn
    go_wp2_with fail
    refine (HLV.out _).mono ?_
    rintro e w3 ⟨rfl, E3⟩
    go_wp2_with fail
    go_ret
    exact ⟨rfl, F2.trans E3⟩
  subst hn
  obtain ⟨g, rfl, hg, hgb⟩ : LsV w2 w1.heap.size l v := by
    rcases hv with ⟨_, h⟩ | ⟨h, _⟩
    · exact h
    · exact absurd rfl h
  obtain ⟨hn0, hls⟩ := lateA_yes hla
  have HLS := Lib.hid hls
  have HPR := Lib.hid (names_prog hn0)
  have hlen := hls.1.1
  have HLEN := Lib.hid hlen
  have hfl128 := (prog_ok HPR.out).2.1
  have hl128 : l.length ≤ 128 := by omega
  have HGB := Lib.hid hgb
  have HRL := Lib.hid (fun (X : World) (hX : Ext w2 X) => ints_rd (Ext.heap hX HGB.out) HLS.out.1.2.1 (by omega))
  have HCK := Lib.hid (lateChk_iff.2 ⟨hn0, hls.1⟩)
  have er2 : Ext w2 w2 := Chg.refl _ _
  replace y0 := fun X (hX : Ext w2 X) => y0 X (E2.trans hX)
  replace y1 := fun X (hX : Ext w2 X) => y1 X (E2.trans hX)
  replace y2 := fun X (hX : Ext w2 X) => y2 X (E2.trans hX)
  replace y3 := fun X (hX : Ext w2 X) => y3 X (E2.trans hX)
  clear hv hla hls hn0 hgb hlen hg er E2
  have HT := Lib.hid (tyCheck_any p _ w2 (HP.out.ext F2))
  unfold RetE at HT
  generalize hty : typesP p = ty at *
  go_wp2_with fail
  refine HT.out.mono ?_
  rintro e w3 ⟨rfl, E3⟩
  clear HT
  by_cases ht : ty = 0
  case neg =>
    have bn : (ty != 0) = true := by simp [ht]
    clear hty ht
    go_wp2_with fail
    refine (HLV.out _).mono ?_
    rintro e w4 ⟨rfl, E4⟩
    go_wp2_with fail
    go_ret
    exact ⟨rfl, F2.trans (E3.trans E4)⟩
  subst ht
  have HTY := Lib.hid hty
  clear hty
  go_wp2_with fail
  go_loopw [5] (fun i wr => ∃ k : Nat, k ≤ p.flows.length ∧ i = .int .i64 k ∧ Ext w2 wr) (fun i _ => p.flows.length - (intOf i).toNat)
  case atStart => exact ⟨0, Nat.zero_le _, rfl, E3⟩
  case round =>
    clear E3
    obtain ⟨i, hi, rfl, rE⟩ := hrel
    by_cases hlt : i < p.flows.length
    case neg =>
      obtain rfl : i = p.flows.length := by omega
      go_wp2_with fail
      refine (HLV.out _).mono ?_
      rintro e w5 ⟨rfl, E5⟩
      go_wp2_with fail
      go_ret
      exact ⟨rfl, F2.trans (rE.trans E5)⟩
    have hii : (i : Int) < (p.flows.length : Int) := by omega
    have hi0 : (0 : Int) ≤ (i : Int) := by omega
    have hx := List.getElem?_eq_getElem hlt
    obtain ⟨hnm, _, hst, _, b, o, rfl, _, _, c0, c1, c2, c3, _⟩ := (HFl.out).at hx
    have HLAW := Lib.hid (fits_law HCK.out HTY.out hx)
    generalize p.flows[i] = x at *
    clear hx
    have rF := F2.trans rE
    have d1 : ∀ X, Ext wr X → X.cell? ⟨b, o + i * 8 + 1, none⟩ = some (.int .u8 x.ty) := fun X hX => Ext.cell (rF.trans hX) c1
    have d2 : ∀ X, Ext wr X → X.cell? ⟨b, o + i * 8 + 2, none⟩ = some (.int .i64 x.st) := fun X hX => Ext.cell (rF.trans hX) c2
    have z0 := fun X (hX : Ext wr X) => y0 X (rE.trans hX)
    have z1 := fun X (hX : Ext wr X) => y1 X (rE.trans hX)
    have z2 := fun X (hX : Ext wr X) => y2 X (rE.trans hX)
    have z3 := fun X (hX : Ext wr X) => y3 X (rE.trans hX)
    have erw : Ext wr wr := Chg.refl _ _
    clear c0 c1 c2 c3 hnm
    obtain ⟨q1, q2, q3⟩ := HLAW.out
    have HQ3 := Lib.hid q3
    have HPLN : Hid ((placesP p l x.st).length ≤ 1000000) := by
      show _ ≤ _
      unfold placesP
      have := all_len HPR.out x.st
      split <;> simp <;> omega
    have H1 := Lib.hid (fun (X : World) (hX : Ext wr X) => places_any p _ l _ x.st X (HP.out.ext (rF.trans hX)) (HRL.out _ (rE.trans hX)) hst)
    unfold RetPl at H1
    simp only [q1] at H1
    have H2 := Lib.hid (fun (X : World) (hX : Ext wr X) (pv : Value) (hp : RdPlS X (placesP p l x.st) pv) => codeOf_any p _ l _ (i : Int) (placesP p l x.st) pv X (HP.out.ext (rF.trans hX)) (HRL.out _ (rE.trans hX)) hp)
    unfold RetCd at H2
    simp only [q2] at H2
    generalize codeP p l (i : Int) (placesP p l x.st) = C at *
    generalize placesP p l x.st = ps at *
    clear q1 q2 q3 HLAW
    have d0 : Ext wr wr.drew := (Chg.refl _ _).drew
    go_upto_region 9 with (fail)
    go_region_held3 (fun X => Ext wr X) (first | (with_reducible assumption))
      (first | (go_at_call 11; refine (H1.out _ (by with_reducible assumption)).mono ?_; rintro e w5 ⟨u5, rfl, hu5, E5'⟩; have E5 := d0.trans E5'; obtain ⟨a5, c5, rfl, _⟩ := hu5.form))
    have HR5 := Lib.hid (hu5.rdS HPLN.out)
    clear H1 hu5
    go_wp2_with fail
    refine (H2.out _ E5 _ HR5.out).mono ?_
    rintro e w6 ⟨u6, rfl, hu6, E6'⟩
    obtain ⟨a6, c6, rfl, _⟩ := hu6.form
    have E6 := E5.trans E6'
    have hr6 := hu6.rdS (by have := (chk_true HQ3.out).2.1; omega) (fun y hy => by have := run_ops (chk_true HQ3.out).2.2 y hy; unfold isU8; omega)
    have h3 := codeChk_any ps C _ _ w6 (HR5.out.ext E6') hr6
    unfold RetCk at h3
    rw [HQ3.out] at h3
    have H3 := Lib.hid h3
    clear hu6 hr6 h3 H2
    go_wp2_with fail
    refine H3.out.mono ?_
    rintro e w7 ⟨rfl, E7'⟩
    have E7 := E6.trans E7'
    have R7 := rE.trans E7
    clear H3
    have d1' := d1 _ E7
    have z2' := z2 _ E7
    have bty : (x.ty != x.ty) = false := by simp
    clear d1 d2 z0 z1 z2 z3 y0 y1 y2 y3 E6 E6' E5 E5' E7' d0 erw
    go_wp2_with fail
    go_roundw
    case rel => exact ⟨i + 1, by omega, by go_num, R7⟩
    case measure => simp [intOf]; omega
end Go.Proofs.YtgkbhonjodcakaaGreat
