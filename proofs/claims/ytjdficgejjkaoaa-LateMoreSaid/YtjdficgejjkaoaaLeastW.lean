/- LateLeast answers true. -/
import Derived.Test.YtjdficgejjkaoaaTellsW
import Derived.Test.YtjdficgejjkaoaaBytes
import Derived.Deep.Cut
namespace Go.Proofs.Ytjdficgejjkaoaa
open Go.RowKit
set_option linter.unusedVariables false
set_option linter.unusedSimpArgs false

theorem lateA_no {p : PrD} {l : List Int} {n : Int} (h : LateA p l n) (hn : n ≠ 0) : l = [] ∧ ((namesP p = 0 ∧ n = 10) ∨ (namesP p ≠ 0 ∧ n = namesP p)) := by
  unfold LateA at h
  split at h
  · rename_i h0
    rcases h with ⟨h1, _⟩ | ⟨h1, h2, _⟩
    · exact absurd h1 hn
    · exact ⟨h2, .inl ⟨h0, h1⟩⟩
  · rename_i h0
    exact ⟨h.2, .inr ⟨h0, h.1⟩⟩
theorem lateA_yes {p : PrD} {l : List Int} (h : LateA p l 0) : namesP p = 0 ∧ Least p l := by
  unfold LateA at h
  split at h
  · rename_i h0
    rcases h with ⟨_, h⟩ | ⟨h1, _⟩
    · exact ⟨h0, h⟩
    · cases h1
  · rename_i h0
    exact absurd h.1.symm h0
/-- The numbers on the way: as they were, or up to two more. -/
def NearL (l o : List Int) (i : Nat) : Prop := o.length = l.length ∧ o.getD i 0 = l.getD i 0 ∧ ∀ j, l.getD j 0 ≤ o.getD j 0 ∧ o.getD j 0 ≤ l.getD j 0 + 2
theorem NearL.step {l o : List Int} {i k : Nat} (h : NearL l o i) (hk : k < l.length) (hki : k ≠ i) (hold : o.getD k 0 = l.getD k 0) {d : Int} (h0 : 0 ≤ d) (h2 : d ≤ 2) : NearL l (o.set k (o.getD k 0 + d)) i := by
  obtain ⟨h1, hi, hj⟩ := h
  refine ⟨by rw [List.length_set]; exact h1, by rw [getD_set, if_neg (fun h => hki h.1.symm)]; exact hi, fun j => ?_⟩
  rw [getD_set]
  split
  · rename_i h; obtain ⟨rfl, _⟩ := h; omega
  · exact hj j
/-- What lies ahead of k may have grown; from k on it is as it was. -/
def NearK (l o : List Int) (i k : Nat) : Prop := NearL l o i ∧ ∀ j, k ≤ j → o.getD j 0 = l.getD j 0
theorem NearK.start (l : List Int) (i : Nat) : NearK l l i 0 := ⟨⟨rfl, rfl, fun j => by omega⟩, fun _ _ => rfl⟩
theorem NearK.same {l o : List Int} {i k : Nat} (h : NearK l o i k) : NearK l o i (k + 1) := ⟨h.1, fun j hj => h.2 j (by omega)⟩
theorem NearK.more {l o : List Int} {i k : Nat} (h : NearK l o i k) (hk : k < l.length) (hki : k ≠ i) {d : Int} (h0 : 0 ≤ d) (h2 : d ≤ 2) : NearK l (o.set k (o.getD k 0 + d)) i (k + 1) :=
  ⟨h.1.step hk hki (h.2 k (Nat.le_refl _)) h0 h2, fun j hj => by rw [getD_set, if_neg (by omega)]; exact h.2 j (by omega)⟩
theorem near_rng {l o : List Int} {i : Nat} (h : NearL l o i) (hr : ∀ n, n ∈ l → 0 ≤ n ∧ n ≤ 1000) : ∀ n, n ∈ o → 0 ≤ n ∧ n ≤ 1002 := by
  intro n hn
  obtain ⟨j, hj⟩ := List.getElem?_of_mem hn
  have h1 := h.2.2 j
  have h2 := getD_rng hr j
  have e : o.getD j 0 = n := by rw [List.getD_eq_getElem?_getD, hj]; rfl
  omega
set_option maxRecDepth 100000 in
set_option maxHeartbeats 8000000 in
theorem lateLeast_any (p : PrD) (cs : Array Value) (mo : List Int) (mv : Value) (w : World) (h : RdPr w 0 false p cs) (hm : RdU8V w mo mv) : Calls Try.prog 4 #[.agg cs, mv] w (RetT w) := by
  have HP := Lib.hid h
  have HM := Lib.hid hm
  obtain ⟨ai, ci, af, cf, ao, co, rfl⟩ := pr_form h
  obtain ⟨ma, mc, rfl, hmf⟩ := hm.form
  unfold fitsR at hmf
  have HFl := Lib.hid (pr_fl h)
  clear h hm
  have HLV := Lib.hid lives_any
  have e0 := (Chg.refl (fun _ => False) w).alloc (.cells #[.int .i64 p.st, .slice ai p.ins.length ci, .slice af p.flows.length cf, .slice ao p.outs.length co] 26)
  have b0 := heap_alloc_new w (.cells #[.int .i64 p.st, .slice ai p.ins.length ci, .slice af p.flows.length cf, .slice ao p.outs.length co] 26)
  go_enter Try.func4, Try.ntmps4
  go_wp2_with fail
  generalize (w.alloc (.cells #[.int .i64 p.st, .slice ai p.ins.length ci, .slice af p.flows.length cf, .slice ao p.outs.length co] 26)) = W0 at *
  refine (great14_any p _ _ (HP.out.ext e0)).mono ?_
  rintro e w1 ⟨gb, rfl, E1⟩
  have F1 := e0.trans E1
  have b1 := Ext.heap E1 b0
  clear b0 E1 e0
  have y0 : ∀ X, Ext w1 X → X.cell? ⟨w.heap.size, 0, none⟩ = some (.int .i64 p.st) := fun X hX => (blk_cell (Ext.heap hX b1) 0).trans rfl
  have y1 : ∀ X, Ext w1 X → X.cell? ⟨w.heap.size, 1, none⟩ = some (.slice ai p.ins.length ci) := fun X hX => (blk_cell (Ext.heap hX b1) 1).trans rfl
  have y2 : ∀ X, Ext w1 X → X.cell? ⟨w.heap.size, 2, none⟩ = some (.slice af p.flows.length cf) := fun X hX => (blk_cell (Ext.heap hX b1) 2).trans rfl
  have y3 : ∀ X, Ext w1 X → X.cell? ⟨w.heap.size, 3, none⟩ = some (.slice ao p.outs.length co) := fun X hX => (blk_cell (Ext.heap hX b1) 3).trans rfl
  have er : Ext w1 w1 := Chg.refl _ _
  clear b1
  cases gb
  case true =>
    go_wp2_with fail
    refine (HLV.out _).mono ?_
    rintro e w3 ⟨rfl, E3⟩
    go_wp2_with fail
    go_ret
    exact ⟨rfl, F1.trans E3⟩
  have HOF := Lib.hid (lateOf_any p _ w1 (HP.out.ext F1))
  go_wp2_with fail
  refine HOF.out.mono ?_
  rintro e w2 ⟨l, v, n, hla, rfl, hv, E2⟩
  have F2 := F1.trans E2
  clear HOF
  by_cases hn : n = 0
  case neg =>
    have bn : (n != 0) = true := by simp [hn]
    obtain rfl : v = .slice none 0 0 := by
      rcases hv with ⟨h, _⟩ | ⟨_, h⟩
      · exact absurd h hn
      · exact h
    obtain ⟨_, hc⟩ := lateA_no hla hn
    have HC := Lib.hid (fun (X : World) (hX : Ext w1 X) => nCheck_any p _ X (HP.out.ext (F1.trans hX)))
    unfold RetE at HC
    clear hla hv hn
    rcases hc with ⟨hc1, rfl⟩ | ⟨hc1, hc2⟩
    · rw [hc1] at HC
      have b3 : ((10 : Int) == 0) = false := by decide
      go_wp2_with fail
      refine (HC.out _ E2).mono ?_
      rintro e w3 ⟨rfl, E3'⟩
      have E3 := E2.trans E3'
      go_wp2_with fail
      refine (HC.out _ E3).mono ?_
      rintro e w4 ⟨rfl, E4'⟩
      have E4 := E3.trans E4'
      go_wp2_with fail
      refine (HLV.out _).mono ?_
      rintro e w5 ⟨rfl, E5⟩
      go_wp2_with fail
      go_ret
      exact ⟨rfl, F1.trans (E4.trans E5)⟩
    · rw [← hc2] at HC
      have b3 : (n == n) = true := by simp
      clear hc1 hc2
      go_wp2_with fail
      refine (HC.out _ E2).mono ?_
      rintro e w3 ⟨rfl, E3'⟩
      have E3 := E2.trans E3'
      go_wp2_with fail
      refine (HLV.out _).mono ?_
      rintro e w5 ⟨rfl, E5⟩
      go_wp2_with fail
      go_ret
      exact ⟨rfl, F1.trans (E3.trans E5)⟩
  subst hn
  obtain ⟨g, rfl, hg, hgb⟩ : LsV w2 w1.heap.size l v := by
    rcases hv with ⟨_, h⟩ | ⟨h, _⟩
    · exact h
    · exact absurd rfl h
  obtain ⟨hn0, hls⟩ := lateA_yes hla
  have HLS := Lib.hid hls
  have HN0 := Lib.hid hn0
  have HPR := Lib.hid (names_prog hn0)
  have hlen := hls.1.1
  have HLEN := Lib.hid hlen
  have hfl128 := (prog_ok HPR.out).2.1
  have hl128 : l.length ≤ 128 := by omega
  have hlI : (l.length : Int) = (p.flows.length : Int) := by omega
  have HGB := Lib.hid hgb
  have HRL := Lib.hid (fun (X : World) (hX : Ext w2 X) => ints_rd (Ext.heap hX HGB.out) HLS.out.1.2.1 (by omega))
  have HCH := Lib.hid (fun (o : List Int) (vo : Value) (X : World) (hX : Ext w2 X) (ho : RdIntV X 0 false o vo) => lateChk_any p _ o vo X (HP.out.ext (F2.trans hX)) ho)
  have hck : lateChk p l = true := lateChk_iff.2 ⟨hn0, hls.1⟩
  have HCK := Lib.hid hck
  have er2 : Ext w2 w2 := Chg.refl _ _
  replace y0 := fun X (hX : Ext w2 X) => y0 X (E2.trans hX)
  replace y1 := fun X (hX : Ext w2 X) => y1 X (E2.trans hX)
  replace y2 := fun X (hX : Ext w2 X) => y2 X (E2.trans hX)
  replace y3 := fun X (hX : Ext w2 X) => y3 X (E2.trans hX)
  clear hv hla hls hn0 hgb hlen hck hg
  have h1 := HCH.out l _ w2 er2 (HRL.out _ er2)
  rw [HCK.out] at h1
  have bl : ((l.length : Int) != (p.flows.length : Int)) = false := by simp [hlI]
  clear hlI
  go_wp2_with fail
  refine h1.mono ?_
  rintro e w3 ⟨rfl, E3⟩
  clear h1
  go_wp2_with fail
  obtain ⟨i0, hinf, hz0, hz1, hz2⟩ := info_parts infoInt
  go_loopw [7] (fun i wr => ∃ k : Nat, k ≤ l.length ∧ i = .int .i64 k ∧ Ext w2 wr) (fun i _ => l.length - (intOf i).toNat)
  case atStart => exact ⟨0, Nat.zero_le _, rfl, E3⟩
  case round =>
    clear E3
    obtain ⟨i, hi, rfl, rE⟩ := hrel
    by_cases hlt : i < l.length
    case neg =>
      obtain rfl : i = l.length := by omega
      go_wp2_with fail
      refine (HLV.out _).mono ?_
      rintro e w5 ⟨rfl, E5⟩
      go_wp2_with fail
      go_ret
      exact ⟨rfl, F2.trans (rE.trans E5)⟩
    have hil : i < p.flows.length := by have := HLEN.out; omega
    have hii : (i : Int) < (p.flows.length : Int) := by omega
    have hiL : (i : Int) < (l.length : Int) := by omega
    have hi0 : (0 : Int) ≤ (i : Int) := by omega
    have hx := List.getElem?_eq_getElem hil
    obtain ⟨hnm, _, _, _, b, o, rfl, _, _, c0, c1, c2, c3, _, _, hbn, vx, hvx, c4, c5, c6, c7⟩ := (HFl.out).at hx
    obtain ⟨_, _, _, hokf, _⟩ := prog_ok HPR.out
    obtain ⟨hwf, hnd⟩ := ok_wf' (hokf _ (List.getElem_mem hil))
    have HXF := Lib.hid hx
    have hxl := List.getElem?_eq_getElem hlt
    have HXL := Lib.hid hxl
    have hgd : l.getD i 0 = l[i] := by rw [List.getD_eq_getElem?_getD, hxl]; rfl
    have HGD := Lib.hid hgd
    have hur := HLS.out.1.2.1 _ (List.getElem_mem hlt)
    generalize p.flows[i] = x at *
    generalize l[i] = u at *
    clear hx hxl hgd hokf hwf
    have hle3 := gthE_le x.body [] 0
    have HR := Lib.hid (fun (X : World) (hX : Ext w X) => refs_any x.body vx X (hvx.ext hX) hbn (by omega))
    have HAG := Lib.hid (fun (r : Rf) (hr : r ∈ gthE [] 0 x.body) (X : World) (hX : Ext w2 X) => by
      have := age_any p _ l _ i r X (HP.out.ext (F2.trans hX)) (HRL.out X hX)
      rw [ageP_of HCK.out HXF.out hr] at this
      exact this)
    have HAGE := Lib.hid (fun (r : Rf) (hr : r ∈ gthE [] 0 x.body) => age_ge HCK.out HXF.out hr)
    obtain ⟨va, vc, rfl, _⟩ := hvx.form
    have rF := F2.trans rE
    have d4 := rF.cell c4
    have d5 := rF.cell c5
    have d6 := rF.cell c6
    have d7 := rF.cell c7
    clear c0 c1 c2 c3 c4 c5 c6 c7 hvx hnm
    generalize hgl : gthE [] 0 x.body = L at *
    clear hgl
    have hLl : L.length ≤ 100000 := by simp at hle3; omega
    go_wp2_with fail
    refine (HR.out _ rF).mono ?_
    rintro e w4 ⟨v3, rfl, V3, E4⟩
    obtain ⟨ar, cr, rfl⟩ := V3.form
    have R4 := rE.trans E4
    clear HR E4 d4 d5 d6 d7 rF
    go_wp2_with fail
    obtain ⟨wo, rfl⟩ : ∃ wo : World, wo = wr := ⟨_, rfl⟩
    go_loopw [9] (fun j wr => ∃ k : Nat, k ≤ L.length ∧ j = .int .i64 k ∧ Ext w4 wr) (fun j _ => L.length - (intOf j).toNat)
    case atStart => exact ⟨0, Nat.zero_le _, rfl, Chg.refl _ _⟩
    case round =>
      obtain ⟨j, hj, rfl, sE⟩ := hrel
      have S4 := R4.trans sE
      by_cases hlt2 : j < L.length
      · have hr := List.getElem?_eq_getElem hlt2
        obtain ⟨gr, rfl, c0, c1⟩ := V3.get hr
        have hji : (j : Int) < (L.length : Int) := by omega
        have hj0 : (0 : Int) ≤ (j : Int) := by omega
        have hrm := List.getElem_mem hlt2
        have hag := HAGE.out _ hrm
        have HAX := Lib.hid (fun (X : World) (hX : Ext w2 X) => HAG.out _ hrm X hX)
        unfold RetAge at HAX
        generalize L[j] = r at *
        generalize l.getD i 0 - leastA l (askOf p i x r) = m at *
        have G0 : Ext wr wr.drew := (Chg.refl _ _).drew
        have s0 : ∀ X, Ext wr X → X.cell? ⟨w.heap.size, 0, none⟩ = some (.int .i64 p.st) := fun X hX => y0 X (S4.trans hX)
        have s1 : ∀ X, Ext wr X → X.cell? ⟨w.heap.size, 1, none⟩ = some (.slice ai p.ins.length ci) := fun X hX => y1 X (S4.trans hX)
        have s2 : ∀ X, Ext wr X → X.cell? ⟨w.heap.size, 2, none⟩ = some (.slice (some ⟨b, o, none⟩) p.flows.length cf) := fun X hX => y2 X (S4.trans hX)
        have s3 : ∀ X, Ext wr X → X.cell? ⟨w.heap.size, 3, none⟩ = some (.slice ao p.outs.length co) := fun X hX => y3 X (S4.trans hX)
        have s4 : ∀ X, Ext wr X → X.cell? ⟨gr, j * 2, none⟩ = some (.string r.1) := fun X hX => Ext.cell (sE.trans hX) c0
        have s5 : ∀ X, Ext wr X → X.cell? ⟨gr, j * 2 + 1, none⟩ = some (.int .i64 r.2) := fun X hX => Ext.cell (sE.trans hX) c1
        have hneg : ¬ m < 0 := by omega
        simp only at HAX
        clear hr hrm c0 c1
        go_wp2_with fail
        go_region_held3 (fun X => Ext wr X) (first | assumption)
          (first
            | (go_at_call 13; refine (HAX.out _ (S4.trans (by assumption))).mono ?_; rintro e w9 ⟨rfl, E9⟩; have G9 := G0.trans E9))
        have K9 := sE.trans G9
        clear s0 s1 s2 s3 s4 s5 G0 G9
        go_wp2_with fail
        go_roundw
        case rel => exact ⟨j + 1, by omega, by go_num, K9⟩
        case measure => simp [intOf]; omega
      · obtain rfl : j = L.length := by omega
        clear HAG HAGE
        have hb5 := Ext.heap S4 HGB.out
        have hnews : ∀ q uu, (l.map (Value.int .i64))[q]? = some uu → wr.cell? ((⟨g, 0, none⟩ : Addr).add q) = some uu := by
          intro q uu hq
          have e : (⟨g, 0, none⟩ : Addr).add q = ⟨g, q, none⟩ := by
            unfold Addr.add; split
            · rename_i h; subst h; rfl
            · simp
          rw [e, blk_cell hb5]
          simpa using hq
        have hone : ∀ uu ∈ l.map (Value.int .i64), uu.oneCell' = true := by
          intro uu hu
          obtain ⟨_, _, rfl⟩ := List.mem_map.1 hu
          rfl
        have hl0 : 0 < l.length := by omega
        go_wp2_with (at_builtin; refine wpList_append_own_at _ rfl _ _ 27 rfl wr.heap.size 3 i0 _ 1 8 Try.underlying27 hinf hz0 hz1 hz2 rfl (by decide) (.slice none 0 0) 0 [] rfl (World.ownsRow_nil _ _ _ _) ⟨g, 0, none⟩ l.length l.length (l.map (Value.int .i64)) rfl (by simp) hnews hone (by unfold maxLen; omega) (by omega) (Nat.le_refl _) ?_; intro v6 w6 hown6 hgrow6 hnil6 hat6; obtain ⟨g6, cap6, rfl, hown7, E6⟩ := own_copy hown6 hgrow6 hl0; clear hown6 hgrow6 hnil6 hat6)
        have hge : wr.heap.size ≤ g6 := by have := (World.ownsRow.lt hown7 g6 rfl).1; exact this
        have HO7 := Lib.hid (OwnI.of hown7 rfl)
        have HRW := Lib.hid S4
        have F6 := S4.trans E6
        clear hown7 hnews hone hb5
        obtain ⟨wo2, rfl⟩ : ∃ wo2 : World, wo2 = wr := ⟨_, rfl⟩
        go_wp2_with fail
        go_loopw [13] (fun kk wr => ∃ (k : Nat) (ol : List Int), k ≤ l.length ∧ kk = .int .i64 k ∧ NearK l ol i k ∧ OwnI wr g6 cap6 ol ∧ Ext wo2 wr) (fun kk _ => l.length - (intOf kk).toNat)
        case atStart => exact ⟨0, l, Nat.zero_le _, rfl, NearK.start l i, HO7.out, E6⟩
        case round =>
          clear E6 F6
          obtain ⟨k, ol, hk, rfl, hnk, how, tE⟩ := hrel
          have HNK := Lib.hid hnk
          have HOW := Lib.hid how
          have holl := hnk.1.1
          have HOLL := Lib.hid holl
          have hr2 := near_rng hnk.1 HLS.out.1.2.1
          by_cases hlt3 : k < l.length
          · have hxo := List.getElem?_eq_getElem (show k < ol.length by omega)
            obtain ⟨ko, fo⟩ := how.cell hxo
            have hor := hr2 _ (List.getElem_mem (show k < ol.length by omega))
            have hgo : ol.getD k 0 = ol[k] := by rw [List.getD_eq_getElem?_getD, hxo]; rfl
            have HGO := Lib.hid hgo
            have hkl : (k : Int) < (l.length : Int) := by omega
            generalize ol[k] = ou at *
            clear hxo hgo hnk how hr2 holl
            by_cases hkm : k < mo.length
            · have hkm' : (k : Int) < (mo.length : Int) := by omega
              by_cases hki : k = i
              · have bki : ((k : Int) != (i : Int)) = false := by simp [hki]
                have HN2 := Lib.hid HNK.out.same
                clear hki
                go_wp2_with fail
                go_roundw
                case rel => exact ⟨k + 1, ol, by omega, by go_num, HN2.out, HOW.out, tE⟩
                case measure => simp [intOf]; omega
              · have bki : ((k : Int) != (i : Int)) = true := by simp; omega
                have hxm := List.getElem?_eq_getElem hkm
                obtain ⟨hu8, bm, om, rfl, hbm, cm⟩ := HM.out.get hxm
                generalize mo[k] = mk at *
                unfold isU8 at hu8
                obtain ⟨u80, u81⟩ := hu8
                have cmr := Ext.cell (F2.trans (HRW.out.trans tE)) cm
                have HN2 := Lib.hid (HNK.out.more (k := k) hlt3 hki (d := mk % 3) (by omega) (by omega))
                rw [HGO.out] at HN2
                have HO2 := Lib.hid (HOW.out.set (k := k) (by have := HOLL.out; omega) (ou + mk % 3))
                have C2 := Lib.hid (Ext.then tE (Chg.setCell (Chg.refl (fun q => q = g6) wr) ⟨g6, k, none⟩ (.int .i64 (ou + mk % 3)) (.inl (Eq.refl _))) (fun b hb => by omega))
                have hwr1 : IntKind.i64.wrap (ou + mk % 3) = ou + mk % 3 := by rw [IntKind.wrap_i64] <;> omega
                have hmk : mk.tmod 3 = mk % 3 := Int.tmod_eq_emod_of_nonneg u80
                clear hxm cm hki
                go_wp2_with fail
                go_region
                go_wp2_with fail
                go_roundw
                case rel => exact ⟨k + 1, _, by omega, by go_num, HN2.out, HO2.out.ext ((Chg.refl _ _).drew), C2.out.drew⟩
                case measure => simp [intOf]; omega
            · have hkm' : ¬ (k : Int) < (mo.length : Int) := by omega
              have HN2 := Lib.hid HNK.out.same
              go_wp2_with fail
              go_roundw
              case rel => exact ⟨k + 1, ol, by omega, by go_num, HN2.out, HOW.out, tE⟩
              case measure => simp [intOf]; omega
          · obtain rfl : k = l.length := by omega
            have hio : i < ol.length := by omega
            have hxo := List.getElem?_eq_getElem hio
            obtain ⟨ko, fo⟩ := how.cell hxo
            have hxl := HXL.out
            have hol : ol.getD i 0 = l.getD i 0 := HNK.out.1.2.1
            have hwl := Ext.heap (HRW.out.trans tE) HGB.out
            have kl : wr.cell? ⟨g, i, none⟩ = some (.int .i64 u) := (blk_cell hwl i).trans (by simp [hxl])
            have HO9 := Lib.hid (HOW.out.set (k := i) hio (u - 1))
            have C9 := Lib.hid (Ext.then tE (Chg.setCell (Chg.refl (fun q => q = g6) wr) ⟨g6, i, none⟩ (.int .i64 (u - 1)) (.inl (Eq.refl _))) (fun b hb => by omega))
            have hwr1 : IntKind.i64.wrap (u - 1) = u - 1 := by rw [IntKind.wrap_i64] <;> omega
            have hfin : lateChk p (ol.set i (u - 1)) = false := less_not HLS.out hlt (by rw [getD_set, if_pos ⟨rfl, hio⟩, HGD.out])
            have HFIN := Lib.hid hfin
            have hrd := HO9.out.rd (fun n hn => by
              rcases List.mem_or_eq_of_mem_set hn with hn | rfl
              · have := hr2 n hn; unfold isI64; omega
              · unfold isI64; omega) (by rw [List.length_set]; omega)
            rw [List.length_set, HOLL.out] at hrd
            have S9 := HRW.out.trans C9.out
            have HCX := Lib.hid (HCH.out _ _ _ S9 hrd)
            rw [HFIN.out] at HCX
            clear hnk how hr2 hrd hxl hol hwl hxo hfin
            go_wp2_with fail
            refine HCX.out.mono ?_
            rintro e w8 ⟨rfl, E8⟩
            have G8 := S9.trans E8
            clear HCX S9 E8
            go_wp2_with fail
            go_roundw
            case rel => exact ⟨i + 1, by omega, by go_num, G8⟩
            case measure => simp [intOf]; omega
end Go.Proofs.Ytjdficgejjkaoaa
