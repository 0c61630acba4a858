/- NamesFound answers true. -/
import Derived.Test.YtgdlocjocjamgaaAlive
import Derived.Test.YtgdlocjocjamgaaGreat
namespace Go.Proofs.Ytgdlocjocjamgaa
open Go.RowKit
set_option linter.unusedVariables false
set_option linter.unusedSimpArgs false

theorem look_nodup {y : Thing} : ∀ {l : List Thing}, (l.map (·.1)).Nodup → y ∈ l → lookT y.1 l = (y.2.1, y.2.2.1, y.2.2.2, true)
  | [], _, h => by simp at h
  | x :: r, hn, h => by
    simp only [List.map_cons, List.nodup_cons] at hn
    unfold lookT
    rcases List.mem_cons.1 h with rfl | h
    · rw [if_pos rfl]
    · rw [if_neg (fun e => hn.1 (by rw [e]; exact List.mem_map.2 ⟨y, h, rfl⟩)), look_nodup hn.2 h]
theorem find_in {p : PrD} (h : okN p) {k : Nat} {x : InD} (hx : p.ins[k]? = some x) : findP x.name p.flows p.ins = (x.st, x.ty, -1, true) := by
  rw [findP_look]
  exact look_nodup (y := inT x) h.1 (List.mem_append.2 (.inl (List.mem_map.2 ⟨x, List.mem_of_getElem? hx, rfl⟩)))
theorem find_fl {p : PrD} (h : okN p) {k : Nat} {x : FlD} (hx : p.flows[k]? = some x) : findP x.name p.flows p.ins = (x.st, x.ty, (k : Int), true) := by
  rw [findP_look]
  have hk : k < p.flows.length := (List.getElem?_eq_some_iff.1 hx).1
  have hm := flTs_at 0 p.flows k hk
  rw [hx] at hm
  have := look_nodup (y := flT k x) h.1 (List.mem_append.2 (.inr (List.mem_of_getElem? (i := k) (by rw [hm, Nat.zero_add]; rfl))))
  exact this
theorem okN_of {p : PrD} (h : namesP p = 0) : progP p = true ∧ okN p := by
  cases hp : progP p
  · rw [names_1 hp] at h; cases h
  · refine ⟨rfl, Classical.byContradiction fun ho => ?_⟩
    rw [names_6 hp ho] at h
    cases h
theorem find_ok {p : PrD} {s : ByteArray} (h : s ∈ namesT p) : ∃ a b c, findP s p.flows p.ins = (a, b, c, true) := by
  have := find_there.2 h
  generalize findP s p.flows p.ins = q at *
  obtain ⟨a, b, c, d⟩ := q
  simp only at this
  subst this
  exact ⟨a, b, c, rfl⟩
set_option maxRecDepth 100000 in
set_option maxHeartbeats 4000000 in
theorem namesFound_any (p : PrD) (cs : Array Value) (w : World) (h : RdPr w 0 false p cs) : Calls Try.prog 5 #[.agg cs] w (RetT w) := by
  have H := Lib.hid h
  obtain ⟨vi, vf, vo, rfl, _, hi, hf, ho⟩ := h
  obtain ⟨ai, ci, rfl, ri⟩ := hi
  obtain ⟨af, cf, rfl, rf⟩ := hf
  obtain ⟨ao, co, rfl, ro⟩ := ho
  have HI := Lib.hid (show RdInV w 0 false p.ins (.slice ai p.ins.length ci) from ⟨_, _, rfl, ri⟩)
  have HF := Lib.hid (show RdFlV w 0 false p.flows (.slice af p.flows.length cf) from ⟨_, _, rfl, rf⟩)
  have HO := Lib.hid (show RdStrV w 0 false p.outs (.slice ao p.outs.length co) from ⟨_, _, rfl, ro⟩)
  clear ri rf ro
  have e0 : Ext w (w.alloc (.cells #[.int .i64 p.st, .slice ai p.ins.length ci, .slice af p.flows.length cf, .slice ao p.outs.length co] 26)) := (Chg.refl _ _).alloc _
  have xb := heap_alloc_new w (.cells #[.int .i64 p.st, .slice ai p.ins.length ci, .slice af p.flows.length cf, .slice ao p.outs.length co] 26)
  have HA := Lib.hid alive_any
  go_enter Try.func5, Try.ntmps5
  go_wp2_with fail
  generalize (w.alloc (.cells #[.int .i64 p.st, .slice ai p.ins.length ci, .slice af p.flows.length cf, .slice ao p.outs.length co] 26)) = W0 at *
  refine (HA.out _).mono ?_
  rintro e w1 ⟨rfl, E1⟩
  have F1 := e0.trans E1
  have xb1 := Ext.heap E1 xb
  clear xb e0 E1
  have y0 := blk_cell xb1 0
  have y1 := blk_cell xb1 1
  have y2 := blk_cell xb1 2
  have y3 := blk_cell xb1 3
  simp only [List.getElem?_toArray, List.getElem?_cons_zero, List.getElem?_cons_succ] at y0 y1 y2 y3
  have HG := Lib.hid (great_any p _ _ (H.out.ext F1))
  go_wp2_with fail
  refine HG.out.mono ?_
  rintro e w2 ⟨b, rfl, E2⟩
  have F2 := F1.trans E2
  have xb2 := Ext.heap E2 xb1
  clear xb1 F1 E2 HG y0 y1 y2 y3
  cases b
  case true =>
    go_wp2_with fail
    refine (HA.out _).mono ?_
    rintro e w3 ⟨rfl, E3⟩
    go_wp2_with fail
    go_ret
    exact ⟨rfl, F2.trans E3⟩
  have y0 := blk_cell xb2 0
  have y1 := blk_cell xb2 1
  have y2 := blk_cell xb2 2
  have y3 := blk_cell xb2 3
  simp only [List.getElem?_toArray, List.getElem?_cons_zero, List.getElem?_cons_succ] at y0 y1 y2 y3
  have HC := Lib.hid (nCheck_any p _ _ (H.out.ext F2))
  go_wp2_with fail
  refine HC.out.mono ?_
  rintro e w3 ⟨rfl, E3⟩
  have F3 := F2.trans E3
  have xb3 := Ext.heap E3 xb2
  clear HC xb2 F2 E3 y0 y1 y2 y3
  by_cases hn : namesP p = 0
  case neg =>
    have bn : (namesP p != 0) = true := by simpa using hn
    generalize namesP p = n at *
    clear hn
    go_wp2_with fail
    refine (HA.out _).mono ?_
    rintro e w4 ⟨rfl, E4⟩
    go_wp2_with fail
    go_ret
    exact ⟨rfl, F3.trans E4⟩
  obtain ⟨hpr, hok⟩ := okN_of hn
  obtain ⟨hp64, hp128, hpo, hpok, hpon⟩ := prog_ok hpr
  rw [hn]
  have HOK := Lib.hid hok
  have HPO := Lib.hid hpok
  clear hok hpok hpon hpr hn HA
  have n1 : p.ins.length ≤ 9000000000000000000 := by omega
  have n2 : p.flows.length ≤ 9000000000000000000 := by omega
  have n3 : p.outs.length ≤ 9000000000000000000 := by omega
  go_wp2_with fail
  go_loopw [3] (fun i wr => ∃ k : Nat, k ≤ p.ins.length ∧ i = .int .i64 k ∧ wr.heap[w.heap.size]? = some (.cells #[.int .i64 p.st, .slice ai p.ins.length ci, .slice af p.flows.length cf, .slice ao p.outs.length co] 26 (0, 0)) ∧ Ext w wr) (fun i _ => p.ins.length - (intOf i).toNat)
  case atStart => exact ⟨0, Nat.zero_le _, rfl, xb3, F3⟩
  case round =>
    clear xb3 F3
    obtain ⟨k, hk, rfl, xb, rE⟩ := hrel
    have y0 := blk_cell xb 0
    have y1 := blk_cell xb 1
    have y2 := blk_cell xb 2
    have y3 := blk_cell xb 3
    simp only [List.getElem?_toArray, List.getElem?_cons_zero, List.getElem?_cons_succ] at y0 y1 y2 y3
    by_cases hlt : k < p.ins.length
    · have hx : p.ins[k]? = some p.ins[k] := List.getElem?_eq_getElem hlt
      have q1 : (k : Int) < (p.ins.length : Int) := by omega
      have hfd := find_in HOK.out hx
      obtain ⟨_, _, e, _, _, _, hr, _⟩ := HI.out.ext rE
      simp only [Value.slice.injEq, true_and] at e
      obtain ⟨rfl, rfl⟩ := e
      obtain ⟨hnm, _, _, b, o, rfl, _, hlt2, c0, c1, c2⟩ := hr k _ hx
      generalize p.ins[k] = x at *
      have hf := find_any p x.name _ wr.drew (H.out.ext rE.drew)
      unfold RetFind fourV at hf
      rw [hfd] at hf
      have HFd := Lib.hid hf
      have S0 : wr.drew.cell? ⟨w.heap.size, 0, none⟩ = some (.int .i64 p.st) ∧ wr.drew.cell? ⟨w.heap.size, 1, none⟩ = some (.slice (some ⟨b, o, none⟩) p.ins.length ci) ∧ wr.drew.cell? ⟨w.heap.size, 2, none⟩ = some (.slice af p.flows.length cf) ∧ wr.drew.cell? ⟨w.heap.size, 3, none⟩ = some (.slice ao p.outs.length co) ∧ wr.drew.cell? ⟨b, o + k * 3, none⟩ = some (.string x.name) := ⟨y0, y1, y2, y3, c0⟩
      have SE : ∀ X X' : World, (X.cell? ⟨w.heap.size, 0, none⟩ = some (.int .i64 p.st) ∧ X.cell? ⟨w.heap.size, 1, none⟩ = some (.slice (some ⟨b, o, none⟩) p.ins.length ci) ∧ X.cell? ⟨w.heap.size, 2, none⟩ = some (.slice af p.flows.length cf) ∧ X.cell? ⟨w.heap.size, 3, none⟩ = some (.slice ao p.outs.length co) ∧ X.cell? ⟨b, o + k * 3, none⟩ = some (.string x.name)) → Ext X X' → (X'.cell? ⟨w.heap.size, 0, none⟩ = some (.int .i64 p.st) ∧ X'.cell? ⟨w.heap.size, 1, none⟩ = some (.slice (some ⟨b, o, none⟩) p.ins.length ci) ∧ X'.cell? ⟨w.heap.size, 2, none⟩ = some (.slice af p.flows.length cf) ∧ X'.cell? ⟨w.heap.size, 3, none⟩ = some (.slice ao p.outs.length co) ∧ X'.cell? ⟨b, o + k * 3, none⟩ = some (.string x.name)) := fun X X' h e => ⟨Ext.cell e h.1, Ext.cell e h.2.1, Ext.cell e h.2.2.1, Ext.cell e h.2.2.2.1, Ext.cell e h.2.2.2.2⟩
      clear hr hx hf hfd
      go_wp2_with fail
      go_region_held3 (fun X => X.cell? ⟨w.heap.size, 0, none⟩ = some (.int .i64 p.st) ∧ X.cell? ⟨w.heap.size, 1, none⟩ = some (.slice (some ⟨b, o, none⟩) p.ins.length ci) ∧ X.cell? ⟨w.heap.size, 2, none⟩ = some (.slice af p.flows.length cf) ∧ X.cell? ⟨w.heap.size, 3, none⟩ = some (.slice ao p.outs.length co) ∧ X.cell? ⟨b, o + k * 3, none⟩ = some (.string x.name))
        (first | (with_reducible exact S0) | (with_reducible exact S4))
        (first
          | (go_at_call 12; refine HFd.out.mono ?_; rintro e w5 ⟨rfl, E5⟩; have S4 := SE _ _ S0 E5))
      have D5 : Ext wr w5 := (Chg.refl (fun _ => False) wr).drew.trans E5
      have F5 : Ext w w5 := rE.trans D5
      have xb5 := Ext.heap D5 xb
      have c1 := Ext.cell D5 c1
      have c2 := Ext.cell D5 c2
      obtain ⟨y0, y1, y2, y3, c0⟩ := S4
      clear xb rE D5 S0 SE E5
      go_wp2_with fail
      go_roundw
      case rel => exact ⟨k + 1, by omega, by go_num, xb5, F5⟩
      case measure => simp [intOf]; omega
    · obtain rfl : k = p.ins.length := by omega
      go_wp2_with fail
      obtain ⟨wo, rfl⟩ : ∃ wo : World, wo = wr := ⟨_, rfl⟩
      go_loopw [8] (fun i wr => ∃ k : Nat, k ≤ p.flows.length ∧ i = .int .i64 k ∧ wr.heap[w.heap.size]? = some (.cells #[.int .i64 p.st, .slice ai p.ins.length ci, .slice af p.flows.length cf, .slice ao p.outs.length co] 26 (0, 0)) ∧ Ext w wr) (fun i _ => p.flows.length - (intOf i).toNat)
      case atStart => exact ⟨0, Nat.zero_le _, rfl, xb, rE⟩
      case round =>
        clear xb rE y0 y1 y2 y3
        obtain ⟨k, hk, rfl, xb, rE⟩ := hrel
        have y0 := blk_cell xb 0
        have y1 := blk_cell xb 1
        have y2 := blk_cell xb 2
        have y3 := blk_cell xb 3
        simp only [List.getElem?_toArray, List.getElem?_cons_zero, List.getElem?_cons_succ] at y0 y1 y2 y3
        by_cases hlt : k < p.flows.length
        · have hx : p.flows[k]? = some p.flows[k] := List.getElem?_eq_getElem hlt
          have hxm : p.flows[k] ∈ p.flows := List.getElem_mem hlt
          have q1 : (k : Int) < (p.flows.length : Int) := by omega
          have hfd := find_fl HOK.out hx
          obtain ⟨_, _, e, _, _, _, hr, _⟩ := HF.out.ext rE
          simp only [Value.slice.injEq, true_and] at e
          obtain ⟨rfl, rfl⟩ := e
          obtain ⟨hnm, _, _, _, b, o, rfl, _, hlt2, c0, c1, c2, c3, _, _, hbn, v, hvx, c4, c5, c6, c7⟩ := hr k _ hx
          generalize p.flows[k] = x at *
          obtain ⟨hwf, hnd2⟩ := ok_wf' (HPO.out x hxm)
          have hma : ∀ s, s ∈ (gthE [] 0 x.body).map (·.1) → s ∈ namesT p := fun s hs => HOK.out.2.1 s (List.mem_append.2 (.inl (namesF_mem hxm hs)))
          have HMA := Lib.hid hma
          have hgl := gthE_le x.body [] 0
          simp only [List.length_nil] at hgl
          have hrf := fun (W : World) (hE : Ext wr W) => refs_any x.body v W (hvx.ext hE) hbn (by omega)
          obtain ⟨va, vc, rfl, _⟩ := hvx.form
          have HR := Lib.hid hrf
          have hf := find_any p x.name _ wr.drew (H.out.ext rE.drew)
          unfold RetFind fourV at hf
          rw [hfd] at hf
          have HFd := Lib.hid hf
          have S0 : wr.drew.cell? ⟨w.heap.size, 0, none⟩ = some (.int .i64 p.st) ∧ wr.drew.cell? ⟨w.heap.size, 1, none⟩ = some (.slice ai p.ins.length ci) ∧ wr.drew.cell? ⟨w.heap.size, 2, none⟩ = some (.slice (some ⟨b, o, none⟩) p.flows.length cf) ∧ wr.drew.cell? ⟨w.heap.size, 3, none⟩ = some (.slice ao p.outs.length co) ∧ wr.drew.cell? ⟨b, o + k * 8, none⟩ = some (.string x.name) := ⟨y0, y1, y2, y3, c0⟩
          have SE : ∀ X X' : World, (X.cell? ⟨w.heap.size, 0, none⟩ = some (.int .i64 p.st) ∧ X.cell? ⟨w.heap.size, 1, none⟩ = some (.slice ai p.ins.length ci) ∧ X.cell? ⟨w.heap.size, 2, none⟩ = some (.slice (some ⟨b, o, none⟩) p.flows.length cf) ∧ X.cell? ⟨w.heap.size, 3, none⟩ = some (.slice ao p.outs.length co) ∧ X.cell? ⟨b, o + k * 8, none⟩ = some (.string x.name)) → Ext X X' → (X'.cell? ⟨w.heap.size, 0, none⟩ = some (.int .i64 p.st) ∧ X'.cell? ⟨w.heap.size, 1, none⟩ = some (.slice ai p.ins.length ci) ∧ X'.cell? ⟨w.heap.size, 2, none⟩ = some (.slice (some ⟨b, o, none⟩) p.flows.length cf) ∧ X'.cell? ⟨w.heap.size, 3, none⟩ = some (.slice ao p.outs.length co) ∧ X'.cell? ⟨b, o + k * 8, none⟩ = some (.string x.name)) := fun X X' h e => ⟨Ext.cell e h.1, Ext.cell e h.2.1, Ext.cell e h.2.2.1, Ext.cell e h.2.2.2.1, Ext.cell e h.2.2.2.2⟩
          clear hr hx hf hfd hrf hvx hma hwf hxm
          generalize gthE [] 0 x.body = Lr at *
          go_wp2_with fail
          go_region_held3 (fun X => X.cell? ⟨w.heap.size, 0, none⟩ = some (.int .i64 p.st) ∧ X.cell? ⟨w.heap.size, 1, none⟩ = some (.slice ai p.ins.length ci) ∧ X.cell? ⟨w.heap.size, 2, none⟩ = some (.slice (some ⟨b, o, none⟩) p.flows.length cf) ∧ X.cell? ⟨w.heap.size, 3, none⟩ = some (.slice ao p.outs.length co) ∧ X.cell? ⟨b, o + k * 8, none⟩ = some (.string x.name))
            (first | (with_reducible exact S0) | (with_reducible exact S4))
            (first
              | (go_at_call 12; refine HFd.out.mono ?_; rintro e w5 ⟨rfl, E5⟩; have S4 := SE _ _ S0 E5))
          have D5 : Ext wr w5 := (Chg.refl (fun _ => False) wr).drew.trans E5
          have F5 : Ext w w5 := rE.trans D5
          have xb5 := Ext.heap D5 xb
          have c1 := Ext.cell D5 c1
          have c2 := Ext.cell D5 c2
          have c4 := Ext.cell D5 c4
          have c5 := Ext.cell D5 c5
          have c6 := Ext.cell D5 c6
          have c7 := Ext.cell D5 c7
          obtain ⟨y0, y1, y2, y3, c0⟩ := S4
          clear xb rE S0 SE E5
          go_wp2_with fail
          refine (HR.out _ D5).mono ?_
          rintro e w6 ⟨v2, rfl, V2, E6⟩
          obtain ⟨a2, cc2, rfl⟩ := V2.form
          have F6 := F5.trans E6
          have xb6 := Ext.heap E6 xb5
          clear HR D5 xb5 F5 E6 c0 c1 c2 c4 c5 c6 c7 y0 y1 y2 y3
          go_wp2_with fail
          obtain ⟨wo2, rfl⟩ : ∃ wo : World, wo = wr := ⟨_, rfl⟩
          go_loopw [14] (fun i wr => ∃ j : Nat, j ≤ Lr.length ∧ i = .int .i64 j ∧ Ext w6 wr) (fun i _ => Lr.length - (intOf i).toNat)
          case atStart => exact ⟨0, Nat.zero_le _, rfl, Chg.refl _ _⟩
          case round =>
            obtain ⟨j, hj, rfl, rE⟩ := hrel
            have BP3 := Ext.heap rE xb6
            by_cases hlt3 : j < Lr.length
            · have hx := List.getElem?_eq_getElem hlt3
              have hrm : Lr[j].1 ∈ Lr.map (·.1) := List.mem_map.2 ⟨_, List.getElem_mem hlt3, rfl⟩
              obtain ⟨g, rfl, c0, c1⟩ := (V2.chg rE (fun _ _ h => h)).get hx
              have q2 : (j : Int) < (Lr.length : Int) := by omega
              generalize Lr[j] = r at *
              obtain ⟨r1, r2⟩ := r
              simp only at c0 c1 hrm
              obtain ⟨fa, fb, fc, hfd⟩ := find_ok (HMA.out r1 hrm)
              have hf := find_any p r1 _ wr.drew (H.out.ext (F6.trans rE).drew)
              unfold RetFind fourV at hf
              rw [hfd] at hf
              have HFd := Lib.hid hf
              have y0 := blk_cell BP3 0
              have y1 := blk_cell BP3 1
              have y2 := blk_cell BP3 2
              have y3 := blk_cell BP3 3
              simp only [List.getElem?_toArray, List.getElem?_cons_zero, List.getElem?_cons_succ] at y0 y1 y2 y3
              have S0 : wr.drew.cell? ⟨w.heap.size, 0, none⟩ = some (.int .i64 p.st) ∧ wr.drew.cell? ⟨w.heap.size, 1, none⟩ = some (.slice ai p.ins.length ci) ∧ wr.drew.cell? ⟨w.heap.size, 2, none⟩ = some (.slice (some ⟨b, o, none⟩) p.flows.length cf) ∧ wr.drew.cell? ⟨w.heap.size, 3, none⟩ = some (.slice ao p.outs.length co) ∧ wr.drew.cell? ⟨g, j * 2, none⟩ = some (.string r1) := ⟨y0, y1, y2, y3, c0⟩
              have SE : ∀ X X' : World, (X.cell? ⟨w.heap.size, 0, none⟩ = some (.int .i64 p.st) ∧ X.cell? ⟨w.heap.size, 1, none⟩ = some (.slice ai p.ins.length ci) ∧ X.cell? ⟨w.heap.size, 2, none⟩ = some (.slice (some ⟨b, o, none⟩) p.flows.length cf) ∧ X.cell? ⟨w.heap.size, 3, none⟩ = some (.slice ao p.outs.length co) ∧ X.cell? ⟨g, j * 2, none⟩ = some (.string r1)) → Ext X X' → (X'.cell? ⟨w.heap.size, 0, none⟩ = some (.int .i64 p.st) ∧ X'.cell? ⟨w.heap.size, 1, none⟩ = some (.slice ai p.ins.length ci) ∧ X'.cell? ⟨w.heap.size, 2, none⟩ = some (.slice (some ⟨b, o, none⟩) p.flows.length cf) ∧ X'.cell? ⟨w.heap.size, 3, none⟩ = some (.slice ao p.outs.length co) ∧ X'.cell? ⟨g, j * 2, none⟩ = some (.string r1)) := fun X X' h e => ⟨Ext.cell e h.1, Ext.cell e h.2.1, Ext.cell e h.2.2.1, Ext.cell e h.2.2.2.1, Ext.cell e h.2.2.2.2⟩
              clear hf hx y0 y1 y2 y3 c0 c1 hrm hfd
              go_wp2_with fail
              go_region_held3 (fun X => X.cell? ⟨w.heap.size, 0, none⟩ = some (.int .i64 p.st) ∧ X.cell? ⟨w.heap.size, 1, none⟩ = some (.slice ai p.ins.length ci) ∧ X.cell? ⟨w.heap.size, 2, none⟩ = some (.slice (some ⟨b, o, none⟩) p.flows.length cf) ∧ X.cell? ⟨w.heap.size, 3, none⟩ = some (.slice ao p.outs.length co) ∧ X.cell? ⟨g, j * 2, none⟩ = some (.string r1))
                (first | (with_reducible exact S0) | (with_reducible exact S4))
                (first
                  | (go_at_call 12; refine HFd.out.mono ?_; rintro e w5 ⟨rfl, E5⟩; have S4 := SE _ _ S0 E5))
              have F7 : Ext w6 w5 := rE.drew.trans E5
              clear S0 S4 SE E5 BP3 rE
              go_wp2_with fail
              go_roundw
              case rel => exact ⟨j + 1, by omega, by go_num, F7⟩
              case measure => simp [intOf]; omega
            · obtain rfl : j = Lr.length := by omega
              have F7 := F6.trans rE
              clear V2
              go_wp2_with fail
              go_roundw
              case rel => exact ⟨k + 1, by omega, by go_num, BP3, F7⟩
              case measure => simp [intOf]; omega
        · obtain rfl : k = p.flows.length := by omega
          go_wp2_with fail
          obtain ⟨wo2, rfl⟩ : ∃ wo : World, wo = wr := ⟨_, rfl⟩
          go_loopw [19] (fun i wr => ∃ k : Nat, k ≤ p.outs.length ∧ i = .int .i64 k ∧ wr.heap[w.heap.size]? = some (.cells #[.int .i64 p.st, .slice ai p.ins.length ci, .slice af p.flows.length cf, .slice ao p.outs.length co] 26 (0, 0)) ∧ Ext w wr) (fun i _ => p.outs.length - (intOf i).toNat)
          case atStart => exact ⟨0, Nat.zero_le _, rfl, xb, rE⟩
          case round =>
            clear xb rE y0 y1 y2 y3
            obtain ⟨k, hk, rfl, xb, rE⟩ := hrel
            have y0 := blk_cell xb 0
            have y1 := blk_cell xb 1
            have y2 := blk_cell xb 2
            have y3 := blk_cell xb 3
            simp only [List.getElem?_toArray, List.getElem?_cons_zero, List.getElem?_cons_succ] at y0 y1 y2 y3
            by_cases hlt : k < p.outs.length
            · have hx : p.outs[k]? = some p.outs[k] := List.getElem?_eq_getElem hlt
              have hxm : p.outs[k] ∈ p.outs := List.getElem_mem hlt
              have q1 : (k : Int) < (p.outs.length : Int) := by omega
              obtain ⟨_, _, e, _, _, _, hr, _⟩ := HO.out.ext rE
              simp only [Value.slice.injEq, true_and] at e
              obtain ⟨rfl, rfl⟩ := e
              obtain ⟨hsz, b, o, rfl, _, hlt2, c0⟩ := hr k _ hx
              generalize p.outs[k] = s at *
              obtain ⟨fa, fb, fc, hfd⟩ := find_ok (HOK.out.2.1 s (List.mem_append.2 (.inr hxm)))
              have hf := find_any p s _ wr.drew (H.out.ext rE.drew)
              unfold RetFind fourV at hf
              rw [hfd] at hf
              have HFd := Lib.hid hf
              have S0 : wr.drew.cell? ⟨w.heap.size, 0, none⟩ = some (.int .i64 p.st) ∧ wr.drew.cell? ⟨w.heap.size, 1, none⟩ = some (.slice ai p.ins.length ci) ∧ wr.drew.cell? ⟨w.heap.size, 2, none⟩ = some (.slice af p.flows.length cf) ∧ wr.drew.cell? ⟨w.heap.size, 3, none⟩ = some (.slice (some ⟨b, o, none⟩) p.outs.length co) ∧ wr.drew.cell? ⟨b, o + k, none⟩ = some (.string s) := ⟨y0, y1, y2, y3, c0⟩
              have SE : ∀ X X' : World, (X.cell? ⟨w.heap.size, 0, none⟩ = some (.int .i64 p.st) ∧ X.cell? ⟨w.heap.size, 1, none⟩ = some (.slice ai p.ins.length ci) ∧ X.cell? ⟨w.heap.size, 2, none⟩ = some (.slice af p.flows.length cf) ∧ X.cell? ⟨w.heap.size, 3, none⟩ = some (.slice (some ⟨b, o, none⟩) p.outs.length co) ∧ X.cell? ⟨b, o + k, none⟩ = some (.string s)) → Ext X X' → (X'.cell? ⟨w.heap.size, 0, none⟩ = some (.int .i64 p.st) ∧ X'.cell? ⟨w.heap.size, 1, none⟩ = some (.slice ai p.ins.length ci) ∧ X'.cell? ⟨w.heap.size, 2, none⟩ = some (.slice af p.flows.length cf) ∧ X'.cell? ⟨w.heap.size, 3, none⟩ = some (.slice (some ⟨b, o, none⟩) p.outs.length co) ∧ X'.cell? ⟨b, o + k, none⟩ = some (.string s)) := fun X X' h e => ⟨Ext.cell e h.1, Ext.cell e h.2.1, Ext.cell e h.2.2.1, Ext.cell e h.2.2.2.1, Ext.cell e h.2.2.2.2⟩
              clear hf hx hr hfd hxm
              go_wp2_with fail
              go_region_held3 (fun X => X.cell? ⟨w.heap.size, 0, none⟩ = some (.int .i64 p.st) ∧ X.cell? ⟨w.heap.size, 1, none⟩ = some (.slice ai p.ins.length ci) ∧ X.cell? ⟨w.heap.size, 2, none⟩ = some (.slice af p.flows.length cf) ∧ X.cell? ⟨w.heap.size, 3, none⟩ = some (.slice (some ⟨b, o, none⟩) p.outs.length co) ∧ X.cell? ⟨b, o + k, none⟩ = some (.string s))
                (first | (with_reducible exact S0) | (with_reducible exact S4))
                (first
                  | (go_at_call 12; refine HFd.out.mono ?_; rintro e w5 ⟨rfl, E5⟩; have S4 := SE _ _ S0 E5))
              have D5 : Ext wr w5 := (Chg.refl (fun _ => False) wr).drew.trans E5
              have F5 : Ext w w5 := rE.trans D5
              have xb5 := Ext.heap D5 xb
              clear S0 S4 SE E5 D5 xb rE y0 y1 y2 y3 c0
              go_wp2_with fail
              go_roundw
              case rel => exact ⟨k + 1, by omega, by go_num, xb5, F5⟩
              case measure => simp [intOf]; omega
            · obtain rfl : k = p.outs.length := by omega
              go_wp2_with fail
              go_ret
              exact ⟨rfl, rE⟩
end Go.Proofs.Ytgdlocjocjamgaa
