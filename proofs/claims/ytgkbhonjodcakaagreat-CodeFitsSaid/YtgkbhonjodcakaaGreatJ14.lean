/- What stands in this text: CodeEq, CodeOf, CodeMap, CodePile, CodeFm. -/
import Derived.Test.YtgkbhonjodcakaaGreatJ1
import Derived.Test.YtgkbhonjodcakaaGreatJ5
import Derived.Test.YtgkbhonjodcakaaGreatJ10
import Derived.Test.YtgkbhonjodcakaaGreatJ11
import Derived.Test.YtgkbhonjodcakaaGreatJ13
import Derived.BigQuiet
import Derived.Deep.QuietTactic
import Derived.WideKeyEntry
import Derived.Maps.AppendAt
import Derived.Deep.AppendLies
import Derived.Deep.Cut
namespace Go.Proofs.YtgkbhonjodcakaaGreat
open Go.RowKit
set_option linter.unusedVariables false
set_option linter.unusedSimpArgs false

def RetEqP (l1 l2 : List PlD) (w : World) (e : Ending) (w' : World) : Prop := ∃ b, e = .returned (.bool b) ∧ (b = true ↔ l1 = l2) ∧ Ext w w'
set_option maxRecDepth 100000 in
set_option maxHeartbeats 1000000 in
theorem equalPl_any (l1 l2 : List PlD) (v1 v2 : Value) (w : World) (h1 : RdPlS w l1 v1) (h2 : RdPlS w l2 v2) : Calls Tryz.prog 34 #[v1, v2] w (RetEqP l1 l2 w) := by
  have H1 := Lib.hid h1
  have H2 := Lib.hid h2
  obtain ⟨a1, c1, rfl, _, _, hf1⟩ := h1.form
  obtain ⟨a2, c2, rfl, _, _, hf2⟩ := h2.form
  clear h1 h2
  have hn1 : l1.length ≤ 9000000000000000000 := by omega
  have hn2 : l2.length ≤ 9000000000000000000 := by omega
  by_cases hlen : l1.length = l2.length
  case neg =>
    have bl : ((l1.length : Int) != (l2.length : Int)) = true := by rw [bne_iff_ne]; omega
    have HQ : Hid (false = true ↔ l1 = l2) := ⟨(fun h => by cases h), (fun h => absurd (by rw [h]) hlen)⟩
    go_enter Tryz.func34, Tryz.ntmps34
    go_wp2_with fail
    go_ret
    exact ⟨false, rfl, HQ.out, Chg.refl _ _⟩
  have bl : ((l1.length : Int) != (l2.length : Int)) = false := by rw [bne_eq_false_iff_eq]; omega
  have HLEN := Lib.hid hlen
  have hle1 : l1.length ≤ l2.length := by omega
  have hle2 : l2.length ≤ l1.length := by omega
  clear hlen
  go_enter Tryz.func34, Tryz.ntmps34
  go_wp2_with fail
  go_loopw [13] (fun i wr => ∃ k : Nat, k ≤ l1.length ∧ i = .int .i64 k ∧ (∀ j, j < k → l1[j]? = l2[j]?) ∧ ∃ m, wr = w.drewN m) (fun i _ => l1.length - (intOf i).toNat)
  case atStart => exact ⟨0, Nat.zero_le _, rfl, fun j hj => absurd hj (Nat.not_lt_zero _), 0, rfl⟩
  case round =>
    obtain ⟨k, hk, rfl, hall, m, rfl⟩ := hrel
    have HALL := Lib.hid hall
    clear hall
    have hD : Ext w (w.drewN m) := (Chg.refl _ _).drewN _
    by_cases hlt : k < l1.length
    · have hx1 := List.getElem?_eq_getElem hlt
      have hx2 := List.getElem?_eq_getElem (show k < l2.length by omega)
      have q1 : (k : Int) < (l1.length : Int) := by omega
      have q2 : (k : Int) < (l2.length : Int) := by omega
      obtain ⟨b1, o1, rfl, _, c0, c1', c2', c3, c4, c5⟩ := H1.out.get hx1
      obtain ⟨b2, o2, rfl, _, d0, d1, d2, d3, d4, d5⟩ := H2.out.get hx2
      have HX1 := Lib.hid hx1
      have HX2 := Lib.hid hx2
      generalize l1[k] = x at *
      generalize l2[k] = y at *
      clear hx1 hx2
      obtain ⟨xn, xt, xk, xf, xr, xd⟩ := x
      obtain ⟨yn, yt, yk, yf, yr, yd⟩ := y
      simp only at c0 c1' c2' c3 c4 c5 d0 d1 d2 d3 d4 d5
      by_cases e0 : xn = yn
      case neg =>
        have e0t : ¬ xn.toList = yn.toList := fun h => e0 (by rw [ByteArray.toList_eq, ByteArray.toList_eq, Array.toList_inj] at h; cases xn; cases yn; cases h; rfl)
        have HQ : Hid (false = true ↔ l1 = l2) := ⟨(fun h => by cases h), (fun h => by
          have := HX1.out
          rw [h, HX2.out] at this
          simp only [Option.some.injEq, PlD.mk.injEq] at this
          exact absurd this.1.symm e0)⟩
        go_wp2_with fail
        go_quiet (fail)
        go_wp2_with fail
        go_ret
        exact ⟨false, rfl, HQ.out, hD.drewN _⟩
      subst e0
      by_cases e1 : xt = yt
      case neg =>
        have HQ : Hid (false = true ↔ l1 = l2) := ⟨(fun h => by cases h), (fun h => by
          have := HX1.out
          rw [h, HX2.out] at this
          simp only [Option.some.injEq, PlD.mk.injEq] at this
          exact absurd this.2.1.symm e1)⟩
        go_wp2_with fail
        go_quiet (fail)
        go_wp2_with fail
        go_ret
        exact ⟨false, rfl, HQ.out, hD.drewN _⟩
      subst e1
      by_cases e2 : xk = yk
      case neg =>
        have HQ : Hid (false = true ↔ l1 = l2) := ⟨(fun h => by cases h), (fun h => by
          have := HX1.out
          rw [h, HX2.out] at this
          simp only [Option.some.injEq, PlD.mk.injEq] at this
          exact absurd this.2.2.1.symm e2)⟩
        go_wp2_with fail
        go_quiet (fail)
        go_wp2_with fail
        go_ret
        exact ⟨false, rfl, HQ.out, hD.drewN _⟩
      subst e2
      by_cases e3 : xf = yf
      case neg =>
        have HQ : Hid (false = true ↔ l1 = l2) := ⟨(fun h => by cases h), (fun h => by
          have := HX1.out
          rw [h, HX2.out] at this
          simp only [Option.some.injEq, PlD.mk.injEq] at this
          exact absurd this.2.2.2.1.symm e3)⟩
        go_wp2_with fail
        go_quiet (fail)
        go_wp2_with fail
        go_ret
        exact ⟨false, rfl, HQ.out, hD.drewN _⟩
      subst e3
      by_cases e4 : xr = yr
      case neg =>
        have HQ : Hid (false = true ↔ l1 = l2) := ⟨(fun h => by cases h), (fun h => by
          have := HX1.out
          rw [h, HX2.out] at this
          simp only [Option.some.injEq, PlD.mk.injEq] at this
          exact absurd this.2.2.2.2.1.symm e4)⟩
        go_wp2_with fail
        go_quiet (fail)
        go_wp2_with fail
        go_ret
        exact ⟨false, rfl, HQ.out, hD.drewN _⟩
      subst e4
      by_cases e5 : xd = yd
      case neg =>
        have HQ : Hid (false = true ↔ l1 = l2) := ⟨(fun h => by cases h), (fun h => by
          have := HX1.out
          rw [h, HX2.out] at this
          simp only [Option.some.injEq, PlD.mk.injEq] at this
          exact absurd this.2.2.2.2.2.symm e5)⟩
        go_wp2_with fail
        go_quiet (fail)
        go_wp2_with fail
        go_ret
        exact ⟨false, rfl, HQ.out, hD.drewN _⟩
      subst e5
      have HA2 := Lib.hid (fun j (hj : j < k + 1) => (by
        by_cases hjk : j < k
        · exact HALL.out j hjk
        · obtain rfl : j = k := by omega
          rw [HX1.out, HX2.out] : l1[j]? = l2[j]?))
      go_wp2_with fail
      go_quiet (fail)
      go_wp2_with fail
      go_roundw
      case rel => exact ⟨k + 1, by omega, by go_num, HA2.out, _, rfl⟩
      case measure => simp [intOf]; omega
    · obtain rfl : k = l1.length := by omega
      have HQ : Hid (l1 = l2) := List.ext_getElem? (fun j => by
        by_cases hj : j < l1.length
        · exact HALL.out j hj
        · rw [List.getElem?_eq_none (by omega), List.getElem?_eq_none (by have := HLEN.out; omega)])
      go_wp2_with fail
      go_ret
      exact ⟨true, rfl, ⟨fun _ => HQ.out, fun _ => rfl⟩, hD⟩
end Go.Proofs.YtgkbhonjodcakaaGreat
namespace Go.Proofs.YtgkbhonjodcakaaGreat
open Go.RowKit
set_option linter.unusedVariables false
set_option linter.unusedSimpArgs false

theorem clipIs_any (a : Option Addr) (n cap : Nat) (w : World) (h : n ≤ cap) (hn : n ≤ 1000000) : Calls Tryz.prog 36 #[.slice a n cap] w fun e w' => e = .returned (.slice a n n) ∧ w' = w := by
  have q1 : (n : Int) ≤ (cap : Int) := by omega
  go_enter Tryz.func36, Tryz.ntmps36
  go_wp2_with fail
  go_ret
  exact ⟨rfl, rfl⟩
def RetCd (p : PrD) (l : List Int) (fl : Int) (ps : List PlD) (w : World) (e : Ending) (w' : World) : Prop := ∃ v, e = .returned (.tuple #[v, .int .i64 (codeErr p l fl ps)]) ∧ IsV w' w.heap.size (codeP p l fl ps) v ∧ Ext w w'
theorem code_no {p : PrD} {l : List Int} {fl : Int} {ps : List PlD} (h : ¬ (typesP p = 0 ∧ lateChk p l = true ∧ 0 ≤ fl ∧ fl < p.flows.length ∧ ∃ f, p.flows[fl.toNat]? = some f ∧ placesP p l f.st = ps)) : codeErr p l fl ps = 1 ∧ codeP p l fl ps = [] := by
  have e : codeErr p l fl ps = 1 := by unfold codeErr; rw [if_neg h]
  exact ⟨e, by unfold codeP; rw [if_neg (by rw [e]; decide)]⟩
theorem retCd_no {p : PrD} {l : List Int} {fl : Int} {ps : List PlD} {w w' : World} (h : codeErr p l fl ps = 1 ∧ codeP p l fl ps = []) (hE : Ext w w') : RetCd p l fl ps w (.returned (.tuple #[.slice none 0 0, .int .i64 1])) w' :=
  ⟨_, by rw [h.1], by rw [h.2]; exact .inl ⟨rfl, rfl⟩, hE⟩
theorem code_yes {p : PrD} {l : List Int} {fl : Int} {f : FlD} (h1 : typesP p = 0) (h2 : lateChk p l = true) (h3 : 0 ≤ fl) (h4 : fl < p.flows.length) (h5 : p.flows[fl.toNat]? = some f) : codeErr p l fl (placesP p l f.st) = 0 ∧ codeP p l fl (placesP p l f.st) = codeE (atPl (placesP p l f.st)) (ageF p l fl) 0 f.body := by
  have e : codeErr p l fl (placesP p l f.st) = 0 := by unfold codeErr; rw [if_pos ⟨h1, h2, h3, h4, f, h5, rfl⟩]
  exact ⟨e, by unfold codeP; rw [if_pos e, h5]⟩
theorem MiV.same {w w' : World} {b n : Nat} {f : ByteArray → Int} (h : MiV w b n f) (hb : w'.heap[b]? = w.heap[b]?) : MiV w' b n f := by
  obtain ⟨D, ⟨es, clock, h1, h2⟩, h3⟩ := h
  exact ⟨D, ⟨es, clock, hb.trans h1, h2⟩, h3⟩
theorem at_step {ps : List PlD} {k : Nat} {x : PlD} (h : ps[k]? = some x) : (fun s => atG s 0 ((ps.take (k + 1)).map (·.name)) 0) = setM (fun s => atG s 0 ((ps.take k).map (·.name)) 0) x.name (k : Int) := by
  have hk := (List.getElem?_eq_some_iff.1 h).1
  funext s
  rw [List.take_add_one, h]
  show atG s 0 ((ps.take k ++ [x]).map (·.name)) 0 = _
  rw [List.map_append]
  show atG s 0 ((ps.take k).map (·.name) ++ [x.name]) 0 = _
  rw [atG_snoc, List.length_map, List.length_take, Nat.min_eq_left (by omega), Nat.zero_add]
  rfl
set_option maxRecDepth 100000 in
set_option maxHeartbeats 8000000 in
theorem codeOf_any (p : PrD) (cs : Array Value) (l : List Int) (lv : Value) (fl : Int) (ps : List PlD) (pv : Value) (w : World) (h : RdPr w 0 false p cs) (hl : RdIntV w 0 false l lv) (hs : RdPlS w ps pv) :
    Calls Tryz.prog 12 #[.agg cs, lv, .int .i64 fl, pv] w (RetCd p l fl ps w) := by
  have HP := Lib.hid h
  have HL := Lib.hid hl
  have HS := Lib.hid hs
  obtain ⟨ai, ci, af, cf, ao, co, rfl⟩ := pr_form h
  obtain ⟨la, lc, rfl, _⟩ := hl.form
  obtain ⟨pa, pc, rfl, _, _, hpf⟩ := hs.form
  clear h hl hs
  have hpn : ps.length ≤ 9000000000000000000 := by omega
  have e0 := (Chg.refl (fun _ => False) w).alloc (.cells #[.int .i64 p.st, .slice ai p.ins.length ci, .slice af p.flows.length cf, .slice ao p.outs.length co] 26)
  have b0 := heap_alloc_new w (.cells #[.int .i64 p.st, .slice ai p.ins.length ci, .slice af p.flows.length cf, .slice ao p.outs.length co] 26)
  go_enter Tryz.func12, Tryz.ntmps12
  go_upto_region 1 with (fail)
  generalize (w.alloc (.cells #[.int .i64 p.st, .slice ai p.ins.length ci, .slice af p.flows.length cf, .slice ao p.outs.length co] 26)) = W0 at *
  have y0 : ∀ X, Ext W0 X → X.cell? ⟨w.heap.size, 0, none⟩ = some (.int .i64 p.st) := fun X hX => (blk_cell (Ext.heap hX b0) 0).trans rfl
  have y1 : ∀ X, Ext W0 X → X.cell? ⟨w.heap.size, 1, none⟩ = some (.slice ai p.ins.length ci) := fun X hX => (blk_cell (Ext.heap hX b0) 1).trans rfl
  have y2 : ∀ X, Ext W0 X → X.cell? ⟨w.heap.size, 2, none⟩ = some (.slice af p.flows.length cf) := fun X hX => (blk_cell (Ext.heap hX b0) 2).trans rfl
  have y3 : ∀ X, Ext W0 X → X.cell? ⟨w.heap.size, 3, none⟩ = some (.slice ao p.outs.length co) := fun X hX => (blk_cell (Ext.heap hX b0) 3).trans rfl
  have er : Ext W0 W0 := Chg.refl _ _
  have HPX := Lib.hid (fun (X : World) (hX : Ext W0 X) => HP.out.ext (e0.trans hX))
  have HLX := Lib.hid (fun (X : World) (hX : Ext W0 X) => HL.out.ext (e0.trans hX))
  have HTC := Lib.hid (tyCheck_any p _ W0 (HPX.out _ er))
  have HWS := lt_of_block b0
  have HB0 := Lib.hid b0
  clear b0
  have HNO := Lib.hid (fun h => code_no (p := p) (l := l) (fl := fl) (ps := ps) h)
  have HYES := Lib.hid (fun f h1 h2 h3 h4 h5 => code_yes (p := p) (l := l) (fl := fl) (f := f) h1 h2 h3 h4 h5)
  have HTN : Hid (typesP p = 0 → namesP p = 0) := fun h => by
    unfold typesP at h
    by_cases hn : namesP p = 0
    · exact hn
    · rw [if_neg hn] at h; exact h
  go_wp2_with fail
  refine HTC.out.mono ?_
  rintro e w1 ⟨rfl, E1⟩
  clear HTC
  generalize hty : typesP p = ty at *
  by_cases ht0 : ty = 0
  case neg =>
    have bt : (ty != 0) = true := by simp [ht0]
    have HQ := Lib.hid (HNO.out (fun h => ht0 h.1))
    have F1 := e0.trans E1
    go_wp2_with fail
    go_ret2
    exact retCd_no HQ.out F1
  have bt : (ty != 0) = false := by simp [ht0]
  have HT0 := Lib.hid ht0
  have HCK := Lib.hid (lateChk_any p _ l _ w1 (HPX.out _ E1) (HLX.out _ E1))
  clear ht0
  go_wp2_with fail
  refine HCK.out.mono ?_
  rintro e w2 ⟨he, E2'⟩
  have E2 := E1.trans E2'
  have F2 := e0.trans E2
  clear HCK E2' bt
  cases hlc : lateChk p l
  case false =>
    rw [hlc] at he
    subst he
    have HQ := Lib.hid (HNO.out (fun h => by rw [hlc] at h; simp at h))
    clear hlc
    go_wp2_with fail
    go_ret2
    exact retCd_no HQ.out F2
  rw [hlc] at he
  subst he
  have HLC := Lib.hid hlc
  clear hlc
  by_cases f0 : 0 ≤ fl
  case neg =>
    have HQ := Lib.hid (HNO.out (fun h => f0 h.2.2.1))
    have bf : fl < 0 := by omega
    go_wp2_with fail
    go_ret2
    exact retCd_no HQ.out F2
  obtain ⟨i, rfl⟩ : ∃ i : Nat, fl = (i : Int) := ⟨fl.toNat, by omega⟩
  have bf : ¬ ((i : Int) < 0) := by omega
  by_cases hil : i < p.flows.length
  case neg =>
    have HQ := Lib.hid (HNO.out (fun h => hil (by have := h.2.2.2.1; omega)))
    have bl : (p.flows.length : Int) ≤ (i : Int) := by omega
    go_wp2_with fail
    go_ret2
    exact retCd_no HQ.out F2
  have bl : ¬ ((p.flows.length : Int) ≤ (i : Int)) := by omega
  have bl2 : (i : Int) < (p.flows.length : Int) := by omega
  have hx := List.getElem?_eq_getElem hil
  have hmem := List.getElem_mem hil
  have hn0 := HTN.out HT0.out
  have hprog := names_prog hn0
  obtain ⟨s1, s2⟩ := fl_station hprog hmem
  obtain ⟨hp1, hp8, _⟩ := (progP_parts.1 hprog).1
  obtain ⟨_, _, _, hok, _⟩ := prog_ok hprog
  obtain ⟨hwf, hnd⟩ := ok_wf' (hok _ hmem)
  obtain ⟨pe, pq⟩ := places_ok HLC.out s1 s2
  obtain ⟨vi, vf, vo, ecs, _, _, hflr, _⟩ := HP.out
  simp only [Array.mk.injEq, List.cons.injEq, and_true, true_and] at ecs
  obtain ⟨rfl, rfl, rfl⟩ := ecs
  obtain ⟨_, _, efl, _, _, _, hrd, _⟩ := hflr
  simp only [Value.slice.injEq, true_and] at efl
  obtain ⟨rfl, rfl⟩ := efl
  obtain ⟨_, _, _, _, fb, fo, rfl, _, hfb, g0, g1, g2, g3, _, _, hbnm, bv, hbv, g4, g5, g6, g7⟩ := hrd i _ hx
  have HWF := Lib.hid hwf
  have HND := Lib.hid hnd
  have HBV := Lib.hid hbv
  have hsz : isI64 p.flows[i].st := by unfold isI64; omega
  have HPLC := Lib.hid (fun (X : World) (hX : Ext W0 X) => places_any p _ l _ p.flows[i].st X (HPX.out X hX) (HLX.out X hX) hsz)
  have HY := Lib.hid (HYES.out _ HT0.out HLC.out f0 (by omega) (by rw [Int.toNat_natCast]; exact hx))
  have HNO2 : Hid (placesP p l p.flows[i].st ≠ ps → codeErr p l i ps = 1 ∧ codeP p l i ps = []) := fun hne => HNO.out (fun h => by
    obtain ⟨_, _, _, _, f', h1, h2⟩ := h
    rw [Int.toNat_natCast, hx] at h1
    obtain rfl := Option.some.inj h1
    exact hne h2)
  have HNM : Hid (∀ x, x ∈ placesP p l p.flows[i].st → x.name.size ≤ 40) := fun x hx2 => by
    rw [pq] at hx2
    obtain ⟨s, hs, rfl⟩ := List.mem_map.1 hx2
    rw [(place_name (p := p) (l := l) (st := p.flows[i].st) (s := s)).1]
    exact all_size hn0 hs
  have HLEN : Hid ((placesP p l p.flows[i].st).length ≤ 1000000) := by
    show _ ≤ _
    rw [pq, List.length_map]
    have := all_len hprog p.flows[i].st
    omega
  have HPE0 := Lib.hid pe
  clear hx hmem hwf hnd hrd hbv pq pe hok HYES HNO
  have hbv0 := HBV.out
  generalize p.flows[i] = fx at *
  obtain ⟨ba, bc, rfl, _⟩ := hbv0.form
  have k0 : ∀ X, Ext w X → X.cell? ⟨fb, fo + i * 8 + 2, none⟩ = some (.int .i64 fx.st) := fun X hX => Ext.cell hX g2
  have k4 : ∀ X, Ext w X → X.cell? ⟨fb, fo + i * 8 + 4, none⟩ = some (.int .u8 fx.body.op) := fun X hX => Ext.cell hX g4
  have k5 : ∀ X, Ext w X → X.cell? ⟨fb, fo + i * 8 + 4 + 1, none⟩ = some (.int .i64 fx.body.n) := fun X hX => Ext.cell hX g5
  have k6 : ∀ X, Ext w X → X.cell? ⟨fb, fo + i * 8 + 4 + 2, none⟩ = some (.string fx.body.name) := fun X hX => Ext.cell hX g6
  have k7 : ∀ X, Ext w X → X.cell? ⟨fb, fo + i * 8 + 4 + 3, none⟩ = some (.slice ba fx.body.args.length bc) := fun X hX => Ext.cell hX g7
  have K2 := Lib.hid k0
  have K4 := Lib.hid k4
  have K5 := Lib.hid k5
  have K6 := Lib.hid k6
  have K7 := Lib.hid k7
  have kst : ∀ X, Ext W0 X → X.cell? ⟨fb, fo + i * 8 + 2, none⟩ = some (.int .i64 fx.st) := fun X hX => K2.out X (e0.trans hX)
  clear g0 g1 g2 g3 g4 g5 g6 g7 k0 k4 k5 k6 k7 hbv0
  unfold RetPl at HPLC
  rw [HPE0.out] at HPLC
  generalize hQ : placesP p l fx.st = Q at *
  go_upto_region 3 with (fail)
  have G2 : Ext W0 w2 := E2
  have G0 : Ext W0 w2.drew := G2.drew
  go_region_held3 (fun X => Ext W0 X) (first | assumption)
    (first
      | (go_at_call 11; refine (HPLC.out _ G0).mono ?_; rintro e w3 ⟨qv, rfl, hqv, E3'⟩; have G3 := G0.trans E3'))
  obtain ⟨qa, qc, rfl, _⟩ := hqv.form
  have HQV := Lib.hid hqv
  have F3 := e0.trans G3
  clear hqv E3' kst G0 F2
  have HEQ := Lib.hid (equalPl_any Q ps _ _ w3 (HQV.out.rdS HLEN.out) (HS.out.ext F3))
  go_wp2_with fail
  refine HEQ.out.mono ?_
  rintro e w4 ⟨b, rfl, hbq, E4'⟩
  have G4 := G3.trans E4'
  have F4 := e0.trans G4
  clear HEQ E4' HQV
  cases b
  case false =>
    have HQN := Lib.hid (HNO2.out (fun h => by have := hbq.2 h; cases this))
    go_wp2_with fail
    go_ret2
    exact retCd_no HQN.out F4
  have hqe : Q = ps := hbq.1 rfl
  clear hbq HNO2
  subst hqe
  have hmm := @run_makeMap Tryz.prog
  have z0 := y0 _ G4
  have z1 := y1 _ G4
  have z2 := y2 _ G4
  have z3 := y3 _ G4
  go_upto_region 7 with (fail)
  clear hmm z0 z1 z2 z3
  generalize hw5 : w4.alloc _ = w5
  obtain ⟨s5, b5, e5⟩ := chain1 hw5
  have hM0 : MiV w5 w4.heap.size 0 (fun _ => 0) := by rw [← hw5]; exact MiV.made w4
  clear hw5 b5
  generalize hw6 : w5.alloc _ = w6
  obtain ⟨s6, b6, e6⟩ := chain1 hw6
  clear hw6
  have hM6 := hM0.ext e6
  have e46 := e5.trans e6
  have hK6 : MkAt w6 (w4.heap.size + 1) p (.slice ai p.ins.length ci) (.slice (some ⟨fb, fo, none⟩) p.flows.length cf) (.slice ao p.outs.length co) (.slice la l.length lc) (i : Int) w4.heap.size (.slice none 0 0) := by rw [← s5]; exact b6
  rw [s5] at s6
  have hW0M : W0.heap.size ≤ w4.heap.size := G4.size
  have hMs : w.heap.size < w4.heap.size := Nat.lt_of_lt_of_le HWS G4.size
  generalize hMM : w4.heap.size = M at *
  obtain ⟨K, hKM⟩ : ∃ K, K = M + 1 := ⟨_, rfl⟩
  rw [← hKM] at hK6 ⊢
  have hMK : M < K := by omega
  have HK6 := Lib.hid hK6
  have HM6 := Lib.hid hM6
  have HQS : Hid (Q.length ≤ 1000000) := HLEN
  have G6 := G4.trans e46
  clear hM0 b6 s5 s6 e5 e6 hK6 hM6 hKM hMM
  go_wp2_with fail
  go_loopw [63] (fun iv wr => ∃ k : Nat, k ≤ Q.length ∧ iv = .int .i64 k ∧ MiV wr M k (fun s => atG s 0 ((Q.take k).map (·.name)) 0) ∧ MkAt wr K p (.slice ai p.ins.length ci) (.slice (some ⟨fb, fo, none⟩) p.flows.length cf) (.slice ao p.outs.length co) (.slice la l.length lc) (i : Int) M (.slice none 0 0) ∧ Ext W0 wr) (fun iv _ => Q.length - (intOf iv).toNat)
  case atStart => exact ⟨0, Nat.zero_le _, rfl, HM6.out, HK6.out, G6⟩
  case round =>
    clear HM6 HK6 e46
    obtain ⟨k, hk, rfl, hmi, hmk, hE⟩ := hrel
    have HMI := Lib.hid hmi
    have HMKK := Lib.hid hmk
    clear hmi hmk
    by_cases hlt : k < Q.length
    case pos =>
      have hx := List.getElem?_eq_getElem hlt
      have q1 : (k : Int) < (Q.length : Int) := by omega
      obtain ⟨bb, oo, rfl, _, c0, c1, c2, c3, c4, c5⟩ := (HS.out.ext (e0.trans hE)).get hx
      have hsz := HNM.out _ (List.getElem_mem hlt)
      have HAT := Lib.hid (at_step hx)
      generalize Q[k] = x at *
      clear hx
      go_upto_region 10 with (fail)
      generalize hw7 : wr.alloc _ = w7
      obtain ⟨s7, b7, e7⟩ := chain1 hw7
      clear hw7
      have HM7 := Lib.hid ((HMI.out.ext e7).ext ((Chg.refl (fun _ => False) w7).drew))
      have HK7 := Lib.hid (Ext.heap e7 HMKK.out)
      have d6 : w7.cell? ⟨K, 6, none⟩ = some (.map (some M)) := (blk_cell HK7.out 6).trans rfl
      have dn : w7.cell? ⟨wr.heap.size, 0, none⟩ = some (.string x.name) := (blk_cell b7 0).trans rfl
      have t6 := (World.cell?_drew (w := w7) (a := ⟨K, 6, none⟩)).trans d6
      have tn := (World.cell?_drew (w := w7) (a := ⟨wr.heap.size, 0, none⟩)).trans dn
      obtain ⟨w8, hput, hm8, C8⟩ := HM7.out.put (s := x.name) (by unfold maxLen; omega) (by have := HQS.out; unfold maxLen; omega) (z := (k : Int)) (by have := HQS.out; unfold isI64; omega)
      rw [← HAT.out] at hm8
      have hK8 : MkAt w8 K p (.slice ai p.ins.length ci) (.slice (some ⟨fb, fo, none⟩) p.flows.length cf) (.slice ao p.outs.length co) (.slice la l.length lc) (i : Int) M (.slice none 0 0) := C8.heap HK7.out (fun h => by omega)
      have hE8 : Ext W0 w8 := Ext.then (hE.trans (e7.drew)) C8 (fun q hq => by omega)
      have HM8 := Lib.hid hm8
      have HK8 := Lib.hid hK8
      clear hm8 hK8 C8 b7 s7 e7 c0 c1 c2 c3 c4 c5
      go_region
      go_wp2_with fail
      go_roundw
      case rel => exact ⟨k + 1, by omega, by go_num, HM8.out, HK8.out, hE8⟩
      case measure => simp [intOf]; omega
    obtain rfl : k = Q.length := by omega
    have hF : (fun s => atG s 0 ((Q.take Q.length).map (·.name)) 0) = atPl Q := by rw [List.take_length]; rfl
    have hmi2 := HMI.out
    rw [hF] at hmi2
    obtain ⟨ob, hob⟩ : ∃ ob, wr.heap[M]? = some ob := ⟨_, Array.getElem?_eq_getElem hmi2.lt⟩
    have FE := e0.trans hE
    have hwWr : w.heap.size ≤ wr.heap.size := FE.size
    have hpe : PutEnv w p l (.slice ai p.ins.length ci) (.slice (some ⟨fb, fo, none⟩) p.flows.length cf) (.slice ao p.outs.length co) (.slice la l.length lc) K M Q.length ob (atPl Q) :=
      ⟨HP.out, HL.out, by omega, hMK, fun X hX => hmi2.same (hX.trans hob.symm)⟩
    have hput := puts_any p l (i : Int) (atPl Q) fx.body _ _ _ _ _ (.slice none 0 0) w wr K M Q.length 32 ob [] 0 HBV.out hbnm HWF.out hpe FE hob HMKK.out (IsO.nil _ _) (by simp; have := HND.out; omega)
    have HPUT := Lib.hid hput
    have x4 := K4.out _ FE
    have x5 := K5.out _ FE
    have x6 := K6.out _ FE
    have x7 := K7.out _ FE
    have xf := y2 _ hE
    clear hput hpe hmi2 hF HMI
    go_wp2_with fail
    refine HPUT.out.mono ?_
    rintro e w9 ⟨v9, rfl, hK9, hO9, C9, hG9⟩
    have hFE9 : Ext w w9 := Ext.then FE C9 (fun q hq => by
      rcases hq with rfl | hq
      · omega
      · cases hq)
    rw [List.nil_append] at hO9
    have hlen9 := codeE_len (atPl Q) (ageF p l (i : Int)) 0 fx.body
    have hnd9 := HND.out
    have hV9 := (IsV.of hO9).base (base' := w.heap.size) (by omega)
    obtain ⟨a9, c9, rfl, hc9, hm9⟩ := hV9.form
    have HV9 := Lib.hid hV9.clip
    have x9 : w9.cell? ⟨K, 7, none⟩ = some (.slice a9 (codeE (atPl Q) (ageF p l (i : Int)) 0 fx.body).length c9) := (blk_cell hK9 7).trans rfl
    clear hV9 hO9 hG9 C9 hK9 HPUT
    generalize hcc : codeE (atPl Q) (ageF p l (i : Int)) 0 fx.body = cc at *
    go_wp2_with fail
    refine (clipIs_any a9 cc.length c9 _ hc9 (by omega)).mono ?_
    rintro e w10 ⟨rfl, rfl⟩
    have HYY := Lib.hid HY.out
    go_wp2_with fail
    go_ret2
    exact ⟨_, by rw [HYY.out.1]; rfl, by rw [HYY.out.2]; exact HV9.out, hFE9⟩
end Go.Proofs.YtgkbhonjodcakaaGreat
namespace Go.Proofs.YtgkbhonjodcakaaGreat
open Go.RowKit Go.Maps Go.WideMaps
set_option linter.unusedVariables false
set_option linter.unusedSimpArgs false

theorem wf_of_u8 {n : Int} (h : isU8 n) : (Lit.int .u8 n).wf = true := by simpa [isU8, Lit.wf, IntKind.min, IntKind.max, IntKind.signed, IntKind.bits] using h
theorem opKeyed : Keyed Tryz.prog 38 := int_keyed Tryz.underlying38
theorem opKey {o : Int} (h : isU8 o) : keyOf Tryz.prog 38 (.int .u8 o) = some (.int .u8 o) := keyOf_int_mk Tryz.underlying38 (wf_of_u8 h)
def zeroFo : Value := .agg #[.int .i64 0, .nilFunc]
theorem zeroFoR (w : World) : (zeroValue 111).run Tryz.prog w = .ok zeroFo w := by
  kernel_rfl
def foR (v : Value) : Option (DataW Value × List MemPlace) := some (.held v, [])
/-- Block b is a map of forms: what each operator has. -/
def FoV (w : World) (b n : Nat) (f : Int → Option Value) : Prop := ∃ D : DataW Value, w.ownsMap Tryz.prog 38 foR b n D ∧ IsMap D ∧ ∀ o, isU8 o → D.atKey (.int .u8 o) (.held zeroFo) = .held ((f o).getD zeroFo) ∧ has D (.int .u8 o) = (f o).isSome
def setF (f : Int → Option Value) (o : Int) (v : Value) : Int → Option Value := fun t => if o = t then some v else f t
theorem FoV.made (w : World) : FoV (w.alloc (.map #[] 0)) w.heap.size 0 (fun _ => none) := ⟨_, World.ownsMap_made w _ _ _, ⟨_, rfl⟩, fun s _ => ⟨rfl, rfl⟩⟩
theorem FoV.lt {w : World} {b n : Nat} {f : Int → Option Value} (h : FoV w b n f) : b < w.heap.size := by
  obtain ⟨D, h1, _⟩ := h
  exact h1.lt
theorem FoV.chg {w w' : World} {b n : Nat} {f : Int → Option Value} (h : FoV w b n f) {S : Nat → Prop} (hc : Chg S w w') (hS : ¬ S b) : FoV w' b n f := by
  obtain ⟨D, ⟨es, clock, hb, h2⟩, h3⟩ := h
  exact ⟨D, ⟨es, clock, (hc.block b (Array.getElem?_eq_some_iff.1 hb).1 hS).trans hb, h2⟩, h3⟩
theorem FoV.ext {w w' : World} {b n : Nat} {f : Int → Option Value} (h : FoV w b n f) (hc : Ext w w') : FoV w' b n f := h.chg hc (fun h => h)
theorem FoV.look {w : World} {b n : Nat} {f : Int → Option Value} (h : FoV w b n f) {o : Int} (ho : isU8 o) : (Instr.lookup 107 (.map (some b)) (.int .u8 o) true).run Tryz.prog w = .ok (.tuple #[(f o).getD zeroFo, .bool (f o).isSome]) w := by
  obtain ⟨D, h1, _, h3⟩ := h
  obtain ⟨v, ps, hrun, hv⟩ := h1.look_ok opKeyed Tryz.underlying107 (zeroFoR w) (show foR zeroFo = some (.held zeroFo, []) from rfl) (opKey ho)
  obtain ⟨k1, k2⟩ := h3 o ho
  rw [k1] at hv
  simp only [foR, Option.some.injEq, Prod.mk.injEq, DataW.held.injEq] at hv
  rw [hrun, hv.1, k2]
theorem FoV.put {w : World} {b n : Nat} {f : Int → Option Value} (h : FoV w b n f) {o : Int} (ho : isU8 o) (hn : n < maxLen) (v : Value) : ∃ w', (Instr.mapUpdate 107 (.map (some b)) (.int .u8 o) v).run Tryz.prog w = .ok () w' ∧ FoV w' b (n + 1) (setF f o v) ∧ Chg (fun q => q = b) w w' := by
  obtain ⟨D, h1, h2, h3⟩ := h
  obtain ⟨w', hrun, hw, hg⟩ := h1.update opKeyed Tryz.underlying107 hn (opKey ho) (show foR v = some (.held v, []) from rfl)
  refine ⟨w', hrun, ⟨_, hw, ?_, fun t ht => ?_⟩, ⟨hg.os, hg.tape, hg.output, hg.size, fun k hk hn => hg.block k hk (fun e => hn (by simpa using e))⟩⟩
  · obtain ⟨es, rfl⟩ := h2
    exact ⟨_, rfl⟩
  · unfold setF
    by_cases e : o = t
    · subst e
      rw [atKey_put_same h2 (opKeyed.key (opKey ho)), has_put_same h2 (opKeyed.key (opKey ho)), if_pos rfl]
      exact ⟨rfl, rfl⟩
    · have hne : Lit.int .u8 t ≠ Lit.int .u8 o := fun he => e (by simp only [Lit.int.injEq, true_and] at he; exact he.symm)
      rw [atKey_put_other hne, has_put_other hne, if_neg e]
      exact h3 t ht
theorem FoV.same {w w' : World} {b n : Nat} {f : Int → Option Value} (h : FoV w b n f) (hb : w'.heap[b]? = w.heap[b]?) : FoV w' b n f := by
  obtain ⟨D, ⟨es, clock, h1, h2⟩, h3⟩ := h
  exact ⟨D, ⟨es, clock, hb.trans h1, h2⟩, h3⟩
theorem setBlock_at {w : World} {b : Nat} {o : Obj} (h : b < w.heap.size) : (Go.ChangeMaps.setBlock w b o).heap[b]? = some o := by
  simp [Go.ChangeMaps.setBlock, h]
theorem setBlock_chg (w : World) (b : Nat) (o : Obj) : Chg (fun q => q = b) w (Go.ChangeMaps.setBlock w b o) :=
  ⟨rfl, rfl, rfl, by simp [Go.ChangeMaps.setBlock], fun k _ hk => by
    simp only [Go.ChangeMaps.setBlock]
    rw [Array.getElem?_setIfInBounds]
    rw [if_neg (fun e => hk e.symm)]⟩
/-- An entry that is new, and what is put there then. -/
theorem FoV.entry {w : World} {b n : Nat} {f : Int → Option Value} (h : FoV w b n f) {o : Int} (ho : isU8 o) (hn : n < maxLen) (hno : f o = none) (v : Value) :
    ∃ (st : Nat) (w1 : World), (Instr.mapEntry 107 (.map (some b)) (.int .u8 o)).run Tryz.prog w = .ok (.tuple #[zeroFo, .int .i64 st]) w1 ∧ Chg (fun q => q = b) w w1 ∧
      ∃ w2, (Instr.entryStore 107 (.map (some b)) (.int .i64 st) v).run Tryz.prog w1 = .ok () w2 ∧ FoV w2 b (n + 1) (setF f o v) ∧ Chg (fun q => q = b) w w2 := by
  obtain ⟨w', hput, hfv, _⟩ := h.put ho hn v
  have hl := h.look ho
  rw [hno] at hl
  have hbl := h.lt
  obtain ⟨D, ⟨es, clock, hb, F, hsz, hD⟩, _⟩ := h
  obtain ⟨s1, s2, _⟩ := F.stamped
  rcases opKeyed.find w (opKey ho) es.toList F.keys with ⟨h1, h2⟩ | ⟨j, e0, h1, h2, h3⟩
  · have hp : w' = Go.ChangeMaps.setBlock w b (.map (es.push ⟨.int .u8 o, v, clock⟩) (clock + 1)) := by
      simp [Instr.mapUpdate, run_underlying Tryz.underlying107, MapKept.run_getObj_map hb, opKeyed.check w false (opKey ho), h1, MapKept.run_setObj_map _ hb, Result.andThen] at hput
      rw [← hput]
      simp [Go.ChangeMaps.setBlock]
    have hb1 : (Go.ChangeMaps.setBlock w b (.map (es.push ⟨.int .u8 o, zeroFo, clock⟩) (clock + 1))).heap[b]? = some (.map (es.push ⟨.int .u8 o, zeroFo, clock⟩) (clock + 1)) := setBlock_at hbl
    have C1 := setBlock_chg w b (.map (es.push ⟨.int .u8 o, zeroFo, clock⟩) (clock + 1))
    have hidx : (es.push ⟨.int .u8 o, zeroFo, clock⟩).findIdx? (fun e => ((e.born : Nat) : Int) == ((clock : Nat) : Int)) = some es.size := by
      rw [Go.WideElems.findIdx_arr]
      have := Go.WideElems.findIdx_born (l := (es.push ⟨.int .u8 o, zeroFo, clock⟩).toList) (j := es.size) (e0 := ⟨.int .u8 o, zeroFo, clock⟩) (by
        simp only [Array.toList_push, List.map_append, List.map_cons, List.map_nil]
        refine List.nodup_append.2 ⟨s2, by simp, fun a ha c hc e1 => ?_⟩
        simp only [List.mem_singleton] at hc
        obtain ⟨x, hx, rfl⟩ := List.mem_map.1 ha
        have := s1 x hx
        omega) (by simp)
      exact this
    have hmod : (es.push ⟨.int .u8 o, zeroFo, clock⟩).modify es.size (fun e => { e with val := v }) = es.push ⟨.int .u8 o, v, clock⟩ := by
      apply Array.ext'
      rw [Array.toList_modify, Array.toList_push, Array.toList_push, ← Array.length_toList, Go.WideElems.modify_last]
    generalize hg : Go.ChangeMaps.setBlock w b (.map (es.push ⟨.int .u8 o, zeroFo, clock⟩) (clock + 1)) = w1 at *
    refine ⟨clock, w1, ?_, C1, Go.ChangeMaps.setBlock w1 b (.map (es.push ⟨.int .u8 o, v, clock⟩) (clock + 1)), ?_, ?_, C1.trans (setBlock_chg _ b _)⟩
    · rw [← hg]
      simp [Instr.mapEntry, run_underlying Tryz.underlying107, MapKept.run_getObj_map hb, opKeyed.check w false (opKey ho), h1, zeroFoR, MapKept.run_setObj_map _ hb, Result.andThen, Go.ChangeMaps.setBlock, goInt, zeroFo]
    · simp [Instr.entryStore, MapKept.run_getObj_map hb1, asInt, asIntOf, hidx, hmod, MapKept.run_setObj_map _ hb1, Result.andThen, Go.ChangeMaps.setBlock]
    · refine hfv.same ?_
      rw [hp, setBlock_at hbl, setBlock_at (lt_of_block hb1)]
  · exfalso
    have hj : es[j]? = some e0 := by simpa using h2
    simp [Instr.lookup, run_underlying Tryz.underlying107, MapKept.run_getObj_map hb, opKeyed.check w _ (opKey ho), h1, Result.andThen] at hl
end Go.Proofs.YtgkbhonjodcakaaGreat
namespace Go.Proofs.YtgkbhonjodcakaaGreat
open Go.RowKit
set_option linter.unusedVariables false
set_option linter.unusedSimpArgs false

theorem run_append_full {P : Program} {w : World} (t ty e : TypeId) (i : TypeInfo) (z : Value) (size bytes : Nat) (ht : P.underlying t = some (.slice e)) (hi : P.info? e = some i) (hz : i.zero = some z)
    (hsize : i.size = size) (hby : i.bytes = bytes) (hzs : z.cells.size = size)
    (a : Option Addr) (n : Nat) (olds : List Value) (hlo : olds.length = n * size) (hnone : a = none → n = 0) (holds : ∀ b, a = some b → ∀ j u, olds[j]? = some u → w.cell? (b.add j) = some u)
    (ad : Addr) (m c : Nat) (news : List Value) (hl : news.length = m * size) (hnews : ∀ j u, news[j]? = some u → w.cell? (ad.add j) = some u)
    (hm : 0 < m) (h63 : n + m ≤ maxLen) (hbytes : (n + m) * bytes ≤ 140737488355328) :
    ∃ cap w', (Builtin.append_ #[t, t] ty #[.slice a n n, .slice (some ad) m c]).run P w = .ok (.slice (some ⟨w.heap.size, 0, none⟩) (n + m) cap) w' ∧
      w'.ownsRow w.heap.size e size (.slice (some ⟨w.heap.size, 0, none⟩) (n + m) cap) (n + m) (olds ++ news) ∧ Ext w w' := by
  subst hsize
  subst hby
  have hsmall : n + m ≤ 9223372036854775807 := by simp only [maxLen] at h63; omega
  have hlen : (olds ++ news).length = (n + m) * i.size := by rw [List.length_append, hlo, hl, Nat.add_mul]
  have grown : ∀ (old : Nat), old < n + m →
      (w.drew.alloc (.cells (olds.toArray ++ news.toArray ++ Builtin.zeroCells z.cells (grownCap w (n + m) old e - (n + m))) e)).ownsRow w.heap.size e i.size
        (.slice (some ⟨w.heap.size, 0, none⟩) (n + m) (grownCap w (n + m) old e)) (n + m) (olds ++ news) ∧
      Ext w (w.drew.alloc (.cells (olds.toArray ++ news.toArray ++ Builtin.zeroCells z.cells (grownCap w (n + m) old e - (n + m))) e)) := by
    intro old ho
    have hge := grownCap_ge w (n + m) old e
    have hcm : grownCap w (n + m) old e ≤ maxLen := grownCap_le_maxLen w (n + m) old e h63
    refine ⟨⟨hlen, .inr ⟨w.heap.size, _, _, rfl, Nat.le_refl _, heap_alloc_new w.drew _, hge, hcm, ?_, ?_⟩⟩, ((Chg.refl _ _).drew).alloc _⟩
    · simp only [Array.size_append, List.size_toArray, size_zeroCells, hzs, hlo, hl, ← Nat.add_mul]
      congr 1
      omega
    · simp only [Array.toList_append, List.append_assoc]
      rw [← List.append_assoc, ← hlen]
      exact List.take_left
  cases a with
  | none =>
    obtain rfl := hnone rfl
    have hx : olds = [] := List.eq_nil_of_length_eq_zero (by simpa using hlo)
    subst hx
    have hr := run_append_nil (P := P) w t ty e i z ht hi hz ad m c news hl hnews hm (by omega) (by simp only [Nat.zero_add] at hbytes; omega)
    have hgr := grown 0 (by omega)
    simp only [Nat.zero_add, List.nil_append, Array.empty_append] at hgr ⊢
    exact ⟨_, _, hr, hgr.1, hgr.2⟩
  | some b =>
    have hr := run_append_grow (P := P) w t ty e i z ht hi hz b n n olds hlo (holds b rfl) ad m c news hl hnews (by omega) (by omega) (growslice_fits (by omega) hbytes)
    have hgr := grown n (by omega)
    exact ⟨_, _, hr, hgr.1, hgr.2⟩
/-- A pile of types. -/
def PileV (w : World) (l : List Int) (v : Value) : Prop := (v = .slice none 0 0 ∧ l = []) ∨ ∃ g cap, v = .slice (some ⟨g, 0, none⟩) l.length cap ∧ l.length ≤ cap ∧ g < w.heap.size ∧ ∀ i x, l[i]? = some x → w.cell? ⟨g, i, none⟩ = some (.int .u8 x)
theorem PileV.nil (w : World) : PileV w [] (.slice none 0 0) := .inl ⟨rfl, rfl⟩
theorem PileV.ext {w w' : World} {l : List Int} {v : Value} (h : PileV w l v) (he : Ext w w') : PileV w' l v := by
  rcases h with h | ⟨g, cap, h1, h2, h3, h4⟩
  · exact .inl h
  · exact .inr ⟨g, cap, h1, h2, by have := he.size; omega, fun i x hx => he.cell (h4 i x hx)⟩
theorem PileV.form {w : World} {l : List Int} {v : Value} (h : PileV w l v) : ∃ a cap, v = .slice a l.length cap ∧ l.length ≤ cap ∧ (a = none → l.length = 0 ∧ cap = 0) ∧ (∀ b, a = some b → ∃ g, b = ⟨g, 0, none⟩) := by
  rcases h with ⟨h1, rfl⟩ | ⟨g, cap, h1, h2, _⟩
  · exact ⟨none, 0, h1, Nat.le_refl _, (fun _ => ⟨rfl, rfl⟩), (fun b hb => by cases hb)⟩
  · exact ⟨_, _, h1, h2, (fun h => by cases h), (fun b hb => by simp only [Option.some.injEq] at hb; exact ⟨g, hb.symm⟩)⟩
theorem PileV.get {w : World} {l : List Int} {g n cap : Nat} (h : PileV w l (.slice (some ⟨g, 0, none⟩) n cap)) {i : Nat} {x : Int} (hx : l[i]? = some x) : w.cell? ⟨g, i, none⟩ = some (.int .u8 x) := by
  rcases h with ⟨h1, rfl⟩ | ⟨g', cap', h1, h2, h3, h4⟩
  · simp at hx
  · simp only [Value.slice.injEq, Option.some.injEq, Addr.mk.injEq, and_true] at h1
    obtain ⟨rfl, _, _⟩ := h1
    exact h4 i x hx
/-- The upper ones of a pile. -/
theorem PileV.top {w : World} {l : List Int} {g n cap k : Nat} (h : PileV w l (.slice (some ⟨g, 0, none⟩) n cap)) (hk : k ≤ l.length) {c : Nat} (hc : l.length - k ≤ c) : TyR w (l.drop k) (.slice (some ⟨g, k, none⟩) (l.length - k) c) := by
  refine ⟨g, k, c, by rw [List.length_drop], by rw [List.length_drop]; exact hc, fun i x hx => ?_⟩
  rw [List.getElem?_drop] at hx
  exact h.get hx
/-- One more upon the lower ones. -/
theorem pile_push {w : World} {l : List Int} {a : Option Addr} {n cap k : Nat} (h : PileV w l (.slice a n cap)) (hn : n = l.length) (hk : k ≤ l.length) (hl : l.length ≤ 100000) {t : Int} {B : Nat} {ty : TypeId} (hB : w.cell? ⟨B, 0, none⟩ = some (.int .u8 t)) :
    ∃ g c w', (Builtin.append_ #[106, 106] ty #[.slice a k k, .slice (some ⟨B, 0, none⟩) 1 1]).run Tryz.prog w = .ok (.slice (some ⟨g, 0, none⟩) (k + 1) c) w' ∧ PileV w' (l.take k ++ [t]) (.slice (some ⟨g, 0, none⟩) (k + 1) c) ∧ Ext w w' := by
  obtain ⟨i0, hi, hz0, hz1, hz2⟩ := info_parts infoTy
  have hlt : (l.take k).length = k := by rw [List.length_take]; omega
  obtain ⟨a', cap', e, hcap, hno, hso⟩ := h.form
  simp only [Value.slice.injEq] at e
  obtain ⟨rfl, rfl, rfl⟩ := e
  obtain ⟨c, w', hrun, hown, hE⟩ := run_append_full (P := Tryz.prog) (w := w) 106 ty 37 i0 _ 1 1 Tryz.underlying106 hi hz0 hz1 hz2 rfl a k ((l.take k).map (Value.int .u8)) (by rw [List.length_map, hlt, Nat.mul_one])
    (fun ha => by have := (hno ha).1; omega) (fun b hb j u hj => by
      obtain ⟨g, rfl⟩ := hso b hb
      subst hb
      have e : (⟨g, 0, none⟩ : Addr).add j = ⟨g, j, none⟩ := by unfold Addr.add; split <;> simp_all
      rw [e]
      rw [List.getElem?_map] at hj
      cases hx : (l.take k)[j]? with
      | none => rw [hx] at hj; cases hj
      | some x =>
        rw [hx] at hj
        simp only [Option.map_some, Option.some.injEq] at hj
        subst hj
        refine h.get ?_
        rw [List.getElem?_take] at hx
        split at hx
        · exact hx
        · cases hx) ⟨B, 0, none⟩ 1 1 [.int .u8 t] rfl (fun j u hj => by
      cases j with
      | zero =>
        simp only [List.getElem?_cons_zero, Option.some.injEq] at hj
        subst hj
        exact hB
      | succ j => simp at hj) (by decide) (by unfold maxLen; omega) (by omega)
  refine ⟨_, c, w', hrun, ?_, hE⟩
  have hlen2 : (l.take k ++ [t]).length = k + 1 := by rw [List.length_append, hlt]; rfl
  obtain ⟨g2, c2, e2, _, hlt2⟩ := World.ownsRow.form hown (by omega)
  simp only [Value.slice.injEq, Option.some.injEq, Addr.mk.injEq, and_true, true_and] at e2
  obtain ⟨rfl, rfl⟩ := e2
  have hcap2 : k + 1 ≤ c := by
    rcases hown.2 with ⟨h1, _⟩ | ⟨g, c', cur, h1, _, _, h2, _⟩
    · cases h1
    · simp only [Value.slice.injEq] at h1
      obtain ⟨_, _, rfl⟩ := h1
      exact h2
  refine .inr ⟨_, c, by rw [hlen2], by omega, hlt2, fun i x hx => ?_⟩
  have hil : i < k + 1 := by have := (List.getElem?_eq_some_iff.1 hx).1; omega
  have c0 := World.ownsRow.cellAt hown i (by omega)
  rw [c0]
  have : ((l.take k).map (Value.int .u8) ++ [.int .u8 t]) = (l.take k ++ [t]).map (Value.int .u8) := by rw [List.map_append]; rfl
  rw [this, List.getElem?_map, hx]
  rfl
end Go.Proofs.YtgkbhonjodcakaaGreat
namespace Go.Proofs.YtgkbhonjodcakaaGreat
open Go.RowKit
set_option linter.unusedVariables false
set_option linter.unusedSimpArgs false

theorem all1_one (y o : Int) (B : Nat) (w : World) (hb : w.cell? ⟨B, 0, none⟩ = some (.int .u8 o)) : Calls Tryz.prog 117 #[.int .u8 y, .pointer (some ⟨B, 0, none⟩)] w fun e w' => e = .returned (.bool (!decide (y = o))) ∧ w' = w := by
  go_enter Tryz.func117, Tryz.ntmps117
  go_wp2_with fail
  go_ret
  exact ⟨by simp [bne, Bool.beq_eq_decide_eq], rfl⟩
set_option maxRecDepth 100000 in
set_option maxHeartbeats 1000000 in
theorem idxC_any (l : List Int) (v : Value) (B : Nat) (o' : Int) (w : World) (h : TyR w l v) (hn : l.length ≤ 100000) (hb : w.cell? ⟨B, 0, none⟩ = some (.int .u8 o')) :
    Calls Tryz.prog 137 #[v, .func (.func 117) #[] #[.pointer (some ⟨B, 0, none⟩)]] w (RetIx (l.any fun t => !decide (t = o')) w) := by
  obtain ⟨g, o, cap, rfl, _, hr⟩ := h
  have hp := fun y (_ : Nat) => all1_one y o' B w hb
  have HP := Lib.hid hp
  clear hp
  go_enter Tryz.func137, Tryz.ntmps137
  go_wp2_with fail
  go_loop [8] (fun i => ∃ k : Nat, k ≤ l.length ∧ i = .int .i64 k ∧ (l.any fun t => !decide (t = o')) = ((l.drop k).any fun t => !decide (t = o'))) (fun i => l.length - (intOf i).toNat)
  case atStart => exact ⟨0, Nat.zero_le _, rfl, rfl⟩
  case round =>
    obtain ⟨k, hk, rfl, hE⟩ := hrel
    have HE := Lib.hid hE
    clear hE
    by_cases hlt : k < l.length
    · obtain ⟨y, hy⟩ : ∃ y, l[k]? = some y := ⟨_, List.getElem?_eq_getElem hlt⟩
      have c0 := hr k y hy
      have q1 : (k : Int) < (l.length : Int) := by omega
      have HS := Lib.hid (any_at (f := fun t => !decide (t = o')) hy)
      clear hy hr
      go_wp2_with fail
      refine (HP.out y 0).mono ?_
      rintro e w1 ⟨rfl, rfl⟩
      cases hb : (fun t => !decide (t = o')) y
      · have H2 : Hid ((l.any fun t => !decide (t = o')) = ((l.drop (k + 1)).any fun t => !decide (t = o'))) := by
          show _ = _
          rw [HE.out, HS.out]
          simp only [hb, Bool.false_or]
        go_wp2_with fail
        go_round
        case rel => exact ⟨k + 1, by omega, by go_num, H2.out⟩
        case measure => simp [intOf]; omega
      · have H2 : Hid ((l.any fun t => !decide (t = o')) = true) := by
          show _ = _
          rw [HE.out, HS.out]
          simp only [hb, Bool.true_or]
        go_wp2_with fail
        go_ret
        exact ⟨⟨k, rfl, by rw [H2.out]; simp⟩, Chg.refl _ _⟩
    · obtain rfl : k = l.length := by omega
      have H2 := Lib.hid (HE.out.trans (show ((l.drop l.length).any fun t => !decide (t = o')) = false by rw [List.drop_length]; rfl))
      go_wp2_with fail
      go_ret
      exact ⟨⟨(-1 : Int), rfl, by rw [H2.out]; exact ⟨fun h => absurd h (by decide), fun h => by cases h⟩⟩, Chg.refl _ _⟩
theorem hasC_any (l : List Int) (v : Value) (B : Nat) (o' : Int) (w : World) (h : TyR w l v) (hn : l.length ≤ 100000) (hb : w.cell? ⟨B, 0, none⟩ = some (.int .u8 o')) :
    Calls Tryz.prog 116 #[v, .func (.func 117) #[] #[.pointer (some ⟨B, 0, none⟩)]] w fun e w' => e = .returned (.bool (l.any fun t => !decide (t = o'))) ∧ Ext w w' := by
  have hi := idxC_any l v B o' w h hn hb
  obtain ⟨g, o, cap, rfl, _⟩ := h
  have HI := Lib.hid hi
  clear hi
  generalize (l.any fun t => !decide (t = o')) = b at *
  go_enter Tryz.func116, Tryz.ntmps116
  go_wp2_with fail
  refine HI.out.mono ?_
  rintro e w1 ⟨⟨n, rfl, hn⟩, hE⟩
  have HN := Lib.hid hn
  clear hn
  go_wp2_with fail
  go_ret
  exact ⟨congrArg (fun b => Ending.returned (Value.bool b)) (Bool.eq_iff_iff.2 (decide_eq_true_iff.trans HN.out)), hE⟩
theorem all_any (l : List Int) (v : Value) (t : Int) (w : World) (h : TyR w l v) (hn : l.length ≤ 100000) : Calls Tryz.prog 83 #[v, .int .u8 t] w fun e w' => e = .returned (.bool (!(l.any fun x => !decide (x = t)))) ∧ Ext w w' := by
  have K : Ext w (w.alloc (.cells #[.int .u8 t] 37)) := (Chg.refl _ _).alloc _
  have hb : (w.alloc (.cells #[.int .u8 t] 37)).cell? ⟨w.heap.size, 0, none⟩ = some (.int .u8 t) := World.cell?_alloc_new _ _ _ _
  have HC := Lib.hid (hasC_any l v w.heap.size t _ (h.ext K) hn hb)
  obtain ⟨g, o, cap, rfl, _⟩ := h
  clear hb
  generalize (l.any fun x => !decide (x = t)) = b at *
  go_enter Tryz.func83, Tryz.ntmps83
  go_wp2_with fail
  refine HC.out.mono ?_
  rintro e w1 ⟨rfl, E1⟩
  go_wp2_with fail
  go_ret
  exact ⟨rfl, K.trans E1⟩
theorem from1_any (of to : Int) (l : List Int) (v : Value) (Bo Bw : Nat) (w : World) (h : TyR w l v) (hn : l.length ≤ 100000) (ho : w.cell? ⟨Bo, 0, none⟩ = some (.int .u8 of)) (hw : w.cell? ⟨Bw, 0, none⟩ = some (.int .u8 to)) :
    Calls Tryz.prog 115 #[v, .pointer (some ⟨Bo, 0, none⟩), .pointer (some ⟨Bw, 0, none⟩)] w (RetTy (eachT of to l) w) := by
  have hE : eachT of to l = if (l.any fun t => !decide (t = of)) = true then 0 else to := rfl
  have HE := Lib.hid hE
  have HC := Lib.hid (all_any l v of w h hn)
  obtain ⟨g, o, cap, rfl, _⟩ := h
  clear hE
  generalize (l.any fun t => !decide (t = of)) = b at *
  go_enter Tryz.func115, Tryz.ntmps115
  go_wp2_with fail
  refine HC.out.mono ?_
  rintro e w1 ⟨rfl, E1⟩
  have hw1 := Ext.cell E1 hw
  cases b
  · go_wp2_with fail
    go_ret
    exact ⟨by rw [HE.out]; rfl, E1⟩
  · go_wp2_with fail
    go_ret
    exact ⟨by rw [HE.out]; rfl, E1⟩
theorem alikC_any (l : List Int) (v : Value) (w : World) (h : TyR w l v) (h1 : 1 ≤ l.length) (hn : l.length ≤ 100000) : Calls Tryz.prog 82 #[v] w (RetTy (alikC l) w) := by
  have HE := Lib.hid (show alikC l = if (l.any fun t => !decide (t = l.headD 0)) = true then 0 else l.headD 0 from rfl)
  have HC := Lib.hid (all_any l v (l.headD 0) w h hn)
  obtain ⟨g, o, cap, rfl, hcap, hr⟩ := h
  have c0 := head_at hr h1
  have q0 : (0 : Int) < (l.length : Int) := by omega
  clear hr
  generalize (l.any fun t => !decide (t = l.headD 0)) = b at *
  generalize l.headD 0 = x0 at *
  go_enter Tryz.func82, Tryz.ntmps82
  go_wp2_with fail
  refine HC.out.mono ?_
  rintro e w1 ⟨rfl, E1⟩
  have c1 := Ext.cell E1 c0
  cases b
  · go_wp2_with fail
    go_ret
    exact ⟨by rw [HE.out]; rfl, E1⟩
  · go_wp2_with fail
    go_ret
    exact ⟨by rw [HE.out]; rfl, E1⟩
theorem eqC_any (l : List Int) (v : Value) (B : Nat) (w : World) (h : TyR w l v) (h1 : 1 ≤ l.length) (hn : l.length ≤ 100000) (hb : w.cell? ⟨B, 0, none⟩ = some (.func (.func 82) #[] #[])) :
    Calls Tryz.prog 84 #[v, .pointer (some ⟨B, 0, none⟩)] w (RetTy (eqC l) w) := by
  have HE := Lib.hid (show eqC l = if alikC l = 0 then 0 else 2 from rfl)
  have HC := Lib.hid (alikC_any l v w h h1 hn)
  obtain ⟨g, o, cap, rfl, hcap, hr⟩ := h
  clear hr
  generalize alikC l = b at *
  go_enter Tryz.func84, Tryz.ntmps84
  go_wp2_with fail
  refine HC.out.mono ?_
  rintro e w1 ⟨rfl, E1⟩
  by_cases hz : b = 0
  · have HQ := Lib.hid (HE.out.trans (if_pos hz))
    subst hz
    go_wp2_with fail
    go_ret
    exact ⟨by rw [HQ.out]; rfl, E1⟩
  · have HQ := Lib.hid (HE.out.trans (if_neg hz))
    have bz : (b == 0) = false := by simpa using hz
    clear hz
    go_wp2_with fail
    go_ret
    exact ⟨by rw [HQ.out]; rfl, E1⟩
set_option maxRecDepth 100000 in
set_option maxHeartbeats 1000000 in
theorem ifC_any (l : List Int) (v : Value) (B : Nat) (w : World) (h : TyR w l v) (h1 : l.length = 3) (hb : w.cell? ⟨B, 0, none⟩ = some (.func (.func 82) #[] #[])) :
    Calls Tryz.prog 85 #[v, .pointer (some ⟨B, 0, none⟩)] w (RetTy (ifC l) w) := by
  match l, h1 with
  | [x, y, z], _ =>
    have HE0 := Lib.hid (show ifC [x, y, z] = if x = 2 then alikC [y, z] else 0 from rfl)
    obtain ⟨g, o, cap, rfl, hcap, hr⟩ := h
    have c0 : w.cell? ⟨g, o, none⟩ = some (.int .u8 x) := by have := hr 0 x rfl; simpa using this
    by_cases hx : x = 2
    · have HE := Lib.hid (HE0.out.trans (if_pos hx))
      subst hx
      have hc1 : ¬ cap = 1 := by simp only [List.length_cons, List.length_nil] at hcap; omega
      have hT : TyR w.drew [y, z] (.slice (some ⟨g, o + 1, none⟩) 2 (cap - 1)) := ⟨g, o + 1, cap - 1, rfl, by simp only [List.length_cons, List.length_nil] at hcap ⊢; omega, fun i t ht => by
        have := hr (i + 1) t (by simpa using ht)
        rw [show o + (i + 1) = o + 1 + i from by omega] at this
        exact this⟩
      have HC := Lib.hid (alikC_any [y, z] _ w.drew hT (by simp) (by simp))
      have dB := (World.cell?_drew (w := w) (a := ⟨B, 0, none⟩)).trans hb
      clear hT hr
      generalize alikC [y, z] = s at *
      go_enter Tryz.func85, Tryz.ntmps85
      go_wp2_with fail
      go_region_held3 (fun X => X.cell? ⟨B, 0, none⟩ = some (.func (.func 82) #[] #[]))
        (first | (with_reducible exact dB) | (with_reducible exact Ext.cell E3 dB))
        (first
          | (go_at_call 82; refine HC.out.mono ?_; rintro e w3 ⟨rfl, E3⟩))
      go_wp2_with fail
      go_ret
      exact ⟨by rw [HE.out]; rfl, (Chg.drew (Chg.refl _ _)).trans E3⟩
    · have b2 : (x == 2) = false := by simpa using hx
      have HE2 := Lib.hid (HE0.out.trans (if_neg hx))
      go_enter Tryz.func85, Tryz.ntmps85
      go_wp2_with fail
      go_ret
      exact ⟨by rw [HE2.out]; rfl, Chg.refl _ _⟩
/-- What from makes: a closure over two boxes. -/
def FromC (w : World) (of to : Int) (c : Value) : Prop := ∃ b0 b1, c = .func (.func 115) #[] #[.pointer (some ⟨b0, 0, none⟩), .pointer (some ⟨b1, 0, none⟩)] ∧ w.cell? ⟨b0, 0, none⟩ = some (.int .u8 of) ∧ w.cell? ⟨b1, 0, none⟩ = some (.int .u8 to)
theorem from_any (m of to : Int) (w : World) : Calls Tryz.prog 81 #[.int .i64 m, .int .u8 of, .int .u8 to] w fun e w' => ∃ c, e = .returned (.agg #[.int .i64 m, c]) ∧ FromC w' of to c ∧ Ext w w' := by
  go_enter Tryz.func81, Tryz.ntmps81
  go_upto_region 1 with (fail)
  generalize hw1 : w.alloc (.cells #[.int .u8 of] 37) = w1
  obtain ⟨s1, b1, e1⟩ := chain1 hw1
  generalize hw2 : w1.alloc (.cells #[.int .u8 to] 37) = w2
  obtain ⟨s2, b2, e2⟩ := chain1 hw2
  generalize hw3 : w2.alloc _ = w3
  obtain ⟨s3, b3, e3⟩ := chain1 hw3
  have E := (e1.trans e2).trans e3
  rw [s1] at b2 s2
  rw [s2] at b3
  have B1 := Ext.heap (e2.trans e3) b1
  have B2 := Ext.heap e3 b2
  clear hw1 hw2 hw3 s1 s2 s3 b1 b2 e1 e2 e3
  have hne0 : w.heap.size ≠ w.heap.size + 1 + 1 := by omega
  have hne1 : w.heap.size + 1 ≠ w.heap.size + 1 + 1 := by omega
  have f0 := blk_free b3 0
  have f1 := blk_free b3 1
  have c0 := (blk_cell b3 0).trans rfl
  have c1 := (blk_cell b3 1).trans rfl
  simp only [List.getElem?_toArray, List.getElem?_cons_zero, List.getElem?_cons_succ] at c0 c1
  have C := ((Chg.refl (fun q => q = w.heap.size + 1 + 1) w3).setCell ⟨w.heap.size + 1 + 1, 0, none⟩ (.int .i64 m) (.inl (Eq.refl _))).setCell ⟨w.heap.size + 1 + 1, 1, none⟩ (.func (.func 115) #[] #[.pointer (some ⟨w.heap.size, 0, none⟩), .pointer (some ⟨w.heap.size + 1, 0, none⟩)]) (.inl (Eq.refl _))
  have hb := blk_set (blk_set b3 0 (.int .i64 m)) 1 (.func (.func 115) #[] #[.pointer (some ⟨w.heap.size, 0, none⟩), .pointer (some ⟨w.heap.size + 1, 0, none⟩)])
  have r0 := blk_cell hb 0
  have r1 := blk_cell hb 1
  simp at r0 r1
  have hfc : FromC _ of to (.func (.func 115) #[] #[.pointer (some ⟨w.heap.size, 0, none⟩), .pointer (some ⟨w.heap.size + 1, 0, none⟩)]) := ⟨_, _, rfl, C.cell ((blk_cell B1 0).trans rfl) hne0, C.cell ((blk_cell B2 0).trans rfl) hne1⟩
  have hE := Ext.then E C (fun q hq => by omega)
  have HFC := Lib.hid hfc
  have HE := Lib.hid hE
  clear B1 B2 hb hfc hE C E hne0 hne1
  go_wp2_with fail
  refine bodyPost_ret (v := .agg #[.int .i64 m, .func (.func 115) #[] #[.pointer (some ⟨w.heap.size, 0, none⟩), .pointer (some ⟨w.heap.size + 1, 0, none⟩)]]) (by simp [results, Tryz.results81, go_sem, r0, r1]) rfl ⟨_, rfl, HFC.out, HE.out⟩
/-- What an operator's closure is. -/
def ClOk (w : World) (o : Int) (c : Value) : Prop :=
  (∃ of to, FromC w of to c ∧ ∀ l, leaveT o l = eachT of to l) ∨ (o = 18 ∧ c = .func (.func 82) #[] #[]) ∨
  ((o = 11 ∨ o = 12) ∧ ∃ b, c = .func (.func 84) #[] #[.pointer (some ⟨b, 0, none⟩)] ∧ w.cell? ⟨b, 0, none⟩ = some (.func (.func 82) #[] #[])) ∨
  (o = 17 ∧ ∃ b, c = .func (.func 85) #[] #[.pointer (some ⟨b, 0, none⟩)] ∧ w.cell? ⟨b, 0, none⟩ = some (.func (.func 82) #[] #[]))
theorem ClOk.chg {w w' : World} {o : Int} {c : Value} {S : Nat → Prop} (h : ClOk w o c) (hc : Chg S w w') (hS : ∀ b v, S b → w.cell? ⟨b, 0, none⟩ ≠ some v) : ClOk w' o c := by
  have key : ∀ b v, w.cell? ⟨b, 0, none⟩ = some v → w'.cell? ⟨b, 0, none⟩ = some v := fun b v hb => hc.cell hb (fun hs => hS b v hs hb)
  rcases h with ⟨of, to, ⟨b0, b1, h1, h2, h3⟩, h4⟩ | h | ⟨h0, b, h1, h2⟩ | ⟨h0, b, h1, h2⟩
  · exact .inl ⟨of, to, ⟨b0, b1, h1, key _ _ h2, key _ _ h3⟩, h4⟩
  · exact .inr (.inl h)
  · exact .inr (.inr (.inl ⟨h0, b, h1, key _ _ h2⟩))
  · exact .inr (.inr (.inr ⟨h0, b, h1, key _ _ h2⟩))
/-- A map of forms: of just these operators. -/
def FmS (w : World) (M n : Nat) (S : Int → Prop) : Prop := ∃ f, FoV w M n f ∧ (∀ o, (f o).isSome = true ↔ S o) ∧ ∀ o v, f o = some v → ∃ c, v = .agg #[.int .i64 (manyP o), c] ∧ ClOk w o c
theorem FoV.nocell {w : World} {b n : Nat} {f : Int → Option Value} (h : FoV w b n f) (i : Nat) (v : Value) : w.cell? ⟨b, i, none⟩ ≠ some v := by
  obtain ⟨D, ⟨es, clock, hb, _⟩, _⟩ := h
  intro e
  simp [World.cell?, hb] at e
theorem FmS.ext {w w' : World} {M n : Nat} {S : Int → Prop} (h : FmS w M n S) (he : Ext w w') : FmS w' M n S := by
  obtain ⟨f, h1, h2, h3⟩ := h
  refine ⟨f, h1.ext he, h2, fun o v hv => ?_⟩
  obtain ⟨c, hc, hk⟩ := h3 o v hv
  exact ⟨c, hc, hk.chg he (fun _ _ h => h.elim)⟩
theorem FmS.lt {w : World} {M n : Nat} {S : Int → Prop} (h : FmS w M n S) : M < w.heap.size := by
  obtain ⟨f, h1, _⟩ := h
  exact h1.lt
theorem FmS.made (w : World) : FmS (w.alloc (.map #[] 0)) w.heap.size 0 (fun _ => False) := ⟨_, FoV.made w, fun o => by simp, fun o v h => by cases h⟩
theorem FmS.eqv {w : World} {M n : Nat} {S T : Int → Prop} (h : FmS w M n S) (he : ∀ o, S o ↔ T o) : FmS w M n T := by
  obtain ⟨f, h1, h2, h3⟩ := h
  exact ⟨f, h1, fun o => (h2 o).trans (he o), h3⟩
theorem FmS.put {w : World} {M n : Nat} {S : Int → Prop} (h : FmS w M n S) {o m : Int} (ho : isU8 o) (hn : n ≤ 1000) {c : Value} (hc : ClOk w o c) (hm : m = manyP o) :
    ∃ w', (Instr.mapUpdate 107 (.map (some M)) (.int .u8 o) (.agg #[.int .i64 m, c])).run Tryz.prog w = .ok () w' ∧ FmS w' M (n + 1) (fun t => S t ∨ t = o) ∧ Chg (fun q => q = M) w w' := by
  obtain ⟨f, h1, h2, h3⟩ := h
  obtain ⟨w', hrun, hf, hC⟩ := h1.put ho (by unfold maxLen; omega) (.agg #[.int .i64 m, c])
  refine ⟨w', hrun, ⟨_, hf, fun t => ?_, fun t v hv => ?_⟩, hC⟩
  · unfold setF
    by_cases e : o = t
    · subst e; simp
    · rw [if_neg e]
      have := h2 t
      constructor
      · intro h; exact .inl (this.1 h)
      · rintro (h | h)
        · exact this.2 h
        · exact absurd h.symm e
  · unfold setF at hv
    by_cases e : o = t
    · subst e
      rw [if_pos rfl] at hv
      simp only [Option.some.injEq] at hv
      subst hv hm
      exact ⟨c, rfl, hc.chg hC (fun b v hb => by subst hb; exact h1.nocell 0 v)⟩
    · rw [if_neg e] at hv
      obtain ⟨c', hc', hk⟩ := h3 t v hv
      exact ⟨c', hc', hk.chg hC (fun b v hb => by subst hb; exact h1.nocell 0 v)⟩
theorem FmS.entry {w : World} {M n : Nat} {S : Int → Prop} (h : FmS w M n S) {o m : Int} (ho : isU8 o) (hn : n ≤ 1000) (hno : ¬ S o) {c : Value} (hc : ClOk w o c) (hm : m = manyP o) :
    ∃ (st : Nat) (w1 : World), (Instr.mapEntry 107 (.map (some M)) (.int .u8 o)).run Tryz.prog w = .ok (.tuple #[zeroFo, .int .i64 st]) w1 ∧
      ∃ w2, (Instr.entryStore 107 (.map (some M)) (.int .i64 st) (.agg #[.int .i64 m, c])).run Tryz.prog w1 = .ok () w2 ∧ FmS w2 M (n + 1) (fun t => S t ∨ t = o) ∧ Chg (fun q => q = M) w w2 := by
  obtain ⟨f, h1, h2, h3⟩ := h
  have hfo : f o = none := by
    cases e : f o with
    | none => rfl
    | some v => exact absurd ((h2 o).1 (by rw [e]; rfl)) hno
  obtain ⟨st, w1, hrun, _, w2, hrun2, hf, hC⟩ := h1.entry ho (by unfold maxLen; omega) hfo (.agg #[.int .i64 m, c])
  refine ⟨st, w1, hrun, w2, hrun2, ⟨_, hf, fun t => ?_, fun t v hv => ?_⟩, hC⟩
  · unfold setF
    by_cases e : o = t
    · subst e; simp
    · rw [if_neg e]
      have := h2 t
      constructor
      · intro h; exact .inl (this.1 h)
      · rintro (h | h)
        · exact this.2 h
        · exact absurd h.symm e
  · unfold setF at hv
    by_cases e : o = t
    · subst e
      rw [if_pos rfl] at hv
      simp only [Option.some.injEq] at hv
      subst hv hm
      exact ⟨c, rfl, hc.chg hC (fun b v hb => by subst hb; exact h1.nocell 0 v)⟩
    · rw [if_neg e] at hv
      obtain ⟨c', hc', hk⟩ := h3 t v hv
      exact ⟨c', hc', hk.chg hC (fun b v hb => by subst hb; exact h1.nocell 0 v)⟩
theorem FmS.ne {w : World} {M n : Nat} {S : Int → Prop} (h : FmS w M n S) {b : Nat} {cs : Array Value} {t : TypeId} {z : Nat × Nat} (hb : w.heap[b]? = some (.cells cs t z)) : ¬ b = M := by
  rintro rfl
  obtain ⟨f, ⟨D, ⟨es, clock, h1, _⟩, _⟩, _⟩ := h
  rw [h1] at hb
  cases hb
/-- All of them. -/
def FmAll (w : World) (M : Nat) : Prop := FmS w M 15 (fun o => manyP o ≠ 0)
theorem FmAll.ext {w w' : World} {M : Nat} (h : FmAll w M) (he : Ext w w') : FmAll w' M := FmS.ext h he
theorem FmAll.look {w : World} {M : Nat} (h : FmAll w M) {o : Int} (ho : isU8 o) :
    (manyP o = 0 ∧ ∀ X, Ext w X → (Instr.lookup 107 (.map (some M)) (.int .u8 o) true).run Tryz.prog X = .ok (.tuple #[.agg #[.int .i64 0, .nilFunc], .bool false]) X) ∨
    (manyP o ≠ 0 ∧ ∃ c, ClOk w o c ∧ ∀ X, Ext w X → (Instr.lookup 107 (.map (some M)) (.int .u8 o) true).run Tryz.prog X = .ok (.tuple #[.agg #[.int .i64 (manyP o), c], .bool true]) X) := by
  obtain ⟨f, h1, h2, h3⟩ := h
  cases e : f o with
  | none =>
    refine .inl ⟨?_, fun X hX => by rw [(h1.ext hX).look ho, e]; rfl⟩
    cases hz : manyP o with
    | zero => rfl
    | succ n =>
      have := (h2 o).2 (show manyP o ≠ 0 by rw [hz]; exact Nat.succ_ne_zero n)
      rw [e] at this
      cases this
  | some v =>
    obtain ⟨c, rfl, hc⟩ := h3 o v e
    exact .inr ⟨(h2 o).1 (by rw [e]; rfl), c, hc, fun X hX => by rw [(h1.ext hX).look ho, e]; rfl⟩
theorem manyP_pos {o : Int} : manyP o ≠ 0 ↔ 4 ≤ o ∧ o ≤ 18 := by
  unfold manyP
  by_cases h1 : o = 4 ∨ o = 5
  · rw [if_pos h1]; omega
  · rw [if_neg h1]
    by_cases h2 : o = 17
    · rw [if_pos h2]; omega
    · rw [if_neg h2]
      by_cases h3 : 6 ≤ o ∧ o ≤ 18
      · rw [if_pos h3]; omega
      · rw [if_neg h3]; omega
end Go.Proofs.YtgkbhonjodcakaaGreat
