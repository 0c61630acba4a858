/- NamesNew answers true. -/
import Derived.Test.YtgdlocjocjamgaaTurned
import Derived.Test.YtgdlocjocjamgaaTwinP2
import Derived.Test.YtgdlocjocjamgaaRowF2
import Derived.Test.YtgdlocjocjamgaaNewB
import Derived.Test.YtgdlocjocjamgaaRefNChk
import Derived.Deep.RegionHeld3
import Derived.Deep.Cut
namespace Go.Proofs.Ytgdlocjocjamgaa
open Go.RowKit
set_option linter.unusedVariables false
set_option linter.unusedSimpArgs false

theorem chg_extN {S : Nat → Prop} {w w1 w2 : World} (h : Chg S w w1) (e : Ext w1 w2) : Chg S w w2 := h.trans (e.mono (fun _ _ h => h.elim))
/-- The first k turned, the others as they were. -/
def mixL {α : Type} (f : α → α) (k : Nat) (l : List α) : List α := (l.take k).map f ++ l.drop k
theorem mixL_zero {α : Type} (f : α → α) (l : List α) : mixL f 0 l = l := by simp [mixL]
theorem mixL_len {α : Type} (f : α → α) (k : Nat) (l : List α) : (mixL f k l).length = l.length := by
  simp [mixL]; omega
theorem mixL_full {α : Type} (f : α → α) (l : List α) : mixL f l.length l = l.map f := by simp [mixL]
theorem mixL_at {α : Type} {f : α → α} {k i : Nat} {l : List α} (h : k ≤ i) : (mixL f k l)[i]? = l[i]? := by
  unfold mixL
  by_cases hk : k ≤ l.length
  · rw [List.getElem?_append_right (by simp; omega), List.length_map, List.length_take, List.getElem?_drop, show k + (i - min k l.length) = i from by omega]
  · rw [List.getElem?_eq_none (by simp; omega), List.getElem?_eq_none (by omega)]
theorem mixL_low {α : Type} {f : α → α} {k i : Nat} {l : List α} (h : i < k) : (mixL f k l)[i]? = (l[i]?).map f := by
  unfold mixL
  by_cases hi : i < l.length
  · rw [List.getElem?_append_left (by simp; omega), List.getElem?_map, List.getElem?_take, if_pos h]
  · rw [List.getElem?_eq_none (by simp; omega), List.getElem?_eq_none (by omega)]; rfl
theorem mixL_step {α : Type} {f : α → α} {k : Nat} {l : List α} {x : α} (h : l[k]? = some x) : (mixL f k l).set k (f x) = mixL f (k + 1) l := by
  have hk := (List.getElem?_eq_some_iff.1 h).1
  apply List.ext_getElem?
  intro i
  rcases Nat.lt_trichotomy i k with hi | rfl | hi
  · rw [List.getElem?_set_ne (by omega), mixL_low hi, mixL_low (by omega)]
  · rw [List.getElem?_set_self (by rw [mixL_len]; exact hk), mixL_low (by omega), h]; rfl
  · rw [List.getElem?_set_ne (by omega), mixL_at (by omega), mixL_at (by omega)]
theorem abc_end : ∀ j, j < 26 → (⟨#[97, 98, 99, 100, 101, 102, 103, 104, 105, 106, 107, 108, 109, 110, 111, 112, 113, 114, 115, 116, 117, 118, 119, 120, 121, 122]⟩ : ByteArray).extract j (j + 1) ++ (⟨#[95]⟩ : ByteArray) = endS ((97 + j).toUInt8) := by decide +kernel
theorem abc_rng : ∀ j, j < 26 → 97 ≤ ((97 + j).toUInt8).toNat ∧ ((97 + j).toUInt8).toNat ≤ 122 := by decide +kernel
theorem chainN {w w0 : World} {o : Obj} (h : w.alloc o = w0) : w0.heap.size = w.heap.size + 1 ∧ w0.heap[w.heap.size]? = some o ∧ Ext w w0 := by
  subst h
  exact ⟨by rw [World.size_alloc], heap_alloc_new w o, (Chg.refl _ _).alloc _⟩
theorem pr_form {w : World} {lo : Nat} {t : Bool} {p : PrD} {cs : Array Value} (h : RdPr w lo t p cs) : ∃ ai ci af cf ao co, cs = #[.int .i64 p.st, .slice ai p.ins.length ci, .slice af p.flows.length cf, .slice ao p.outs.length co] := by
  obtain ⟨vi, vf, vo, rfl, _, hi, hf, ho⟩ := h
  obtain ⟨ai, ci, rfl, _⟩ := hi
  obtain ⟨af, cf, rfl, _⟩ := hf
  obtain ⟨ao, co, rfl, _⟩ := ho
  exact ⟨ai, ci, af, cf, ao, co, rfl⟩
theorem rowSet {α : Type} {f : α → List Value} {sz : Nat} {cur : Array Value} {ps : List α} (h : RowOf f sz cur ps) {k j : Nat} {x x' : α} {u : Value} (hx : ps[k]? = some x) (hj : j < sz) (hs : k * sz + j < cur.size)
    (h1 : ∀ c, c < sz → c ≠ j → (f x')[c]? = (f x)[c]?) (h2 : (f x')[j]? = some u) : RowOf f sz (cur.setIfInBounds (k * sz + j) u) (ps.set k x') := h.set hx hj hs h1 h2
set_option maxRecDepth 100000 in
set_option maxHeartbeats 8000000 in
theorem namesNew_any (p : PrD) (cs : Array Value) (sg : Int) (w : World) (h : RdPr w 0 false p cs) (hsg : isU8 sg) : Calls Try.prog 7 #[.agg cs, .int .u8 sg] w (RetT w) := by
  have HP := Lib.hid h
  obtain ⟨ai, ci, af, cf, ao, co, rfl⟩ := pr_form h
  clear h
  have HA := Lib.hid alive_any
  go_enter Try.func7, Try.ntmps7
  go_wp2_with fail
  have e0 := (Chg.refl (fun _ => False) w).alloc (.cells #[.int .i64 p.st, .slice ai p.ins.length ci, .slice af p.flows.length cf, .slice ao p.outs.length co] 26)
  have bP := heap_alloc_new w (.cells #[.int .i64 p.st, .slice ai p.ins.length ci, .slice af p.flows.length cf, .slice ao p.outs.length co] 26)
  generalize (w.alloc (.cells #[.int .i64 p.st, .slice ai p.ins.length ci, .slice af p.flows.length cf, .slice ao p.outs.length co] 26)) = W0 at *
  have y0 : ∀ X, Ext W0 X → X.cell? ⟨w.heap.size, 0, none⟩ = some (.int .i64 p.st) := fun X hX => (blk_cell (Ext.heap hX bP) 0).trans rfl
  have y1 : ∀ X, Ext W0 X → X.cell? ⟨w.heap.size, 1, none⟩ = some (.slice ai p.ins.length ci) := fun X hX => (blk_cell (Ext.heap hX bP) 1).trans rfl
  have y2 : ∀ X, Ext W0 X → X.cell? ⟨w.heap.size, 2, none⟩ = some (.slice af p.flows.length cf) := fun X hX => (blk_cell (Ext.heap hX bP) 2).trans rfl
  have y3 : ∀ X, Ext W0 X → X.cell? ⟨w.heap.size, 3, none⟩ = some (.slice ao p.outs.length co) := fun X hX => (blk_cell (Ext.heap hX bP) 3).trans rfl
  have ed : ∀ X, Ext W0 X → Ext W0 X.drew := fun X hX => hX.drew
  have ea : ∀ X o, Ext W0 X → Ext W0 (X.alloc o) := fun X o hX => hX.alloc o
  refine (HA.out _).mono ?_
  rintro e w1 ⟨rfl, E1⟩
  have HG := Lib.hid (great_any p _ _ (HP.out.ext (e0.trans E1)))
  go_wp2_with fail
  refine HG.out.mono ?_
  rintro e w2 ⟨b, rfl, E2'⟩
  have F2 := E1.trans E2'
  clear HG E2' E1
  cases b
  case true =>
    go_wp2_with fail
    refine (HA.out _).mono ?_
    rintro e w3 ⟨rfl, E3⟩
    go_wp2_with fail
    go_ret
    exact ⟨rfl, (e0.trans F2).trans E3⟩
  clear HA
  have F3 := F2
  clear F2
  have g0 : 0 ≤ sg ∧ sg ≤ 255 := hsg
  have m1 : 0 ≤ sg % 26 ∧ sg % 26 < 26 := ⟨Int.emod_nonneg _ (by omega), Int.emod_lt_of_pos _ (by omega)⟩
  have htm : sg.tmod 26 = sg % 26 := Int.tmod_eq_emod_of_nonneg g0.1
  obtain ⟨j, hj⟩ : ∃ j : Nat, sg % 26 = j := ⟨(sg % 26).toNat, by omega⟩
  have hj26 : j < 26 := by omega
  have hend := abc_end j hj26
  have hc1 : 97 ≤ ((97 + j).toUInt8).toNat ∧ ((97 + j).toUInt8).toNat ≤ 122 := abc_rng j hj26
  generalize ((97 + j).toUInt8) = c at *
  obtain ⟨hc1, hc2⟩ := hc1
  have hes : (endS c).size = 2 := rfl
  go_upto_region 4 with (fail)
  clear hend m1 htm hj hj26 g0
  have HT := Lib.hid (twinProg2_any p _ w2 (HP.out.ext (e0.trans F3)))
  go_wp2_with fail
  refine HT.out.mono ?_
  rintro e w4 ⟨vi, vf, vo, qs, rfl, ht, hord⟩
  obtain ⟨gi, curI, rfl, hgi0, hgib, hgis⟩ := ht.ins.block
  obtain ⟨gf, curF, rfl, hgf0, hgfb, hgfs⟩ := ht.flows.block
  obtain ⟨go_, curO, rfl, hgo0, hgob, hgos⟩ := ht.outs.block
  obtain ⟨_, _, _, m, e1', e2', e3', hgif, hmg, hgfm, hparts⟩ := hord
  simp only [Value.ownBlock, Option.some.injEq] at e1' e2' e3'
  subst e1' e2' e3'
  have hqs : qs.length = p.flows.length := by rw [← ht.fst, List.length_map]
  have hI := ht.ins.short
  rw [take_flat inC_len] at hI
  obtain ⟨curI, hcurI, hszI, hrowI, hcI1, hcI2, _⟩ := RowOf.own (r := []) (ps := p.ins) inC_len (by simpa using hI)
  have hF := ht.flows.short
  rw [← hqs, take_flat flP_len, hqs] at hF
  obtain ⟨curF, hcurF, hszF, hrowF, hcF1, hcF2, _⟩ := RowOf.own (r := []) (ps := qs) flP_len (by simpa using hF)
  have hO := ht.outs.short
  rw [show (p.outs.map Value.string ++ [Value.string spareS]).take (p.outs.length * 1) = p.outs.flatMap stC from by rw [List.take_append_of_le_length (by simp), List.take_of_length_le (by simp)]; exact st_flat _] at hO
  obtain ⟨curO, hcurO, hszO, hrowO, hcO1, hcO2, _⟩ := RowOf.own (r := []) (ps := p.outs) stC_len (by simpa using hO)
  have hfst := ht.fst
  have F4 := F3.trans ht.ext
  have HPA := Lib.hid hparts
  have HFST := Lib.hid hfst
  clear ht HT hgib hgis hgfb hgfs hgob hgos hI hF hO hparts hfst
  have hgiw : gi < w4.heap.size := lt_of_block hcurI
  have hgfw : gf < w4.heap.size := lt_of_block hcurF
  have hgow : go_ < w4.heap.size := lt_of_block hcurO
  go_upto_region 5 with (fail)
  generalize hV : w4.alloc _ = V
  obtain ⟨sV, bV, eV⟩ := chainN hV
  clear hV
  generalize hQ : w4.heap.size = Q at *
  have F5 := F4.trans eV
  have hcurI := Ext.heap eV hcurI
  have hcurF := Ext.heap eV hcurF
  have hcurO := Ext.heap eV hcurO
  have hPX : ∀ q, q ∈ qs → ∀ X, Chg (fun b => b ≤ gf ∨ m ≤ b) V X → RdExV X 0 false q.1.body.args q.2 := fun q hq X hX => HPA.out q hq X ((eV.mono (fun _ _ h => h.elim)).trans hX)
  have HPX := Lib.hid hPX
  have hF5 := F5.size
  have hF3s := F3.size
  have hi0 : W0.heap.size ≤ gi ∧ W0.heap.size ≤ gf ∧ W0.heap.size ≤ go_ := ⟨by omega, by omega, by omega⟩
  obtain ⟨hi0, hf0, ho0⟩ := hi0
  clear hPX HPA hQ sV
  -- what comes from without
  have ec : ∀ X, Chg (fun q => q = gi) V X → Ext W0 X := fun X h => Ext.then F5 h (fun b hb => by omega)
  have z1 : ∀ X, Chg (fun q => q = gi) V X → X.cell? ⟨Q, 1, none⟩ = some (.slice (some ⟨gi, 0, none⟩) p.ins.length (p.ins.length + 1)) := fun X hX => (blk_cell (hX.heap bV (by omega)) 1).trans rfl
  have er : Chg (fun q => q = gi) V V := Chg.refl _ _
  obtain ⟨_, _, _, eqh, hst, hiR, hfR, hoR⟩ := HP.out
  simp only [Array.mk.injEq, List.cons.injEq, and_true, true_and] at eqh
  obtain ⟨rfl, rfl, rfl⟩ := eqh
  have n1 : p.ins.length ≤ 9000000000000000000 := by obtain ⟨_, _, _, h, _⟩ := hiR; unfold fitsR at h; omega
  have n2 : p.flows.length ≤ 9000000000000000000 := by obtain ⟨_, _, _, h, _⟩ := hfR; unfold fitsR at h; omega
  have n3 : p.outs.length ≤ 9000000000000000000 := by obtain ⟨_, _, _, h, _⟩ := hoR; unfold fitsR at h; omega
  have HFR := Lib.hid hfR
  have HIR := Lib.hid hiR
  have HOR := Lib.hid hoR
  clear hiR hfR hoR
  go_wp2_with fail
  go_loopw [7] (fun i wr => ∃ (k : Nat) (cur : Array Value), k ≤ p.ins.length ∧ i = .int .i64 k ∧ wr.heap[gi]? = some (.cells cur 39 (0, 0)) ∧ cur.size = (p.ins.length + 1) * 3 ∧ RowOf inC 3 cur (mixL (renI c) k p.ins) ∧ (∀ j x, j < k → p.ins[j]? = some x → x.name.size ≤ 38) ∧ Chg (fun q => q = gi) V wr) (fun i _ => p.ins.length - (intOf i).toNat)
  case atStart => exact ⟨0, curI, Nat.zero_le _, rfl, hcurI, hszI, by rw [mixL_zero]; exact hrowI, fun j x hj => absurd hj (Nat.not_lt_zero _), er⟩
  case round =>
    clear hcurI hszI hrowI
    obtain ⟨k, cur, hk, rfl, hcur, hsz, hrow, hsh, hC⟩ := hrel
    have HSH := Lib.hid hsh
    clear hsh
    by_cases hlt : k < p.ins.length
    case pos =>
      have hx := List.getElem?_eq_getElem hlt
      have hq1 : (k : Int) < (p.ins.length : Int) := by omega
      have hmx : (mixL (renI c) k p.ins)[k]? = some p.ins[k] := by rw [mixL_at (Nat.le_refl _)]; exact hx
      have hstep := mixL_step (f := renI c) hx
      have hHI := HIR.out
      obtain ⟨_, _, _, _, _, _, hr, _⟩ := hHI
      obtain ⟨hnm, _⟩ := hr k _ hx
      generalize p.ins[k] = x at *
      have t0 := (blk_cell hcur (k * 3 + 0)).trans (hrow k x hmx 0 (by omega))
      simp only [inC, List.getElem?_cons_zero, Nat.add_zero] at t0
      have f0 := blk_free hcur (k * 3)
      have hEw := ec _ hC
      by_cases h38 : x.name.size ≤ 38
      case neg =>
        have hgt : (38 : Int) < (x.name.size : Int) := by omega
        clear hx hr hmx hstep
        go_wp2_with fail
        go_ret
        exact ⟨rfl, e0.trans hEw⟩
      have hngt : ¬ (38 : Int) < (x.name.size : Int) := by omega
      have hcur2 := blk_set hcur (k * 3) (.string (newS c x.name))
      have hrow2 := hrow.set (k := k) (j := 0) (x := x) (x' := renI c x) (u := .string (newS c x.name)) hmx (by omega) (by omega) (fun q hq hne => by match q, hq with | 0, _ => omega | 1, _ => rfl | 2, _ => rfl | q + 3, hq => omega) rfl
      rw [hstep] at hrow2
      have C2 : Chg (fun q => q = gi) V (wr.setCell ⟨gi, k * 3, none⟩ (.string (newS c x.name))) := hC.setCell _ _ (.inl (Eq.refl _))
      have HSH2 := Lib.hid (fun j y (hj : j < k + 1) (hy : p.ins[j]? = some y) => (by
        by_cases hjk : j < k
        · exact HSH.out j y hjk hy
        · obtain rfl : j = k := by omega
          rw [hx] at hy
          obtain rfl := Option.some.inj hy
          exact h38 : y.name.size ≤ 38))
      have H1 := Lib.hid hcur2
      have H2 := Lib.hid hrow2
      have H3 := Lib.hid C2
      have H4 := Lib.hid hsz
      have eS : x.name ++ endS c = newS c x.name := rfl
      clear hx hr hmx hstep hcur2 hrow2 C2 hrow hcur hsz
      go_upto_region 10 with (fail)
      go_region
      go_wp2_with fail
      go_roundw
      case rel => exact ⟨k + 1, _, by omega, by go_num, H1.out, by rw [Array.size_setIfInBounds]; exact H4.out, H2.out, HSH2.out, H3.out.drew⟩
      case measure => simp [intOf]; omega
    obtain rfl : k = p.ins.length := by omega
    have hshI : ∀ x, x ∈ p.ins → x.name.size ≤ 38 := fun x hx => by
      obtain ⟨j, hj, rfl⟩ := List.getElem_of_mem hx
      exact HSH.out j _ hj (List.getElem?_eq_getElem hj)
    rw [mixL_full] at hrow
    have HSHI := Lib.hid hshI
    have HROWI := Lib.hid hrow
    have hEwI := ec _ hC
    have bV1 := hC.heap bV (by omega)
    have hcurF := hC.heap hcurF (by omega)
    have hcurO := hC.heap hcurO (by omega)
    have HCURI := Lib.hid hcur
    have HPX1 := Lib.hid (fun q (hq : q ∈ qs) (X : World) (hX : Chg (fun b => b ≤ gf ∨ m ≤ b) wr X) => HPX.out q hq X ((hC.mono (fun b _ h => .inl (by omega))).trans hX))
    have hV1 := hC.size
    have z1w := z1 _ hC
    clear hrow hcur hshI HSH z1 ec er hC HPX bV hsz eV
    obtain ⟨V1, rfl⟩ : ∃ V1 : World, V1 = wr := ⟨_, rfl⟩
    have ec : ∀ X, Chg (fun q => q = gf) V1 X → Ext W0 X := fun X h => Ext.then hEwI h (fun b hb => by omega)
    have z2 : ∀ X, Chg (fun q => q = gf) V1 X → X.cell? ⟨Q, 2, none⟩ = some (.slice (some ⟨gf, 0, none⟩) p.flows.length (p.flows.length + 1)) := fun X hX => (blk_cell (hX.heap bV1 (by omega)) 2).trans rfl
    have er : Chg (fun q => q = gf) V1 V1 := Chg.refl _ _
    go_wp2_with fail
    go_loopw [8] (fun i wr => ∃ (k : Nat) (cur : Array Value) (ps : List (FlD × Value)), k ≤ p.flows.length ∧ i = .int .i64 k ∧ wr.heap[gf]? = some (.cells cur 45 (0, 0)) ∧ cur.size = (p.flows.length + 1) * 8 ∧ RowOf flP 8 cur ps ∧ ps.map (·.1) = mixL (renF c) k p.flows ∧
      (∀ j, k ≤ j → ps[j]? = qs[j]?) ∧ (∀ j q, j < k → ps[j]? = some q → ∀ X, Chg (fun b => b = gf ∨ b = go_) wr X → RdExV X 0 false q.1.body.args q.2) ∧ (∀ j x, j < k → p.flows[j]? = some x → x.name.size ≤ 38 ∧ shortE x.body = true) ∧ Chg (fun q => q = gf) V1 wr) (fun i _ => p.flows.length - (intOf i).toNat)
    case atStart => exact ⟨0, curF, qs, Nat.zero_le _, rfl, hcurF, hszF, hrowF, by rw [mixL_zero]; exact HFST.out, fun j _ => rfl, fun j q hj => absurd hj (Nat.not_lt_zero _), fun j x hj => absurd hj (Nat.not_lt_zero _), er⟩
    case round =>
      clear hcurF hszF hrowF z1w
      obtain ⟨k, cur, ps, hk, rfl, hcur, hsz, hrow, hfst, hold, hnew, hsh, hC⟩ := hrel
      have HOLD := Lib.hid hold
      have HNEW := Lib.hid hnew
      have HSH := Lib.hid hsh
      clear hold hnew hsh
      have hpl : ps.length = p.flows.length := by rw [← List.length_map (·.1), hfst, mixL_len]
      by_cases hlt : k < p.flows.length
      case pos =>
        have hx := List.getElem?_eq_getElem hlt
        have hq1 : (k : Int) < (p.flows.length : Int) := by omega
        have hstep := mixL_step (f := renF c) hx
        obtain ⟨u, hpk⟩ : ∃ u, ps[k]? = some (p.flows[k], u) := by
          have h1 : (ps.map (·.1))[k]? = some p.flows[k] := by rw [hfst, mixL_at (Nat.le_refl _)]; exact hx
          rw [List.getElem?_map, List.getElem?_eq_getElem (by omega)] at h1
          simp only [Option.map_some, Option.some.injEq] at h1
          exact ⟨(ps[k]'(by omega)).2, by rw [List.getElem?_eq_getElem (show k < ps.length by omega)]; exact congrArg some (Prod.ext h1 rfl)⟩
        have hqk : (p.flows[k], u) ∈ qs := List.mem_of_getElem? (i := k) (by rw [← HOLD.out k (Nat.le_refl _)]; exact hpk)
        have hfine := HFR.out.fine hx
        generalize p.flows[k] = x at *
        have hrdu := HPX1.out _ hqk
        simp only at hrdu
        obtain ⟨ua, uc, rfl, _⟩ := (hrdu wr (hC.mono (fun b _ h => .inl (by omega)))).form
        have HRDU := Lib.hid hrdu
        have hcell := fun cc (h : cc < 8) => (blk_cell hcur (k * 8 + cc)).trans (hrow k _ hpk cc h)
        have t0 := hcell 0 (by omega)
        have t4 := hcell 4 (by omega)
        have t5 := hcell 5 (by omega)
        have t6 := hcell 6 (by omega)
        have t7 := hcell 7 (by omega)
        simp only [flP, flC, List.getElem?_cons_zero, List.getElem?_cons_succ, Nat.add_zero] at t0 t4 t5 t6 t7
        have t5 : wr.cell? ⟨gf, k * 8 + 4 + 1, none⟩ = some (.int .i64 x.body.n) := t5
        have t6 : wr.cell? ⟨gf, k * 8 + 4 + 2, none⟩ = some (.string x.body.name) := t6
        have t7 : wr.cell? ⟨gf, k * 8 + 4 + 3, none⟩ = some (.slice ua x.body.args.length uc) := t7
        have hEw := ec _ hC
        clear hcell
        by_cases h38 : x.name.size ≤ 38
        case neg =>
          have hgt : (38 : Int) < (x.name.size : Int) := by omega
          clear hx hstep hpk hqk hfst hrow
          go_wp2_with fail
          go_ret
          exact ⟨rfl, e0.trans hEw⟩
        have hngt : ¬ (38 : Int) < (x.name.size : Int) := by omega
        have hsc := short_any x.body _ wr (hrdu wr (hC.mono (fun b _ h => .inl (by omega))))
        cases hse : shortE x.body
        case false =>
          rw [hse] at hsc
          clear hx hstep hpk hqk hfst hrow hse
          go_wp2_with fail
          refine hsc.mono ?_
          rintro e w5 ⟨rfl, E5⟩
          go_wp2_with fail
          go_ret
          exact ⟨rfl, e0.trans (hEw.trans E5)⟩
        rw [hse] at hsc
        have HSE := Lib.hid hse
        have HX := Lib.hid hx
        have HPK := Lib.hid hpk
        have HFS := Lib.hid hfst
        have HST := Lib.hid hstep
        clear hx hstep hqk hse hrdu
        go_wp2_with fail
        refine hsc.mono ?_
        rintro e w5 ⟨rfl, E5⟩
        have hcur5 := Ext.heap E5 hcur
        have C5 := chg_extN hC E5
        have t0' := Ext.cell E5 t0
        have f0 := blk_free hcur5 (k * 8)
        have eS : x.name ++ endS c = newS c x.name := rfl
        clear hsc t0 t4 t5 t6 t7
        go_upto_region 16 with (fail)
        go_region
        have hcur6 := blk_set hcur5 (k * 8) (.string (newS c x.name))
        have hrow6 := hrow.set (k := k) (j := 0) (x := (x, .slice ua x.body.args.length uc)) (x' := (⟨newS c x.name, x.ty, x.st, x.df, x.body⟩, .slice ua x.body.args.length uc)) (u := .string (newS c x.name)) hpk (by omega) (by omega) (fun q hq hne => by match q, hq with | 0, _ => omega | 1, _ => rfl | 2, _ => rfl | 3, _ => rfl | 4, _ => rfl | 5, _ => rfl | 6, _ => rfl | 7, _ => rfl | q + 8, hq => omega) rfl
        have C6 : Chg (fun q => q = gf) V1 (w5.setCell ⟨gf, k * 8, none⟩ (.string (newS c x.name))).drew := (C5.setCell _ _ (.inl (Eq.refl _))).drew
        have hcur6 : (w5.setCell ⟨gf, k * 8, none⟩ (.string (newS c x.name))).drew.heap[gf]? = _ := hcur6
        have D6 : Chg (fun q => q = gf) wr (w5.setCell ⟨gf, k * 8, none⟩ (.string (newS c x.name))).drew := (((E5.mono (fun _ _ h => h.elim)).trans ((Chg.refl _ _).setCell _ _ (.inl (Eq.refl _)))) : Chg (fun q => q = gf) wr _).drew
        have hsz6 : (cur.setIfInBounds (k * 8) (.string (newS c x.name))).size = (p.flows.length + 1) * 8 := by rw [Array.size_setIfInBounds]; exact hsz
        clear hcur hrow hcur5 C5 t0' f0 E5 hC hEw hsz
        generalize (w5.setCell ⟨gf, k * 8, none⟩ (.string (newS c x.name))).drew = W6 at *
        have hrow6 : RowOf flP 8 (cur.setIfInBounds (k * 8) (.string (newS c x.name))) (ps.set k (⟨newS c x.name, x.ty, x.st, x.df, x.body⟩, .slice ua x.body.args.length uc)) := hrow6
        generalize (cur.setIfInBounds (k * 8) (.string (newS c x.name))) = cur6 at *
        have hpk6 : (ps.set k ((⟨newS c x.name, x.ty, x.st, x.df, x.body⟩ : FlD), Value.slice ua x.body.args.length uc))[k]? = some (⟨newS c x.name, x.ty, x.st, x.df, x.body⟩, .slice ua x.body.args.length uc) := List.getElem?_set_self (by omega)
        have hcell := fun cc (h : cc < 8) X (hX : Ext W6 X) => (blk_cell (Ext.heap hX hcur6) (k * 8 + cc)).trans (hrow6 k _ hpk6 cc h)
        have t4 := hcell 4 (by omega)
        have t5 := hcell 5 (by omega)
        have t6 := hcell 6 (by omega)
        have t7 := hcell 7 (by omega)
        simp only [flP, flC, List.getElem?_cons_zero, List.getElem?_cons_succ] at t4 t5 t6 t7
        have t5 : ∀ X, Ext W6 X → X.cell? ⟨gf, k * 8 + 4 + 1, none⟩ = some (.int .i64 x.body.n) := t5
        have t6 : ∀ X, Ext W6 X → X.cell? ⟨gf, k * 8 + 4 + 2, none⟩ = some (.string x.body.name) := t6
        have t7 : ∀ X, Ext W6 X → X.cell? ⟨gf, k * 8 + 4 + 3, none⟩ = some (.slice ua x.body.args.length uc) := t7
        have f4 : ∀ X, Ext W6 X → X.frozen? ⟨gf, k * 8 + 4, none⟩ = false := fun X hX => blk_free (Ext.heap hX hcur6) _
        have f5 : ∀ X, Ext W6 X → X.frozen? ⟨gf, k * 8 + 4 + 1, none⟩ = false := fun X hX => blk_free (Ext.heap hX hcur6) _
        have f6 : ∀ X, Ext W6 X → X.frozen? ⟨gf, k * 8 + 4 + 2, none⟩ = false := fun X hX => blk_free (Ext.heap hX hcur6) _
        have f7 : ∀ X, Ext W6 X → X.frozen? ⟨gf, k * 8 + 4 + 3, none⟩ = false := fun X hX => blk_free (Ext.heap hX hcur6) _
        have HTC := Lib.hid (fun (X : World) (hX : Ext W6 X) => turned_any c x.body (.slice ua x.body.args.length uc) X ⟨hfine.2.2.2.2.1, hfine.2.2.2.2.2.1, hfine.2.2.2.2.2.2⟩ (HRDU.out X ((chg_extN C6 hX).mono (fun b _ h => .inl (by omega)))) HSE.out)
        have hfn : ExFine (renE c x.body) := ren_fine ⟨hfine.2.2.2.2.1, hfine.2.2.2.2.2.1, hfine.2.2.2.2.2.2⟩ HSE.out
        have HFN := Lib.hid hfn
        have HRF : Hid (renF c x = ⟨newS c x.name, x.ty, x.st, x.df, renE c x.body⟩) := by show _ = _; rfl
        unfold RetTn at HTC
        generalize renE c x.body = y at *
        have HR6 := Lib.hid hrow6
        have HP6 := Lib.hid hpk6
        have G0 : Chg (fun q => q = gf) V1 W6 := C6
        have L0 : Ext W6 W6 := Chg.refl _ _
        have ed : ∀ X, Ext W6 X → Ext W6 X.drew := fun X hX => hX.drew
        have gd : ∀ X, Chg (fun q => q = gf) V1 X → Chg (fun q => q = gf) V1 X.drew := fun X hX => hX.drew
        have L0d := L0.drew
        have G0d := G0.drew
        clear hcell hrow6 hpk6 hfn hpk
        go_upto_region 17 with (fail)
        go_region_with (go_at_call 20; refine (HTC.out _ (by assumption)).mono ?_; rintro e w7 ⟨u7, rfl, hu7, E7⟩; obtain ⟨ub, uc2, rfl, _⟩ := hu7.form; have G1 : Chg (fun q => q = gf) V1 w7 := chg_extN G0d E7; have L1 : Ext W6 w7 := L0d.trans E7)
        all_goals (
          have hg6 := lt_of_block hcur6
          have hgo6 := lt_of_block hcurO
          have hsC6 := C6.size
          have hcur7 := blk_setB (Ext.heap L1 hcur6) (k * 8) (.int .u8 y.op) (.int .i64 y.n) (.string y.name) (.slice ub y.args.length uc2)
          have C7 := chg_setB w7 gf (k * 8) (.int .u8 y.op) (.int .i64 y.n) (.string y.name) (.slice ub y.args.length uc2)
          have hrow7 := HR6.out.setB (b := y) (u' := .slice ub y.args.length uc2) HP6.out (by omega)
          rw [List.set_set, ← HRF.out] at hrow7
          have hD6 := D6.size
          have hD7 : Chg (fun q => q = gf) wr _ := (D6.trans (L1.mono (fun _ _ h => h.elim))).trans C7
          have HNEW2 : Hid (∀ j q, j < k + 1 → (ps.set k (renF c x, Value.slice ub y.args.length uc2))[j]? = some q → ∀ X, Chg (fun b => b = gf ∨ b = go_) ((((w7.setCell ⟨gf, k * 8 + 4, none⟩ (.int .u8 y.op)).setCell ⟨gf, k * 8 + 4 + 1, none⟩ (.int .i64 y.n)).setCell ⟨gf, k * 8 + 4 + 2, none⟩ (.string y.name)).setCell ⟨gf, k * 8 + 4 + 3, none⟩ (.slice ub y.args.length uc2)) X → RdExV X 0 false q.1.body.args q.2) := by
            show ∀ _ _, _
            intro j q hj hq X hX
            by_cases hjk : j < k
            · rw [List.getElem?_set_ne (by omega)] at hq
              exact HNEW.out j q hjk hq X ((hD7.mono (fun b _ h => .inl h)).trans hX)
            · obtain rfl : j = k := by omega
              rw [List.getElem?_set_self (by omega)] at hq
              obtain rfl := Option.some.inj hq
              rw [HRF.out]
              have h8 : Chg (fun b => b = gf ∨ b = go_) w7 X := (C7.mono (fun b _ h => .inl h)).trans hX
              exact (hu7.far h8 (fun b hb => by show b < W6.heap.size; omega)).lower (Nat.zero_le _)
          have HOLD2 := Lib.hid (fun j (hj : k + 1 ≤ j) => (by rw [List.getElem?_set_ne (by omega)]; exact HOLD.out j (by omega) : (ps.set k (renF c x, Value.slice ub y.args.length uc2))[j]? = qs[j]?))
          have HFS2 : Hid ((ps.set k (renF c x, Value.slice ub y.args.length uc2)).map (·.1) = mixL (renF c) (k + 1) p.flows) := by show _ = _; rw [List.map_set, HFS.out]; exact HST.out
          have HSH2 := Lib.hid (fun j z (hj : j < k + 1) (hz : p.flows[j]? = some z) => (by
            by_cases hjk : j < k
            · exact HSH.out j z hjk hz
            · obtain rfl : j = k := by omega
              rw [HX.out] at hz
              obtain rfl := Option.some.inj hz
              exact ⟨h38, HSE.out⟩ : z.name.size ≤ 38 ∧ shortE z.body = true))
          have H1 := Lib.hid hcur7
          have H2 := Lib.hid hrow7
          have H3 := Lib.hid (G1.trans C7)
          have H4 := Lib.hid ((setB_size cur6 (k * 8) (.int .u8 y.op) (.int .i64 y.n) (.string y.name) (.slice ub y.args.length uc2)).trans hsz6)
          clear hcur7 C7 hrow7 hD7 G1 L1 hu7 E7 G0 L0 G0d L0d t4 t5 t6 t7 f4 f5 f6 f7 hcur6 HTC
          go_wp2_with fail
          go_roundw
          case rel => exact ⟨k + 1, _, _, by omega, by go_num, H1.out, H4.out, H2.out, HFS2.out, HOLD2.out, HNEW2.out, HSH2.out, H3.out⟩
          case measure => simp [intOf]; omega)
      obtain rfl : k = p.flows.length := by omega
      have HSHF := Lib.hid (fun x (hx : x ∈ p.flows) => (by
        obtain ⟨j, hj, rfl⟩ := List.getElem_of_mem hx
        exact HSH.out j _ hj (List.getElem?_eq_getElem hj) : x.name.size ≤ 38 ∧ shortE x.body = true))
      rw [mixL_full] at hfst
      have HFST2 := Lib.hid hfst
      have HROWF := Lib.hid hrow
      have HPS := Lib.hid (fun q (hq : q ∈ ps) => (by
        obtain ⟨j, hj, rfl⟩ := List.getElem_of_mem hq
        exact HNEW.out j _ (by omega) (List.getElem?_eq_getElem hj) : ∀ X, Chg (fun b => b = gf ∨ b = go_) wr X → RdExV X 0 false q.1.body.args q.2))
      have hEwF := ec _ hC
      have bV2 := hC.heap bV1 (by omega)
      have hcurO := hC.heap hcurO (by omega)
      have HCURI := Lib.hid (hC.heap HCURI.out (by omega))
      have HCURF := Lib.hid hcur
      have hV2 := hC.size
      have z2w := z2 _ hC
      clear hrow hcur HSH HNEW HOLD z2 ec er hC bV1 hsz hfst
      obtain ⟨V2, rfl⟩ : ∃ V2 : World, V2 = wr := ⟨_, rfl⟩
      have ec : ∀ X, Chg (fun q => q = go_) V2 X → Ext W0 X := fun X h => Ext.then hEwF h (fun b hb => by omega)
      have z3 : ∀ X, Chg (fun q => q = go_) V2 X → X.cell? ⟨Q, 3, none⟩ = some (.slice (some ⟨go_, 0, none⟩) p.outs.length (p.outs.length + 1)) := fun X hX => (blk_cell (hX.heap bV2 (by omega)) 3).trans rfl
      have er : Chg (fun q => q = go_) V2 V2 := Chg.refl _ _
      go_wp2_with fail
      go_loopw [9] (fun i wr => ∃ (k : Nat) (cur : Array Value), k ≤ p.outs.length ∧ i = .int .i64 k ∧ wr.heap[go_]? = some (.cells cur 9 (0, 0)) ∧ cur.size = (p.outs.length + 1) * 1 ∧ RowOf stC 1 cur (mixL (newS c) k p.outs) ∧ (∀ j x, j < k → p.outs[j]? = some x → x.size ≤ 38) ∧ Chg (fun q => q = go_) V2 wr) (fun i _ => p.outs.length - (intOf i).toNat)
      case atStart => exact ⟨0, curO, Nat.zero_le _, rfl, hcurO, hszO, by rw [mixL_zero]; exact hrowO, fun j x hj => absurd hj (Nat.not_lt_zero _), er⟩
      case round =>
        clear hcurO hszO hrowO z2w
        obtain ⟨k, cur, hk, rfl, hcur, hsz, hrow, hsh, hC⟩ := hrel
        have HSH := Lib.hid hsh
        clear hsh
        by_cases hlt : k < p.outs.length
        case pos =>
          have hx := List.getElem?_eq_getElem hlt
          have hq1 : (k : Int) < (p.outs.length : Int) := by omega
          have hmx : (mixL (newS c) k p.outs)[k]? = some p.outs[k] := by rw [mixL_at (Nat.le_refl _)]; exact hx
          have hstep := mixL_step (f := newS c) hx
          generalize p.outs[k] = x at *
          have t0 := (blk_cell hcur (k * 1 + 0)).trans (hrow k x hmx 0 (by omega))
          simp only [stC, List.getElem?_cons_zero, Nat.add_zero, Nat.mul_one] at t0
          have f0 := blk_free hcur k
          have hEw := ec _ hC
          by_cases h38 : x.size ≤ 38
          case neg =>
            have hgt : (38 : Int) < (x.size : Int) := by omega
            clear hx hmx hstep
            go_wp2_with fail
            go_ret
            exact ⟨rfl, e0.trans hEw⟩
          have hngt : ¬ (38 : Int) < (x.size : Int) := by omega
          have hcur2 := blk_set hcur k (.string (newS c x))
          have hrow2 := hrow.set (k := k) (j := 0) (x := x) (x' := newS c x) (u := .string (newS c x)) hmx (by omega) (by omega) (fun q hq hne => by omega) rfl
          rw [hstep, Nat.mul_one, Nat.add_zero] at hrow2
          have C2 : Chg (fun q => q = go_) V2 (wr.setCell ⟨go_, k, none⟩ (.string (newS c x))) := hC.setCell _ _ (.inl (Eq.refl _))
          have HSH2 := Lib.hid (fun j y (hj : j < k + 1) (hy : p.outs[j]? = some y) => (by
            by_cases hjk : j < k
            · exact HSH.out j y hjk hy
            · obtain rfl : j = k := by omega
              rw [hx] at hy
              obtain rfl := Option.some.inj hy
              exact h38 : y.size ≤ 38))
          have H1 := Lib.hid hcur2
          have H2 := Lib.hid hrow2
          have H3 := Lib.hid C2
          have H4 := Lib.hid hsz
          have eS : x ++ endS c = newS c x := rfl
          clear hx hmx hstep hcur2 hrow2 C2 hrow hcur hsz
          go_upto_region 23 with (fail)
          go_region
          go_wp2_with fail
          go_roundw
          case rel => exact ⟨k + 1, _, by omega, by go_num, H1.out, by rw [Array.size_setIfInBounds]; exact H4.out, H2.out, HSH2.out, H3.out.drew⟩
          case measure => simp [intOf]; omega
        obtain rfl : k = p.outs.length := by omega
        rw [mixL_full] at hrow
        have hshO : ∀ x, x ∈ p.outs → x.size ≤ 38 := fun x hx => by
          obtain ⟨j, hj, rfl⟩ := List.getElem_of_mem hx
          exact HSH.out j _ hj (List.getElem?_eq_getElem hj)
        have hsP : ShortP p := ⟨HSHI.out, HSHF.out, hshO⟩
        have hfl : ps.length = p.flows.length := hpl
        have HRQ : Hid (∀ X, Ext wr X → RdPr X 0 false (renP c p) #[.int .i64 p.st, .slice (some ⟨gi, 0, none⟩) p.ins.length (p.ins.length + 1), .slice (some ⟨gf, 0, none⟩) p.flows.length (p.flows.length + 1), .slice (some ⟨go_, 0, none⟩) p.outs.length (p.outs.length + 1)]) := by
          show ∀ _, _
          intro X hX
          have hCX := chg_extN hC hX
          obtain ⟨_, _, _, i1, _, _, i4, _⟩ := HIR.out
          obtain ⟨_, _, _, f1, _, _, _, _⟩ := HFR.out
          obtain ⟨_, _, _, o1, _, _, _, _⟩ := HOR.out
          have r1 := HROWI.out.rdIn (w := X) (cap := p.ins.length + 1) (hCX.heap HCURI.out (by omega)) (fun x hx => by
            obtain ⟨y, hy, rfl⟩ := List.mem_map.1 hx
            obtain ⟨j, hj, rfl⟩ := List.getElem_of_mem hy
            obtain ⟨_, h2, h3, _⟩ := i4 j _ (List.getElem?_eq_getElem hj)
            refine ⟨?_, h2, h3⟩
            show (newS c _).size ≤ maxLen
            rw [newS_size]
            have := HSHI.out _ hy
            unfold maxLen; omega) (by rw [List.length_map]; omega) (by unfold maxLen; omega) (by rw [List.length_map]; exact i1)
          have r2 := HROWF.out.rdFl (w0 := X) (w := X) (cap := p.flows.length + 1) (hCX.heap HCURF.out (by omega)) (Chg.refl _ _) (fun q hq => by
            refine ⟨?_, HPS.out q hq X (hCX.mono (fun b _ h => .inr h))⟩
            have hm : q.1 ∈ p.flows.map (renF c) := by rw [← HFST2.out]; exact List.mem_map.2 ⟨q, hq, rfl⟩
            obtain ⟨y, hy, e⟩ := List.mem_map.1 hm
            obtain ⟨j, hj, rfl⟩ := List.getElem_of_mem hy
            obtain ⟨a1, a2, a3, a4, a5, a6, a7⟩ := HFR.out.fine (List.getElem?_eq_getElem hj)
            have hs2 := HSHF.out _ hy
            have hb := ren_fine (c := c) ⟨a5, a6, a7⟩ hs2.2
            rw [← e]
            refine ⟨?_, a2, a3, a4, hb.1, hb.2.1, hb.2.2⟩
            show (newS c _).size ≤ maxLen
            rw [newS_size]
            unfold maxLen; omega) (by omega) (by unfold maxLen; omega) (by rw [hfl]; exact f1)
          have r3 := hrow.rdStr (w := X) (cap := p.outs.length + 1) (Ext.heap hX hcur) (fun x hx => by
            obtain ⟨y, hy, rfl⟩ := List.mem_map.1 hx
            rw [newS_size]
            have := hshO _ hy
            unfold maxLen; omega) (by rw [List.length_map]; omega) (by unfold maxLen; omega) (by rw [List.length_map]; exact o1)
          rw [List.length_map] at r1 r3
          rw [HFST2.out, hfl] at r2
          exact ⟨_, _, _, rfl, hst, r1, r2, r3⟩
        have hEw := ec _ hC
        have bV3 := hC.heap bV2 (by omega)
        have HCF3 := Lib.hid (hC.heap HCURF.out (by omega))
        have z3w := z3 _ hC
        have HRN := Lib.hid (fun (h : namesP p ≠ 1) => names_ren hc1 hc2 hsP h)
        clear hrow hcur hsz HSH z3 ec er hshO hsP bV2
        have s0 : ∀ X, Ext wr X → X.cell? ⟨Q, 0, none⟩ = some (.int .i64 p.st) := fun X hX => (blk_cell (Ext.heap hX bV3) 0).trans rfl
        have s1 : ∀ X, Ext wr X → X.cell? ⟨Q, 1, none⟩ = some (.slice (some ⟨gi, 0, none⟩) p.ins.length (p.ins.length + 1)) := fun X hX => (blk_cell (Ext.heap hX bV3) 1).trans rfl
        have s2 : ∀ X, Ext wr X → X.cell? ⟨Q, 2, none⟩ = some (.slice (some ⟨gf, 0, none⟩) p.flows.length (p.flows.length + 1)) := fun X hX => (blk_cell (Ext.heap hX bV3) 2).trans rfl
        have s3 : ∀ X, Ext wr X → X.cell? ⟨Q, 3, none⟩ = some (.slice (some ⟨go_, 0, none⟩) p.outs.length (p.outs.length + 1)) := fun X hX => (blk_cell (Ext.heap hX bV3) 3).trans rfl
        replace y0 := fun X (hX : Ext wr X) => y0 X (hEw.trans hX)
        replace y1 := fun X (hX : Ext wr X) => y1 X (hEw.trans hX)
        replace y2 := fun X (hX : Ext wr X) => y2 X (hEw.trans hX)
        replace y3 := fun X (hX : Ext wr X) => y3 X (hEw.trans hX)
        have er : Ext wr wr := Chg.refl _ _
        have HC1 := Lib.hid (fun (X : World) (hX : Ext wr X) => nCheck_any p _ X (HP.out.ext (e0.trans (hEw.trans hX))))
        have HC2 := Lib.hid (fun (X : World) (hX : Ext wr X) => nCheck_any (renP c p) _ X (HRQ.out X hX))
        have ed : ∀ X, Ext wr X → Ext wr X.drew := fun X hX => hX.drew
        unfold RetE at HC1 HC2
        clear bV3
        obtain ⟨V3, rfl⟩ : ∃ V3 : World, V3 = wr := ⟨_, rfl⟩
        by_cases hn1 : namesP p = 1
        case pos =>
          rw [hn1] at HC1
          clear hn1
          go_wp2_with fail
          refine (HC1.out _ er).mono ?_
          rintro e w5 ⟨rfl, E5⟩
          go_wp2_with fail
          go_ret
          exact ⟨rfl, e0.trans (hEw.trans E5)⟩
        have hrn := HRN.out hn1
        rw [hrn] at HC2
        have bn1 : (namesP p == 1) = false := by simpa using hn1
        have bnn : (namesP p != namesP p) = false := by simp
        generalize namesP p = nn at *
        clear hrn hn1 HRN
        go_wp2_with fail
        refine (HC1.out _ er).mono ?_
        rintro e w5 ⟨rfl, E5⟩
        have G0 := ed _ E5
        go_upto_region 26 with (fail)
        go_region_held3 (fun X => Ext V3 X) (first | assumption)
          (first
            | (have _ := G1; go_at_call 15; refine (HC2.out _ G1).mono ?_; rintro e w7 ⟨rfl, E7⟩; have G2 := G1.trans E7)
            | (have _ := G0; go_at_call 15; refine (HC1.out _ G0).mono ?_; rintro e w6 ⟨rfl, E6⟩; have G1 := G0.trans E6))
        have HFI := Lib.hid (fun (nm : ByteArray) (X : World) (hX : Ext V3 X) => find_any p nm _ X (HP.out.ext (e0.trans (hEw.trans hX))))
        have HFQ := Lib.hid (fun (nm : ByteArray) (X : World) (hX : Ext V3 X) => find_any (renP c p) nm _ X (HRQ.out X hX))
        clear HC1 HC2 G0 G1 E5 E6 E7
        go_wp2_with fail
        go_loopw [10] (fun i wr => ∃ k : Nat, k ≤ p.flows.length ∧ i = .int .i64 k ∧ Ext V3 wr) (fun i _ => p.flows.length - (intOf i).toNat)
        case atStart => exact ⟨0, Nat.zero_le _, rfl, G2⟩
        case round =>
          clear G2
          obtain ⟨k, hk, rfl, hE⟩ := hrel
          by_cases hlt : k < p.flows.length
          case pos =>
            have hx := List.getElem?_eq_getElem hlt
            have hq1 : (k : Int) < (p.flows.length : Int) := by omega
            obtain ⟨u, hpk⟩ : ∃ u, ps[k]? = some (renF c p.flows[k], u) := by
              have h1 : (ps.map (·.1))[k]? = some (renF c p.flows[k]) := by rw [HFST2.out, List.getElem?_map, hx]; rfl
              rw [List.getElem?_map, List.getElem?_eq_getElem (by omega)] at h1
              simp only [Option.map_some, Option.some.injEq] at h1
              exact ⟨(ps[k]'(by omega)).2, by rw [List.getElem?_eq_getElem (show k < ps.length by omega)]; exact congrArg some (Prod.ext h1 rfl)⟩
            have hq : ∀ X, Ext wr X → X.cell? ⟨gf, k * 8, none⟩ = some (.string (newS c p.flows[k].name)) := fun X (hX : Ext wr X) => (blk_cell (Ext.heap (hE.trans hX) HCF3.out) (k * 8 + 0)).trans (HROWF.out k _ hpk 0 (by omega))
            obtain ⟨_, _, e, _, _, _, hr, _⟩ := HFR.out
            simp only [Value.slice.injEq, true_and] at e
            obtain ⟨rfl, rfl⟩ := e
            obtain ⟨_, _, _, _, b, o, rfl, _, _, c0, _⟩ := hr k _ hx
            have d0 : ∀ X, Ext wr X → X.cell? ⟨b, o + k * 8, none⟩ = some (.string p.flows[k].name) := fun X hX => Ext.cell (e0.trans (hEw.trans (hE.trans hX))) c0
            generalize p.flows[k].name = nm at *
            have hf1 := fun X (hX : Ext wr X) => HFI.out nm X (hE.trans hX)
            have hf2 := fun X (hX : Ext wr X) => HFQ.out (newS c nm) X (hE.trans hX)
            unfold RetFind fourV at hf1 hf2
            rw [find_ren c nm p] at hf2
            obtain ⟨⟨fa, fb, fc, fd⟩, hfq⟩ : ∃ q : Int × Int × Int × Bool, findP nm p.flows p.ins = q := ⟨_, rfl⟩
            rw [hfq] at hf1 hf2
            simp only at hf1 hf2
            have HF1 := Lib.hid hf1
            have HF2 := Lib.hid hf2
            have G0 : Ext wr wr.drew := (Chg.refl _ _).drew
            have ed : ∀ X, Ext wr X → Ext wr X.drew := fun X hX => hX.drew
            have r0 := fun X (hX : Ext wr X) => s0 X (hE.trans hX)
            have r1 := fun X (hX : Ext wr X) => s1 X (hE.trans hX)
            have r2 := fun X (hX : Ext wr X) => s2 X (hE.trans hX)
            have r3 := fun X (hX : Ext wr X) => s3 X (hE.trans hX)
            have v0 := fun X (hX : Ext wr X) => y0 X (hE.trans hX)
            have v1 := fun X (hX : Ext wr X) => y1 X (hE.trans hX)
            have v2 := fun X (hX : Ext wr X) => y2 X (hE.trans hX)
            have v3 := fun X (hX : Ext wr X) => y3 X (hE.trans hX)
            have b1 : (fa != fa) = false := by simp
            have b2 : (fb != fb) = false := by simp
            have b3 : (fc != fc) = false := by simp
            have b4 : (fd != fd) = false := by simp
            have HR0 := Lib.hid r0
            have HR1 := Lib.hid r1
            have HR2 := Lib.hid r2
            have HR3 := Lib.hid r3
            have HQ := Lib.hid hq
            have HB := Lib.hid (show (fa != fa) = false ∧ (fb != fb) = false ∧ (fc != fc) = false ∧ (fd != fd) = false from ⟨b1, b2, b3, b4⟩)
            have HY2 := Lib.hid v2
            clear hf1 hf2 hx hpk hr c0 hfq r0 r1 r2 r3 hq b1 b2 b3 b4 y0 y1 y2 y3 s0 s1 s2 s3 z3w
            have erw : Ext wr wr := Chg.refl _ _
            go_upto_region 31 with (fail)
            go_region_held3 (fun X => Ext wr X) (first | assumption)
              (first
                | (go_at_call 12; refine (HF1.out _ G0).mono ?_; rintro e w6 ⟨rfl, E6⟩; have G1 := G0.trans E6))
            have G2 := ed _ G1
            clear v0 v1 v2 v3 d0 HF1 E6 G0
            go_upto_region 32 with (fail)
            have r0 := HR0.out
            have r1 := HR1.out
            have r2 := HR2.out
            have r3 := HR3.out
            have hq := HQ.out
            go_region_held3 (fun X => Ext wr X) (first | assumption)
              (first
                | (go_at_call 12; refine (HF2.out _ G2).mono ?_; rintro e w7 ⟨rfl, E7⟩; have G3 := G2.trans E7))
            have G4 := hE.trans G3
            obtain ⟨b1, b2, b3, b4⟩ := HB.out
            clear G1 G2 G3 E7 r0 r1 r2 r3 hq HR0 HR1 HR2 HR3 HF2
            go_wp2_with fail
            go_roundw
            case rel => exact ⟨k + 1, by omega, by go_num, G4⟩
            case measure => simp [intOf]; omega
          obtain rfl : k = p.flows.length := by omega
          go_wp2_with fail
          go_ret
          exact ⟨rfl, e0.trans (hEw.trans hE)⟩
end Go.Proofs.Ytgdlocjocjamgaa
