/- What stands in this text: PlacesW, CodeD, CodeApp. -/
import Derived.Test.YtgkbhonjodcakaaGreatJ5
import Derived.Test.YtgkbhonjodcakaaGreatJ9
import Derived.Deep.Cut
import Derived.Deep.RegionHeld3
import Derived.Maps.AppendAt
namespace Go.Proofs.YtgkbhonjodcakaaGreat
open Go.RowKit
set_option linter.unusedVariables false
set_option linter.unusedSimpArgs false

def plC (x : PlD) : List Value := [.string x.name, .int .u8 x.ty, .int .i64 x.keep, .bool x.far, .int .i64 x.frm, .int .i64 x.df]
theorem plC_len (x : PlD) : (plC x).length = 6 := rfl
theorem infoPl : (Tryz.prog.info? 51).map (fun i => (i.zero, i.size, i.bytes)) = some (some (.agg #[.string ByteArray.empty, .int .u8 0, .int .i64 0, .bool false, .int .i64 0, .int .i64 0]), 6, 56) := by kernel_rfl
/-- A list of places of one's own. -/
def PlO (w : World) (base : Nat) (l : List PlD) (v : Value) : Prop := w.ownsRow base 51 6 v l.length (l.flatMap plC)
theorem PlO.nil (w : World) (base : Nat) : PlO w base [] (.slice none 0 0) := World.ownsRow_nil _ _ _ _
theorem PlO.form {w : World} {base : Nat} {l : List PlD} {v : Value} (h : PlO w base l v) : ∃ a cap, v = .slice a l.length cap := by
  rcases h.2 with ⟨h0, h1⟩ | ⟨g, cap, cur, h1, _⟩
  · exact ⟨none, 0, by rw [h0, h1]⟩
  · exact ⟨_, _, h1⟩
theorem PlO.ext {w w' : World} {base : Nat} {l : List PlD} {v : Value} (h : PlO w base l v) (he : Ext w w') : PlO w' base l v := ownsRow_ext h he
theorem PlO.rows {w : World} {base : Nat} {l : List PlD} {v : Value} (h : PlO w base l v) : ∀ g, v.ownBlock = some g → base ≤ g := fun g hg => (World.ownsRow.lt h g hg).1
theorem PlO.len_eq {w : World} {base k : Nat} {l : List PlD} {v : Value} (_ : PlO w base l v) (h : l.length = k) : l.length = k := h
theorem PlO.snoc {w : World} {base : Nat} {l : List PlD} {x : PlD} {v : Value} (h : w.ownsRow base 51 6 v (l.length + 1) (l.flatMap plC ++ plC x)) : PlO w base (l ++ [x]) v := by
  unfold PlO
  rw [List.length_append, List.flatMap_append]
  simpa using h
/-- A list of places in a block that is new behind base. -/
def PlV (w : World) (base : Nat) (l : List PlD) (v : Value) : Prop := (v = .slice none 0 0 ∧ l = []) ∨ ∃ (g cap : Nat) (cur : Array Value), v = .slice (some ⟨g, 0, none⟩) l.length cap ∧ base ≤ g ∧ w.heap[g]? = some (.cells cur 51 (0, 0)) ∧ l.length ≤ cap ∧ cap * 6 ≤ cur.size ∧ cap ≤ maxLen ∧ RowOf plC 6 cur l
theorem PlV.of {w : World} {base : Nat} {l : List PlD} {v : Value} (h : PlO w base l v) : PlV w base l v := by
  have h0 := h
  rcases h.2 with ⟨h1, h2⟩ | ⟨g, cap, cur, h1, h2, _⟩
  · exact .inl ⟨h1, List.length_eq_zero_iff.1 h2⟩
  · subst h1
    obtain ⟨cur, a1, a2, a3, a4, a5, a6⟩ := RowOf.own (r := []) plC_len (by simpa [PlO] using h0)
    exact .inr ⟨g, cap, cur, rfl, a6, a1, a4, by omega, a5, a3⟩
theorem PlV.form {w : World} {base : Nat} {l : List PlD} {v : Value} (h : PlV w base l v) : ∃ a cap, v = .slice a l.length cap ∧ l.length ≤ cap ∧ cap ≤ maxLen := by
  rcases h with ⟨h0, rfl⟩ | ⟨g, cap, cur, h1, _, _, h4, _, h5, _⟩
  · exact ⟨none, 0, h0, Nat.le_refl _, Nat.zero_le _⟩
  · exact ⟨_, _, h1, h4, h5⟩
theorem PlV.chg {w w' : World} {base : Nat} {l : List PlD} {v : Value} {S : Nat → Prop} (h : PlV w base l v) (hc : Chg S w w') (hS : ∀ g, v.ownBlock = some g → ¬ S g) : PlV w' base l v := by
  rcases h with h | ⟨g, cap, cur, h1, h2, h3, h4⟩
  · exact .inl h
  · exact .inr ⟨g, cap, cur, h1, h2, hc.heap h3 (hS g (by rw [h1]; rfl)), h4⟩
theorem PlV.ext {w w' : World} {base : Nat} {l : List PlD} {v : Value} (h : PlV w base l v) (hc : Ext w w') : PlV w' base l v := h.chg hc (fun _ _ h => h)
theorem PlV.base {w : World} {base base' : Nat} {l : List PlD} {v : Value} (h : PlV w base l v) (hb : base' ≤ base) : PlV w base' l v := by
  rcases h with h | ⟨g, cap, cur, h1, h2, h3, h4⟩
  · exact .inl h
  · exact .inr ⟨g, cap, cur, h1, Nat.le_trans hb h2, h3, h4⟩
theorem PlV.get {w : World} {base n : Nat} {l : List PlD} {a : Option Addr} {cap : Nat} (h : PlV w base l (.slice a n cap)) {i : Nat} {x : PlD} (hs : l[i]? = some x) : ∃ g, a = some ⟨g, 0, none⟩ ∧ base ≤ g ∧ g < w.heap.size ∧ ∀ c, c < 6 → w.cell? ⟨g, i * 6 + c, none⟩ = (plC x)[c]? := by
  rcases h with ⟨_, rfl⟩ | ⟨g, c', cur, h1, h2, h3, _, _, _, h4⟩
  · simp at hs
  · simp only [Value.slice.injEq] at h1
    obtain ⟨rfl, rfl, rfl⟩ := h1
    exact ⟨g, rfl, h2, lt_of_block h3, fun c hc => (blk_cell h3 _).trans (h4 i x hs c hc)⟩
theorem PlV.clip {w : World} {base n : Nat} {l : List PlD} {a : Option Addr} {cap : Nat} (h : PlV w base l (.slice a n cap)) : PlV w base l (.slice a n n) := by
  rcases h with ⟨h0, rfl⟩ | ⟨g, c', cur, h1, h2, h3, h4, h5, h6, h7⟩
  · simp only [Value.slice.injEq] at h0
    obtain ⟨rfl, rfl, rfl⟩ := h0
    exact .inl ⟨rfl, rfl⟩
  · simp only [Value.slice.injEq] at h1
    obtain ⟨rfl, rfl, rfl⟩ := h1
    exact .inr ⟨g, l.length, cur, rfl, h2, h3, Nat.le_refl _, by omega, by omega, h7⟩
theorem clipPl_any (a : Option Addr) (n cap : Nat) (w : World) (h : n ≤ cap) (hn : n ≤ 1000000) : Calls Tryz.prog 33 #[.slice a n cap] w fun e w' => e = .returned (.slice a n n) ∧ w' = w := by
  have q1 : (n : Int) ≤ (cap : Int) := by omega
  go_enter Tryz.func33, Tryz.ntmps33
  go_wp2_with fail
  go_ret
  exact ⟨rfl, rfl⟩
/-- A name that is there: of what comes from without, or a flow's. -/
theorem findFl_there {s : ByteArray} : ∀ {l : List FlD} {i : Nat}, (findFl s i l).2.2.2 = true → ∃ k x, l[k]? = some x ∧ (findFl s i l).2.2.1 = ((i + k : Nat) : Int)
  | [], i, h => by simp [findFl] at h
  | y :: r, i, h => by
    unfold findFl at h ⊢
    by_cases e : y.name = s
    · rw [if_pos e]
      exact ⟨0, y, rfl, rfl⟩
    · rw [if_neg e] at h ⊢
      obtain ⟨k, x, h1, h2⟩ := findFl_there h
      exact ⟨k + 1, x, by simpa using h1, by rw [h2, show i + 1 + k = i + (k + 1) from by omega]⟩
theorem findP_there {s : ByteArray} {fl : List FlD} : ∀ {l : List InD}, (findP s fl l).2.2.2 = true → (findP s fl l).2.2.1 = -1 ∨ ∃ (k : Nat) (x : FlD), fl[k]? = some x ∧ (findP s fl l).2.2.1 = (k : Int)
  | [], h => by
    unfold findP at h ⊢
    obtain ⟨k, x, h1, h2⟩ := findFl_there h
    exact .inr ⟨k, x, h1, by rw [h2, Nat.zero_add]⟩
  | y :: r, h => by
    unfold findP at h ⊢
    by_cases e : y.name = s
    · rw [if_pos e]; exact .inl rfl
    · rw [if_neg e] at h ⊢
      exact findP_there h
theorem age_rng {p : PrD} {l : List Int} (h : lateChk p l = true) {i : Nat} {f : FlD} {r : Rf} (hi : p.flows[i]? = some f) (hr : r ∈ gthE [] 0 f.body) : 0 ≤ (ageP p l i r).1 ∧ (ageP p l i r).1 ≤ 2000 := by
  rw [ageP_of h hi hr]
  have h1 := age_ge h hi hr
  obtain ⟨hn, hf⟩ := lateChk_iff.1 h
  have h2 := ask_ok (names_prog hn) (asksP_mem.2 ⟨i, f, r, hi, hr, rfl⟩)
  have h3 := leastA_rng ⟨hf.1, hf.2.1⟩ h2
  have h4 := getD_rng hf.2.1 i
  exact ⟨h1, by show l.getD i 0 - leastA l (askOf p i f r) ≤ 2000; omega⟩
/-- What is kept so far, for each name. -/
noncomputable def keepK (p : PrD) (l : List Int) (st : Int) (k : Nat) (nm : ByteArray) : Int := keepG p l st nm 0 (p.flows.take k) 0
noncomputable def keepJ (p : PrD) (l : List Int) (st : Int) (k j : Nat) (x : FlD) (nm : ByteArray) : Int := if x.st = st then keepF p l k nm (keepK p l st k nm) ((gthE [] 0 x.body).take j) else keepK p l st k nm
theorem keepK_zero (p : PrD) (l : List Int) (st : Int) : keepK p l st 0 = fun _ => 0 := by
  funext nm; rfl
theorem keepJ_zero (p : PrD) (l : List Int) (st : Int) (k : Nat) (x : FlD) : keepJ p l st k 0 x = keepK p l st k := by
  funext nm
  unfold keepJ keepF
  simp
theorem keepJ_full {p : PrD} {l : List Int} {st : Int} {k : Nat} {x : FlD} (h : p.flows[k]? = some x) : keepJ p l st k (gthE [] 0 x.body).length x = keepK p l st (k + 1) := by
  have hk := (List.getElem?_eq_some_iff.1 h).1
  funext nm
  unfold keepJ keepK
  rw [List.take_length, List.take_add_one, h]
  show _ = keepG p l st nm 0 (p.flows.take k ++ [x]) 0
  rw [keepG_snoc, List.length_take, Nat.min_eq_left (by omega), Nat.zero_add]
theorem keepK_full (p : PrD) (l : List Int) (st : Int) (nm : ByteArray) : keepK p l st p.flows.length nm = keepP p l st nm := by
  unfold keepK keepP
  rw [List.take_length]
theorem keepJ_other {p : PrD} {l : List Int} {st : Int} {k j : Nat} {x : FlD} (h : x.st ≠ st) : keepJ p l st k (j + 1) x = keepJ p l st k j x := by
  funext nm
  unfold keepJ
  rw [if_neg h, if_neg h]
theorem keepJ_step {p : PrD} {l : List Int} {st : Int} {k j : Nat} {x : FlD} {r : Rf} (h : x.st = st) (hr : (gthE [] 0 x.body)[j]? = some r) : keepJ p l st k (j + 1) x = setM (keepJ p l st k j x) r.1 (max (keepJ p l st k j x r.1) (ageP p l k r).1) := by
  funext nm
  unfold keepJ setM
  simp only [if_pos h]
  rw [List.take_add_one, hr]
  show keepF p l k nm _ ((gthE [] 0 x.body).take j ++ [r]) = _
  rw [keepF_snoc]
  by_cases e : r.1 = nm
  · subst e
    simp only [if_true]
  · simp only [if_neg e]
theorem MiV.mono {w : World} {b n m : Nat} {f : ByteArray → Int} (h : MiV w b n f) (hn : n ≤ m) : MiV w b m f := by
  obtain ⟨D, h1, h2⟩ := h
  exact ⟨D, h1.mono hn, h2⟩
theorem setM_rng {f : ByteArray → Int} (h : ∀ s, 0 ≤ f s ∧ f s ≤ 2000) {s : ByteArray} {z : Int} (hz : 0 ≤ z ∧ z ≤ 2000) : ∀ t, 0 ≤ setM f s z t ∧ setM f s z t ≤ 2000 := fun t => by
  unfold setM
  split
  · exact hz
  · exact h t
theorem place_near {p : PrD} {l : List Int} {st : Int} {s : ByteArray} (h : stOf p s = st) : placeOf p l st s = ⟨s, tyOf p s, keepP p l st s, false, 0, 0⟩ := by unfold placeOf; rw [if_pos h]
theorem place_far {p : PrD} {l : List Int} {st : Int} {s : ByteArray} (h : stOf p s ≠ st) : placeOf p l st s = ⟨s, tyOf p s, keepP p l st s, true, stOf p s, dfOf p s⟩ := by unfold placeOf; rw [if_neg h]
theorem all_size {p : PrD} (h : namesP p = 0) {st : Int} {s : ByteArray} (hs : s ∈ allN p st) : s.size ≤ 40 := by
  have hp := names_prog h
  have key : ∀ t, (s, t) ∈ sitesP p → s.size ≤ 40 := fun t ht => by
    rcases List.mem_append.1 ht with ht | ht
    · obtain ⟨y, hy, e⟩ := List.mem_map.1 ht
      simp only [Prod.mk.injEq] at e
      obtain ⟨rfl, _⟩ := e
      have := (progP_parts.1 hp).2.1 y hy
      simp only [inBad, mayP, Bool.not_eq_false', Bool.and_eq_true, decide_eq_true_eq] at this
      exact nameP_size this.1.1.1
    · obtain ⟨y, hy, e⟩ := List.mem_map.1 ht
      simp only [Prod.mk.injEq] at e
      obtain ⟨rfl, _⟩ := e
      have := (progP_parts.1 hp).2.2.1 y hy
      simp only [flBad, mayP, Bool.or_eq_false_iff, Bool.not_eq_false', Bool.and_eq_true, decide_eq_true_eq] at this
      exact nameP_size this.1.1.1.1.1
  rcases List.mem_append.1 hs with hs | hs
  · exact key _ (own_mem.1 hs)
  · obtain ⟨t, _, _, _, h4, _⟩ := (needs_mem h).1 hs
    exact key _ (own_mem.1 h4)
theorem all_len {p : PrD} (hp : progP p = true) (st : Int) : (allN p st).length ≤ 1728 := by
  unfold allN
  rw [List.length_append]
  have := own_len hp st
  have := needs_len hp st
  omega
def RetPl (p : PrD) (l : List Int) (st : Int) (w : World) (e : Ending) (w' : World) : Prop := ∃ v, e = .returned (.tuple #[v, .int .i64 (placesE p l st)]) ∧ PlV w' w.heap.size (placesP p l st) v ∧ Ext w w'
theorem placesP_no {p : PrD} {l : List Int} {st : Int} (h : placesE p l st ≠ 0) : placesP p l st = [] := by unfold placesP; rw [if_neg h]
end Go.Proofs.YtgkbhonjodcakaaGreat
namespace Go.Proofs.YtgkbhonjodcakaaGreat
open Go.RowKit
set_option linter.unusedVariables false
set_option linter.unusedSimpArgs false

theorem ss2 {w : World} {base : Nat} {l1 l2 : List ByteArray} {u1 u2 : Value} (h1 : StV w base l1 u1) (h2 : StV w base l2 u2) : RdSS (w.alloc (.cells #[u1, u2] 24)) base [l1, l2] (.slice (some ⟨w.heap.size, 0, none⟩) 2 2) := by
  have e := (Chg.refl (fun _ => False) w).alloc (.cells #[u1, u2] 24)
  have b := heap_alloc_new w (.cells #[u1, u2] 24)
  refine ⟨_, _, rfl, fun i l hi => ?_⟩
  match i, hi with
  | 0, hi =>
    obtain rfl := Option.some.inj hi
    exact ⟨_, _, _, rfl, (blk_cell b 0).trans rfl, h1.ext e⟩
  | 1, hi =>
    obtain rfl := Option.some.inj hi
    exact ⟨_, _, _, rfl, (blk_cell b 1).trans rfl, h2.ext e⟩
  | n + 2, hi => simp at hi
theorem retPl_no {p : PrD} {l : List Int} {st n : Int} {w w' : World} (h : placesE p l st = n) (hn : n ≠ 0) (hE : Ext w w') : RetPl p l st w (.returned (.tuple #[.slice none 0 0, .int .i64 n])) w' :=
  ⟨_, by rw [h], .inl ⟨rfl, placesP_no (by rw [h]; exact hn)⟩, hE⟩
set_option maxRecDepth 100000 in
set_option maxHeartbeats 8000000 in
theorem places_any (p : PrD) (cs : Array Value) (l : List Int) (v : Value) (st : Int) (w : World) (h : RdPr w 0 false p cs) (hl : RdIntV w 0 false l v) (hst : isI64 st) : Calls Tryz.prog 11 #[.agg cs, v, .int .i64 st] w (RetPl p l st w) := by
  have HP := Lib.hid h
  have HL := Lib.hid hl
  obtain ⟨ai, ci, af, cf, ao, co, rfl⟩ := pr_form h
  have HF := Lib.hid (pr_fl h)
  obtain ⟨la, lc, rfl, _⟩ := hl.form
  have n2 : p.flows.length ≤ 9000000000000000000 := by obtain ⟨_, _, _, h, _⟩ := pr_fl h; unfold fitsR at h; omega
  clear h hl
  have e0 := (Chg.refl (fun _ => False) w).alloc (.cells #[.int .i64 p.st, .slice ai p.ins.length ci, .slice af p.flows.length cf, .slice ao p.outs.length co] 26)
  have bP := heap_alloc_new w (.cells #[.int .i64 p.st, .slice ai p.ins.length ci, .slice af p.flows.length cf, .slice ao p.outs.length co] 26)
  have HNO := Lib.hid (fun n h1 h2 W' hE => retPl_no (p := p) (l := l) (st := st) (n := n) (w := w) (w' := W') h1 h2 hE)
  go_enter Tryz.func11, Tryz.ntmps11
  go_upto_region 1 with (fail)
  generalize (w.alloc (.cells #[.int .i64 p.st, .slice ai p.ins.length ci, .slice af p.flows.length cf, .slice ao p.outs.length co] 26)) = W0 at *
  have y0 : ∀ X, Ext W0 X → X.cell? ⟨w.heap.size, 0, none⟩ = some (.int .i64 p.st) := fun X hX => (blk_cell (Ext.heap hX bP) 0).trans rfl
  have y1 : ∀ X, Ext W0 X → X.cell? ⟨w.heap.size, 1, none⟩ = some (.slice ai p.ins.length ci) := fun X hX => (blk_cell (Ext.heap hX bP) 1).trans rfl
  have y2 : ∀ X, Ext W0 X → X.cell? ⟨w.heap.size, 2, none⟩ = some (.slice af p.flows.length cf) := fun X hX => (blk_cell (Ext.heap hX bP) 2).trans rfl
  have y3 : ∀ X, Ext W0 X → X.cell? ⟨w.heap.size, 3, none⟩ = some (.slice ao p.outs.length co) := fun X hX => (blk_cell (Ext.heap hX bP) 3).trans rfl
  have er : Ext W0 W0 := Chg.refl _ _
  have HBP := Lib.hid bP
  clear bP
  have HC := Lib.hid (nCheck_any p _ W0 (HP.out.ext e0))
  unfold RetE at HC
  by_cases hn : namesP p = 0
  case neg =>
    have bn : (namesP p != 0) = true := by simpa using hn
    have HE : Hid (placesE p l st = 1) := by show _ = _; unfold placesE; rw [if_neg (fun h => hn h.1)]
    generalize namesP p = nn at *
    clear hn
    go_wp2_with fail
    refine HC.out.mono ?_
    rintro e w1 ⟨rfl, E1⟩
    go_wp2_with fail
    go_ret2
    exact HNO.out 1 HE.out (by decide) _ (e0.trans E1)
  have HN := Lib.hid hn
  have HN' := hn
  rw [hn] at HC
  clear hn
  by_cases h1 : st < 1
  case pos =>
    have HE : Hid (placesE p l st = 1) := by show _ = _; unfold placesE; rw [if_neg (fun h => by omega)]
    clear HN'
    go_wp2_with fail
    refine HC.out.mono ?_
    rintro e w1 ⟨rfl, E1⟩
    go_wp2_with fail
    go_ret2
    exact HNO.out 1 HE.out (by decide) _ (e0.trans E1)
  by_cases h2 : p.st < st
  case pos =>
    have HE : Hid (placesE p l st = 1) := by show _ = _; unfold placesE; rw [if_neg (fun h => by omega)]
    clear HN'
    go_wp2_with fail
    refine HC.out.mono ?_
    rintro e w1 ⟨rfl, E1⟩
    go_wp2_with fail
    go_ret2
    exact HNO.out 1 HE.out (by decide) _ (e0.trans E1)
  have hE0 : placesE p l st = if lateChk p l = true then 0 else 10 := by unfold placesE; rw [if_pos ⟨HN', by omega, by omega⟩]
  have HE0 := Lib.hid hE0
  clear hE0 HN'
  go_wp2_with fail
  refine HC.out.mono ?_
  rintro e w1 ⟨rfl, E1⟩
  clear HC
  have HLC := Lib.hid (lateChk_any p _ l _ w1 (HP.out.ext (e0.trans E1)) (HL.out.ext (e0.trans E1)))
  unfold RetV at HLC
  cases hch : lateChk p l
  case false =>
    rw [hch] at HLC
    have HE : Hid (placesE p l st = 10) := by show _ = _; rw [HE0.out, hch]; rfl
    clear hch
    go_wp2_with fail
    refine HLC.out.mono ?_
    rintro e w2 ⟨rfl, E2⟩
    go_wp2_with fail
    go_ret2
    exact HNO.out 10 HE.out (by decide) _ ((e0.trans E1).trans E2)
  rw [hch] at HLC
  have HCH := Lib.hid hch
  have HE : Hid (placesE p l st = 0) := by show _ = _; rw [HE0.out, hch]; rfl
  clear hch HNO HE0
  have HPR := Lib.hid (names_prog HN.out)
  obtain ⟨n64, n128, _, hokf, _⟩ := prog_ok HPR.out
  have HOKF := Lib.hid hokf
  clear hokf
  have hmm := @run_makeMap Tryz.prog
  go_wp2_with fail
  refine HLC.out.mono ?_
  rintro e w2 ⟨rfl, E2'⟩
  have E2 := E1.trans E2'
  have e3 := (Chg.refl (fun _ => False) w2).alloc (.map #[] 0)
  have hM := MiV.made w2
  have E3 := E2.trans e3
  clear HLC E2' E1
  go_upto_region 6 with (fail)
  generalize hW3 : w2.alloc (.map #[] 0) = W3 at *
  have hW0M : W0.heap.size ≤ w2.heap.size := E2.size
  generalize hM0 : w2.heap.size = M at *
  have hwP := lt_of_block HBP.out
  have bP3 := Ext.heap E3 HBP.out
  have y0 : ∀ X, Chg (fun q => q = M) W3 X → X.cell? ⟨w.heap.size, 0, none⟩ = some (.int .i64 p.st) := fun X hX => (blk_cell (hX.heap bP3 (by omega)) 0).trans rfl
  have y1 : ∀ X, Chg (fun q => q = M) W3 X → X.cell? ⟨w.heap.size, 1, none⟩ = some (.slice ai p.ins.length ci) := fun X hX => (blk_cell (hX.heap bP3 (by omega)) 1).trans rfl
  have y2 : ∀ X, Chg (fun q => q = M) W3 X → X.cell? ⟨w.heap.size, 2, none⟩ = some (.slice af p.flows.length cf) := fun X hX => (blk_cell (hX.heap bP3 (by omega)) 2).trans rfl
  have y3 : ∀ X, Chg (fun q => q = M) W3 X → X.cell? ⟨w.heap.size, 3, none⟩ = some (.slice ao p.outs.length co) := fun X hX => (blk_cell (hX.heap bP3 (by omega)) 3).trans rfl
  have ew : ∀ X, Chg (fun q => q = M) W3 X → Ext W0 X := fun X hX => Ext.then E3 hX (fun b hb => by omega)
  have erM : Chg (fun q => q = M) W3 W3 := Chg.refl _ _
  have HM0 := Lib.hid hM
  clear hM hW3 hM0 er e3 E2 hmm
  go_wp2_with fail
  go_loopw [46] (fun i wr => ∃ k : Nat, k ≤ p.flows.length ∧ i = .int .i64 k ∧ MiV wr M (k * 200) (keepK p l st k) ∧ (∀ s, 0 ≤ keepK p l st k s ∧ keepK p l st k s ≤ 2000) ∧ Chg (fun q => q = M) W3 wr) (fun i _ => p.flows.length - (intOf i).toNat)
  case atStart => exact ⟨0, Nat.zero_le _, rfl, by rw [keepK_zero]; simpa using HM0.out, fun s => by rw [keepK_zero]; exact ⟨by show (0 : Int) ≤ 0; omega, by show (0 : Int) ≤ 2000; omega⟩, erM⟩
  case round =>
    clear HM0
    obtain ⟨k, hk, rfl, hm, hrng, hC⟩ := hrel
    have hsz := hC.size
    by_cases hlt : k < p.flows.length
    case pos =>
      have hx := List.getElem?_eq_getElem hlt
      have hq1 : (k : Int) < (p.flows.length : Int) := by omega
      have hok := HOKF.out _ (List.getElem_mem hlt)
      obtain ⟨hnm, _, hxst, _, b, o, rfl, _, hb, c0, c1, c2, c3, _, _, hbn, vx, hvx, c4, c5, c6, c7⟩ := (HF.out.ext (e0.trans (ew _ hC))).at hx
      obtain ⟨hwf, hnd⟩ := ok_wf' hok
      have hnames := gthE_names p.flows[k].body 32 [] 0 hwf (fun r h => by simp at h)
      have hz := keepJ_zero p l st k p.flows[k]
      have hfull := keepJ_full (p := p) (l := l) (st := st) hx
      have HAG := Lib.hid (fun r (hr : r ∈ gthE [] 0 p.flows[k].body) => age_rng HCH.out hx hr)
      generalize p.flows[k] = x at *
      have hle := gthE_le x.body [] 0
      have HR := Lib.hid (fun (X : World) (hX : Ext wr X) => refs_any x.body vx X (hvx.ext hX) hbn (by omega))
      obtain ⟨va, vc, rfl, _⟩ := hvx.form
      have e4 := (Chg.refl (fun _ => False) wr).alloc (.cells #[.string x.name, .int .u8 x.ty, .int .i64 x.st, .int .i64 x.df, .int .u8 x.body.op, .int .i64 x.body.n, .string x.body.name, .slice va x.body.args.length vc] 43)
      have xb := heap_alloc_new wr (.cells #[.string x.name, .int .u8 x.ty, .int .i64 x.st, .int .i64 x.df, .int .u8 x.body.op, .int .i64 x.body.n, .string x.body.name, .slice va x.body.args.length vc] 43)
      rw [← hz] at hm hrng
      have HM := Lib.hid hm
      have HRG := Lib.hid hrng
      have HNN := Lib.hid hnames
      have HFU := Lib.hid hfull
      have hlen : (gthE [] 0 x.body).length ≤ 200 := by simp at hle; omega
      clear hx hvx hok hwf hnames hz hfull hm hle hrng
      go_wp2_with fail
      refine (HR.out _ e4).mono ?_
      rintro e w5 ⟨v5, rfl, hV, hE5⟩
      obtain ⟨ra, rc, rfl⟩ := hV.form
      have C5 := (hC.alloc (.cells #[.string x.name, .int .u8 x.ty, .int .i64 x.st, .int .i64 x.df, .int .u8 x.body.op, .int .i64 x.body.n, .string x.body.name, .slice va x.body.args.length vc] 43)).trans (hE5.mono (fun _ _ h => h.elim))
      have xb5 := Ext.heap hE5 xb
      have HM5 := Lib.hid (HM.out.chg (e4.trans hE5) (fun h => h))
      have HV := Lib.hid hV
      have HJS := Lib.hid (fun j r => keepJ_step (p := p) (l := l) (st := st) (k := k) (j := j) (x := x) (r := r))
      have HJO := Lib.hid (fun j => keepJ_other (p := p) (l := l) (st := st) (k := k) (j := j) (x := x))
      generalize hL : gthE [] 0 x.body = L at *
      have hMw : M < w5.heap.size := HM5.out.lt
      have hMo : M < wr.heap.size := HM.out.lt
      have hxM : wr.heap.size ≠ M := by omega
      have hEV := Lib.hid (e4.trans hE5).size
      clear hL HR HM e4 xb hE5 hV hC
      go_wp2_with fail
      obtain ⟨wo, rfl⟩ : ∃ wo : World, wo = wr := ⟨_, rfl⟩
      go_loopw [55] (fun jv wr => ∃ j : Nat, j ≤ L.length ∧ jv = .int .i64 j ∧ MiV wr M (k * 200 + j) (keepJ p l st k j x) ∧ (∀ s, 0 ≤ keepJ p l st k j x s ∧ keepJ p l st k j x s ≤ 2000) ∧ Chg (fun q => q = M) w5 wr) (fun jv _ => L.length - (intOf jv).toNat)
      case atStart => exact ⟨0, Nat.zero_le _, rfl, HM5.out, HRG.out, Chg.refl _ _⟩
      case round =>
        clear HM5 HRG
        obtain ⟨j, hj, rfl, hm, hrng, hC⟩ := hrel
        have CW := C5.trans hC
        by_cases hlt2 : j < L.length
        case pos =>
          have hr := List.getElem?_eq_getElem hlt2
          have hq2 : (j : Int) < (L.length : Int) := by omega
          have hrn := HNN.out _ (List.getElem_mem hlt2)
          have hag := HAG.out _ (List.getElem_mem hlt2)
          obtain ⟨gr, rfl, c0, c1⟩ := HV.out.get hr
          have hgr : M < gr := by have := (World.ownsRow.lt HV.out gr rfl).1; simp at this; omega
          have hgM : gr ≠ M := by omega
          have d0 := hC.cell c0 hgM
          have d1 := hC.cell c1 hgM
          have HHR := Lib.hid hr
          generalize L[j] = r at *
          have e6 := (Chg.refl (fun _ => False) wr).alloc (.cells #[.string r.1, .int .i64 r.2] 78)
          have rb := heap_alloc_new wr (.cells #[.string r.1, .int .i64 r.2] 78)
          have C6 := CW.alloc (.cells #[.string r.1, .int .i64 r.2] 78)
          have D6 := hC.alloc (.cells #[.string r.1, .int .i64 r.2] 78)
          have xb6 := blk_cell (D6.heap xb5 hxM) 2
          simp only [List.getElem?_toArray, List.getElem?_cons_zero, List.getElem?_cons_succ] at xb6
          by_cases hs : x.st = st
          case neg =>
            have bs : (x.st == st) = false := by simpa using hs
            have HEQ : Hid (keepJ p l st k (j + 1) x = keepJ p l st k j x) := HJO.out j hs
            have HMM := Lib.hid (hm.ext e6)
            have HMX : Hid (MiV (wr.alloc (.cells #[.string r.1, .int .i64 r.2] 78)) M (k * 200 + (j + 1)) (keepJ p l st k (j + 1) x)) := by show MiV _ _ _ _; rw [HEQ.out]; exact MiV.mono HMM.out (by omega)
            have HRX := Lib.hid (fun s => (by rw [HEQ.out]; exact hrng s : 0 ≤ keepJ p l st k (j + 1) x s ∧ keepJ p l st k (j + 1) x s ≤ 2000))
            clear hs hm hrng hr hag hrn c0 c1 HAG HJS
            go_wp2_with fail
            go_roundw
            case rel => exact ⟨j + 1, by omega, by go_num, HMX.out, HRX.out, D6⟩
            case measure => simp [intOf]; omega
          have bs : (x.st == st) = true := by simpa using hs
          have hstep := HJS.out j _ hs HHR.out
          have HSTP := Lib.hid hstep
          have HAGE := Lib.hid (age_any p _ l _ k r _ (HP.out.ext (e0.trans (ew _ C6))) (HL.out.ext (e0.trans (ew _ C6))))
          unfold RetAge at HAGE
          have HRNG := Lib.hid hrng
          have HMM := Lib.hid (hm.ext e6)
          have hfr := hrng r.1
          generalize hag0 : (ageP p l k r).1 = ag at *
          generalize (ageP p l k r).2 = agE at *
          generalize hfs : keepJ p l st k j x r.1 = fs at *
          have HFS := Lib.hid hfs
          clear hs hm hrng hr hstep hag0 hfs c0 c1 HAG HJS
          go_wp2_with fail
          refine HAGE.out.mono ?_
          rintro e w7 ⟨rfl, E7⟩
          have rb7 := (blk_cell (Ext.heap E7 rb) 0).trans rfl
          have xb7 := Ext.cell E7 xb6
          have hM7 := HMM.out.ext E7
          have hlook := hM7.look (s := r.1) (by unfold maxLen; omega)
          rw [HFS.out] at hlook
          have hz : 0 ≤ max fs ag ∧ max fs ag ≤ 2000 := by omega
          obtain ⟨w', hput, hm', hC'⟩ := hM7.put (s := r.1) (by unfold maxLen; omega) (by unfold maxLen; omega) (z := max fs ag) (by unfold isI64; omega)
          rw [← HSTP.out] at hm'
          have D8 := (D6.trans (E7.mono (fun _ _ h => h.elim))).trans hC'
          have HRX := Lib.hid (fun s => (by rw [HSTP.out]; exact setM_rng HRNG.out hz s : 0 ≤ keepJ p l st k (j + 1) x s ∧ keepJ p l st k (j + 1) x s ≤ 2000))
          have HMX := Lib.hid hm'
          clear HAGE hm' hC' hM7 E7 rb xb6 D6 C6 e6 d0 d1 hC CW
          by_cases hlt3 : fs < ag
          all_goals (
            have hmx : max fs ag = ag ∨ max fs ag = fs := by omega
            first
              | (have hmx1 : max fs ag = ag := by omega
                 rw [hmx1] at hput)
              | (have hmx1 : max fs ag = fs := by omega
                 rw [hmx1] at hput)
            clear hmx hmx1 hz
            go_wp2_with fail
            go_roundw
            case rel => exact ⟨j + 1, by omega, by go_num, HMX.out, HRX.out, D8⟩
            case measure => simp [intOf]; omega)
        obtain rfl : j = L.length := by omega
        rw [HFU.out] at hm hrng
        have HMX := Lib.hid (MiV.mono hm (show k * 200 + L.length ≤ (k + 1) * 200 by omega))
        have HRX := Lib.hid hrng
        clear hm hrng HAG
        go_wp2_with fail
        go_roundw
        case rel => exact ⟨k + 1, by omega, by go_num, HMX.out, HRX.out, CW⟩
        case measure => simp [intOf]; omega
    obtain rfl : k = p.flows.length := by omega
    have EwW := ew _ hC
    have hmK : MiV wr M (p.flows.length * 200) (keepP p l st) := by
      have e : keepK p l st p.flows.length = keepP p l st := funext fun nm => keepK_full p l st nm
      rw [← e]; exact hm
    have HMK := Lib.hid hmK
    have HKR := Lib.hid (fun s => (by rw [← keepK_full]; exact hrng s : 0 ≤ keepP p l st s ∧ keepP p l st s ≤ 2000))
    have y2w := y2 _ hC
    have bP4 := hC.heap bP3 (by omega)
    clear hm hmK hrng hC y0 y1 y2 y3 ew erM bP3 E3
    obtain ⟨V, rfl⟩ : ∃ V : World, V = wr := ⟨_, rfl⟩
    have y0 : ∀ X, Ext V X → X.cell? ⟨w.heap.size, 0, none⟩ = some (.int .i64 p.st) := fun X hX => (blk_cell (Ext.heap hX bP4) 0).trans rfl
    have y1 : ∀ X, Ext V X → X.cell? ⟨w.heap.size, 1, none⟩ = some (.slice ai p.ins.length ci) := fun X hX => (blk_cell (Ext.heap hX bP4) 1).trans rfl
    have y2 : ∀ X, Ext V X → X.cell? ⟨w.heap.size, 2, none⟩ = some (.slice af p.flows.length cf) := fun X hX => (blk_cell (Ext.heap hX bP4) 2).trans rfl
    have y3 : ∀ X, Ext V X → X.cell? ⟨w.heap.size, 3, none⟩ = some (.slice ao p.outs.length co) := fun X hX => (blk_cell (Ext.heap hX bP4) 3).trans rfl
    have er : Ext V V := Chg.refl _ _
    have hPL := (places_ok HCH.out (show 1 ≤ st by omega) (show st ≤ p.st by omega)).2
    have HPL := Lib.hid hPL
    clear hPL
    obtain ⟨i0, hinf, hz0, hz1, hz2⟩ := info_parts infoPl
    have hoL := own_len HPR.out st
    have hnL := needs_len HPR.out st
    have haL := all_len HPR.out st
    have HSZ := Lib.hid (fun s (hs : s ∈ allN p st) => all_size HN.out hs)
    have HTH := Lib.hid (fun s (hs : s ∈ allN p st) => all_there HN.out hs)
    have HFI := Lib.hid (fun (nm : ByteArray) (X : World) (hX : Ext V X) => find_any p nm _ X (HP.out.ext (e0.trans (EwW.trans hX))))
    have hall : allN p st = ownN p st ++ needsP p st := rfl
    have HOW := Lib.hid (fun (X : World) (hX : Ext V X) => own15_any p _ st X (HP.out.ext (e0.trans (EwW.trans hX))) HPR.out)
    have HND := Lib.hid (fun (X : World) (hX : Ext V X) => needs_any p _ st X (HP.out.ext (e0.trans (EwW.trans hX))) hst)
    generalize hNM : allN p st = NM at *
    generalize ownN p st = OW at *
    generalize needsP p st = ND at *
    have HLI := Lib.hid (fun (X : World) (u4 u5 : Value) (h1 : StV X V.heap.size OW u4) (h2 : StV X V.heap.size ND u5) => by
      have := cutList_any [OW, ND] V.heap.size _ _ (ss2 h1 h2) (by simp) (by simp; omega)
      simp only [List.flatten_cons, List.flatten_nil, List.append_nil] at this
      rw [← hall] at this
      exact this)
    have G0 : Ext V V.drew := (Chg.refl _ _).drew
    clear hall hNM
    go_upto_region 18 with (fail)
    go_region_held3 (fun X => Ext V X) (first | assumption | exact Chg.alloc (by assumption) _)
      (first
        | (have _ := G2; go_at_call 29; refine (HLI.out _ _ _ H4.out H5.out).mono ?_; rintro e w6 ⟨u6, rfl, hu6, E6⟩; obtain ⟨a6, c6, rfl⟩ := hu6.form; have G3 := (Chg.alloc G2 _).trans E6)
        | (have _ := G1; go_at_call 31; refine (HND.out _ G1).mono ?_; rintro e w5 ⟨u5, rfl, hu5, E5⟩; obtain ⟨a5, c5, rfl, _⟩ := hu5.form; have G2 := G1.trans E5; have H4 := Lib.hid (H4.out.ext E5); have H5 := Lib.hid (hu5.base G1.size))
        | (have _ := G0; go_at_call 30; refine (HOW.out _ G0).mono ?_; rintro e w4 ⟨u4, rfl, hu4, E4⟩; obtain ⟨a4, c4, rfl⟩ := hu4.form; have G1 := G0.trans E4; have H4 := Lib.hid ((StV.of hu4).base G0.size)))
    have H6 := Lib.hid hu6
    have HG3 := Lib.hid G3
    clear hu6 hu5 hu4 E4 E5 E6 G0 G1 G2 HLI HOW HND H4 H5 y2w hoL hnL
    replace y0 := fun X (hX : Ext w6 X) => y0 X (G3.trans hX)
    replace y1 := fun X (hX : Ext w6 X) => y1 X (G3.trans hX)
    replace y2 := fun X (hX : Ext w6 X) => y2 X (G3.trans hX)
    replace y3 := fun X (hX : Ext w6 X) => y3 X (G3.trans hX)
    clear G3 er bP4
    obtain ⟨V2, rfl⟩ : ∃ V2 : World, V2 = w6 := ⟨_, rfl⟩
    have er : Ext V2 V2 := Chg.refl _ _
    have ea : ∀ X o, Ext V2 X → Ext V2 (X.alloc o) := fun X o hX => hX.alloc o
    go_wp2_with fail
    go_loopw [15, 91] (fun t i wr => ∃ k : Nat, k ≤ NM.length ∧ i = .int .i64 k ∧ PlO wr V2.heap.size ((NM.take k).map (placeOf p l st)) t ∧ Ext V2 wr) (fun _ i _ => NM.length - (intOf i).toNat)
    case atStart => exact ⟨0, Nat.zero_le _, rfl, PlO.nil _ _, er⟩
    case round =>
      obtain ⟨k, hk, rfl, hpo, hE⟩ := hrel
      have hsz := hE.size
      obtain ⟨ta, tc, ht⟩ := hpo.form
      have hlen : ((NM.take k).map (placeOf p l st)).length = k := by rw [List.length_map, List.length_take]; omega
      rw [hlen] at ht
      subst ht
      by_cases hlt : k < NM.length
      case pos =>
        have hx := List.getElem?_eq_getElem hlt
        have hq1 : (k : Int) < (NM.length : Int) := by omega
        have hmem := List.getElem_mem hlt
        have hss := HSZ.out _ hmem
        have hth := HTH.out _ hmem
        obtain ⟨g, rfl, c0⟩ := (H6.out.ext hE).get hx
        have hstp : (NM.take (k + 1)).map (placeOf p l st) = (NM.take k).map (placeOf p l st) ++ [placeOf p l st NM[k]] := by rw [List.take_succ_eq_append_getElem hlt, List.map_append]; rfl
        generalize NM[k] = s at *
        have HSTP := Lib.hid hstp
        have hpl := PlO.len_eq hpo hlen
        generalize (NM.take k).map (placeOf p l st) = pl at *
        have HPO := Lib.hid hpo
        have hfd : findP s p.flows p.ins = (stOf p s, tyOf p s, flOf p s, true) := by
          have : (findP s p.flows p.ins).2.2.2 = true := hth
          unfold stOf tyOf flOf
          rw [← this]
        have hf1 := HFI.out s wr (HG3.out.trans hE)
        unfold RetFind fourV at hf1
        rw [hfd] at hf1
        have HF1 := Lib.hid hf1
        have hfl := findP_there hth
        have HNEAR := Lib.hid (fun (h : stOf p s = st) => place_near (p := p) (l := l) (st := st) (s := s) h)
        have HFAR := Lib.hid (fun (h : stOf p s ≠ st) => place_far (p := p) (l := l) (st := st) (s := s) h)
        have hflv : flOf p s = (findP s p.flows p.ins).2.2.1 := rfl
        rw [← hflv] at hfl
        have hdf : dfOf p s = if flOf p s < 0 then 0 else (p.flows[(flOf p s).toNat]?.map (·.df)).getD 0 := rfl
        have HDF := Lib.hid hdf
        have HFL := Lib.hid hfl
        have hkr := HKR.out s
        have hlk := fun (X : World) (hX : Ext V X) => (HMK.out.ext hX).look (s := s) (by unfold maxLen; omega)
        generalize placeOf p l st s = pd at *
        generalize stOf p s = fs at *
        generalize tyOf p s = ty at *
        generalize flOf p s = fi at *
        generalize dfOf p s = df at *
        generalize keepP p l st s = kp at *
        clear hx hmem hth hstp hpo hfd hf1 hflv hdf hfl
        go_wp2_with fail
        refine HF1.out.mono ?_
        rintro e w7 ⟨rfl, E7⟩
        have E7' := hE.trans E7
        have hlook := hlk _ (HG3.out.trans E7')
        have hB0 := heap_alloc_new w7 (.cells #[.string s, .int .u8 ty, .int .i64 kp, .bool false, .int .i64 0, .int .i64 0] 51)
        have e8 := (Chg.refl (fun _ => False) w7).alloc (.cells #[.string s, .int .u8 ty, .int .i64 kp, .bool false, .int .i64 0, .int .i64 0] 51)
        have E8 := E7'.alloc (.cells #[.string s, .int .u8 ty, .int .i64 kp, .bool false, .int .i64 0, .int .i64 0] 51)
        clear HF1 hlk
        go_upto_region 23 with (fail)
        have hw7 := E7'.size
        generalize (w7.alloc (.cells #[.string s, .int .u8 ty, .int .i64 kp, .bool false, .int .i64 0, .int .i64 0] 51)) = W8 at *
        have hE7s := E7.trans e8
        have hWB : wr.heap.size ≤ w7.heap.size := E7.size
        generalize w7.heap.size = B at *
        clear E7 e8 E7' hlook
        by_cases hs : fs = st
        case pos =>
          have bs : (fs != st) = false := by simpa using hs
          have HPD : Hid (pd = ⟨s, ty, kp, false, 0, 0⟩) := by show _ = _; exact HNEAR.out hs
          have BB := hB0
          clear hs hB0
          have EFX := hE7s
          have q0 := (blk_cell BB 0).trans rfl
          have q1 := (blk_cell BB 1).trans rfl
          have q2 := (blk_cell BB 2).trans rfl
          have q3 := (blk_cell BB 3).trans rfl
          have q4 := (blk_cell BB 4).trans rfl
          have q5 := (blk_cell BB 5).trans rfl
          have EF := E8
          have hPO := Lib.hid (HPO.out.ext EFX)
          have hszF := EF.size
          go_wp2_with (at_builtin; refine wpList_append_own_at _ rfl _ _ 34 rfl V2.heap.size 51 i0 _ 6 56 Tryz.underlying34 hinf hz0 hz1 hz2 rfl (by decide) _ _ _ rfl (World.ownsRow.alloc hPO.out _) ⟨_, 0, none⟩ 1 1 (plC ⟨s, ty, kp, false, 0, 0⟩) rfl rfl (cell_many_new _ _ _) (by simp [Value.oneCell', plC]) (by unfold maxLen; omega) (by omega) (by simp; omega) ?_; intro v9 w9 hown9 hgrow9 _ hat9; have V9 := PlO.snoc hown9; have E9 : Ext V2 w9 := Ext.then (EF.alloc _) (Chg.of_grownBy hgrow9) (fun b hb => (PlO.rows hPO.out b hb)); clear hown9 hgrow9 hat9)
          rw [← HPD.out, ← HSTP.out] at V9
          have HV9 := Lib.hid V9
          clear V9 q0 q1 q2 q3 q4 q5 BB
          go_wp2_with fail
          go_roundw
          case rel => exact ⟨k + 1, by omega, by go_num, HV9.out, E9⟩
          case measure => simp [intOf]; omega
        have bs : (fs != st) = true := by simpa using hs
        have HPD0 : Hid (pd = ⟨s, ty, kp, true, fs, df⟩) := by show _ = _; exact HFAR.out hs
        have f3 := blk_free hB0 3
        have f4 := blk_free hB0 4
        have k3 := (blk_cell hB0 3).trans rfl
        have k4 := (blk_cell hB0 4).trans rfl
        have B2 := blk_set (blk_set hB0 3 (.bool true)) 4 (.int .i64 fs)
        have C9 : Chg (fun q => q = B) W8 ((W8.setCell ⟨B, 3, none⟩ (.bool true)).setCell ⟨B, 4, none⟩ (.int .i64 fs)) := by
          have c9 : Chg (fun q => q = B) W8 (W8.setCell ⟨B, 3, none⟩ (.bool true)) := (Chg.refl _ _).setCell _ _ (.inl (Eq.refl _))
          exact c9.setCell _ _ (.inl (Eq.refl _))
        have B2 : ((W8.setCell ⟨B, 3, none⟩ (.bool true)).setCell ⟨B, 4, none⟩ (.int .i64 fs)).heap[B]? = some (.cells #[.string s, .int .u8 ty, .int .i64 kp, .bool true, .int .i64 fs, .int .i64 0] 51 (0, 0)) := B2
        have hPBw := hsz
        have hnB : wr.heap.size ≤ B := hWB
        clear hs
        go_upto_region 25 with (fail)
        have E9 : Ext V2 _ := Ext.then E8 C9 (fun b hb => by omega)
        have E9w : Ext wr _ := Ext.then hE7s C9 (fun b hb => by omega)
        generalize ((W8.setCell ⟨B, 3, none⟩ (.bool true)).setCell ⟨B, 4, none⟩ (.int .i64 fs)) = W9 at *
        clear f3 f4 k3 k4 C9 hB0
        rcases HFL.out with hfi | ⟨ki, xk, hxk, hfi⟩
        case inl =>
          subst hfi
          have HPD : Hid (pd = ⟨s, ty, kp, true, fs, 0⟩) := by show _ = _; rw [HPD0.out, HDF.out]; rfl
          have bge : ¬ (0 : Int) ≤ -1 := by omega
          have BB := B2
          have EFX := E9w
          clear B2
          have q0 := (blk_cell BB 0).trans rfl
          have q1 := (blk_cell BB 1).trans rfl
          have q2 := (blk_cell BB 2).trans rfl
          have q3 := (blk_cell BB 3).trans rfl
          have q4 := (blk_cell BB 4).trans rfl
          have q5 := (blk_cell BB 5).trans rfl
          have EF := E9
          have hPO := Lib.hid (HPO.out.ext EFX)
          have hszF := EF.size
          go_wp2_with (at_builtin; refine wpList_append_own_at _ rfl _ _ 34 rfl V2.heap.size 51 i0 _ 6 56 Tryz.underlying34 hinf hz0 hz1 hz2 rfl (by decide) _ _ _ rfl (World.ownsRow.alloc hPO.out _) ⟨_, 0, none⟩ 1 1 (plC ⟨s, ty, kp, true, fs, 0⟩) rfl rfl (cell_many_new _ _ _) (by simp [Value.oneCell', plC]) (by unfold maxLen; omega) (by omega) (by simp; omega) ?_; intro v9 w9 hown9 hgrow9 _ hat9; have V9 := PlO.snoc hown9; have E9 : Ext V2 w9 := Ext.then (EF.alloc _) (Chg.of_grownBy hgrow9) (fun b hb => (PlO.rows hPO.out b hb)); clear hown9 hgrow9 hat9)
          rw [← HPD.out, ← HSTP.out] at V9
          have HV9 := Lib.hid V9
          clear V9 q0 q1 q2 q3 q4 q5 BB
          go_wp2_with fail
          go_roundw
          case rel => exact ⟨k + 1, by omega, by go_num, HV9.out, E9⟩
          case measure => simp [intOf]; omega
        subst hfi
        have hki := (List.getElem?_eq_some_iff.1 hxk).1
        have hki2 : (ki : Int) < (p.flows.length : Int) := by omega
        have hdf2 : df = xk.df := by
          rw [HDF.out, if_neg (by omega), Int.toNat_natCast, hxk]; rfl
        obtain ⟨_, _, _, _, b, o, rfl, _, _, c0, c1, c2, c3, _⟩ := (HF.out.ext (e0.trans (EwW.trans (HG3.out.trans E9)))).at hxk
        generalize xk.df = xdf at *
        subst hdf2
        have HPD := HPD0
        have f5 := blk_free B2 5
        have k5 := (blk_cell B2 5).trans rfl
        have B3 := blk_set B2 5 (.int .i64 df)
        have C10 : Chg (fun q => q = B) W9 (W9.setCell ⟨B, 5, none⟩ (.int .i64 df)) := (Chg.refl _ _).setCell _ _ (.inl (Eq.refl _))
        have B3 : (W9.setCell ⟨B, 5, none⟩ (.int .i64 df)).heap[B]? = some (.cells #[.string s, .int .u8 ty, .int .i64 kp, .bool true, .int .i64 fs, .int .i64 df] 51 (0, 0)) := B3
        clear HFL HDF HFAR HNEAR
        go_upto_region 27 with (fail)
        have E10 : Ext V2 _ := Ext.then E9 C10 (fun b hb => by omega)
        have EFX : Ext wr _ := Ext.then E9w C10 (fun b hb => by omega)
        generalize (W9.setCell ⟨B, 5, none⟩ (.int .i64 df)) = W10 at *
        have BB := B3
        clear f5 k5 C10 B2 B3 c0 c1 c2 c3
        have q0 := (blk_cell BB 0).trans rfl
        have q1 := (blk_cell BB 1).trans rfl
        have q2 := (blk_cell BB 2).trans rfl
        have q3 := (blk_cell BB 3).trans rfl
        have q4 := (blk_cell BB 4).trans rfl
        have q5 := (blk_cell BB 5).trans rfl
        have EF := E10
        have hPO := Lib.hid (HPO.out.ext EFX)
        have hszF := EF.size
        go_wp2_with (at_builtin; refine wpList_append_own_at _ rfl _ _ 34 rfl V2.heap.size 51 i0 _ 6 56 Tryz.underlying34 hinf hz0 hz1 hz2 rfl (by decide) _ _ _ rfl (World.ownsRow.alloc hPO.out _) ⟨_, 0, none⟩ 1 1 (plC ⟨s, ty, kp, true, fs, df⟩) rfl rfl (cell_many_new _ _ _) (by simp [Value.oneCell', plC]) (by unfold maxLen; omega) (by omega) (by simp; omega) ?_; intro v9 w9 hown9 hgrow9 _ hat9; have V9 := PlO.snoc hown9; have E9 : Ext V2 w9 := Ext.then (EF.alloc _) (Chg.of_grownBy hgrow9) (fun b hb => (PlO.rows hPO.out b hb)); clear hown9 hgrow9 hat9)
        rw [← HPD.out, ← HSTP.out] at V9
        have HV9 := Lib.hid V9
        clear V9 q0 q1 q2 q3 q4 q5 BB
        go_wp2_with fail
        go_roundw
        case rel => exact ⟨k + 1, by omega, by go_num, HV9.out, E9⟩
        case measure => simp [intOf]; omega
      obtain rfl : k = NM.length := by omega
      rw [List.take_length] at hpo
      have hpP : placesP p l st = NM.map (placeOf p l st) := HPL.out
      have hml : (NM.map (placeOf p l st)).length = NM.length := List.length_map _
      rw [← hpP] at hpo hml
      have hpv := (PlV.of hpo).base (show w.heap.size ≤ V2.heap.size from (e0.trans (EwW.trans HG3.out)).size)
      have hpv2 : PlV wr w.heap.size (placesP p l st) (.slice ta NM.length NM.length) := hpv.clip
      have HPV := Lib.hid hpv2
      have hcap : NM.length ≤ tc := by
        obtain ⟨a', c', ef, h1, _⟩ := hpv.form
        simp only [Value.slice.injEq] at ef
        omega
      clear hpo hpP hml hpv hpv2 HPL H6
      go_wp2_with fail
      refine (clipPl_any ta NM.length tc _ hcap (by omega)).mono ?_
      rintro e w7 ⟨rfl, rfl⟩
      go_wp2_with fail
      go_ret2
      exact ⟨_, by rw [HE.out]; rfl, HPV.out, e0.trans (EwW.trans (HG3.out.trans hE))⟩
end Go.Proofs.YtgkbhonjodcakaaGreat
namespace Go.Proofs.YtgkbhonjodcakaaGreat
open Go.RowKit
set_option linter.unusedVariables false
set_option linter.unusedSimpArgs false

def isC (x : IsD) : List Value := [.int .u8 x.op, .int .i64 x.n, .int .i64 x.ago]
theorem isC_len (x : IsD) : (isC x).length = 3 := rfl
theorem infoIs : (Tryz.prog.info? 53).map (fun i => (i.zero, i.size, i.bytes)) = some (some (.agg #[.int .u8 0, .int .i64 0, .int .i64 0]), 3, 24) := by kernel_rfl
def RdPlS (w : World) (l : List PlD) (v : Value) : Prop := ∃ a cap, v = .slice a l.length cap ∧ fitsR l.length 56 ∧ l.length ≤ cap ∧ cap ≤ maxLen ∧
  ∀ i x, l[i]? = some x → ∃ b o, a = some ⟨b, o, none⟩ ∧ b < w.heap.size ∧ ∀ c, c < 6 → w.cell? ⟨b, o + i * 6 + c, none⟩ = (plC x)[c]?
def RdIsS (w : World) (l : List IsD) (v : Value) : Prop := ∃ a cap, v = .slice a l.length cap ∧ fitsR l.length 24 ∧ l.length ≤ cap ∧ cap ≤ maxLen ∧
  ∀ i x, l[i]? = some x → isU8 x.op ∧ ∃ b o, a = some ⟨b, o, none⟩ ∧ b < w.heap.size ∧ ∀ c, c < 3 → w.cell? ⟨b, o + i * 3 + c, none⟩ = (isC x)[c]?
theorem RdPlS.chg {w w' : World} {l : List PlD} {v : Value} {S : Nat → Prop} (h : RdPlS w l v) (he : Chg S w w') (hS : ∀ a n c, v = .slice (some a) n c → ¬ S a.block) : RdPlS w' l v := by
  obtain ⟨a, cap, rfl, h1, h2, h3, h4⟩ := h
  refine ⟨a, cap, rfl, h1, h2, h3, fun i x hx => ?_⟩
  obtain ⟨b, o, rfl, hb, hc⟩ := h4 i x hx
  refine ⟨b, o, rfl, by have := he.size; omega, fun c hcc => ?_⟩
  have hv : (plC x)[c]? = some ((plC x)[c]'(by rw [plC_len]; exact hcc)) := List.getElem?_eq_getElem _
  rw [hv]
  exact he.cell ((hc c hcc).trans hv) (hS ⟨b, o, none⟩ _ _ rfl)
theorem RdPlS.ext {w w' : World} {l : List PlD} {v : Value} (h : RdPlS w l v) (he : Ext w w') : RdPlS w' l v := h.chg he (fun _ _ _ _ h => h)
theorem RdIsS.chg {w w' : World} {l : List IsD} {v : Value} {S : Nat → Prop} (h : RdIsS w l v) (he : Chg S w w') (hS : ∀ a n c, v = .slice (some a) n c → ¬ S a.block) : RdIsS w' l v := by
  obtain ⟨a, cap, rfl, h1, h2, h3, h4⟩ := h
  refine ⟨a, cap, rfl, h1, h2, h3, fun i x hx => ?_⟩
  obtain ⟨h0, b, o, rfl, hb, hc⟩ := h4 i x hx
  refine ⟨h0, b, o, rfl, by have := he.size; omega, fun c hcc => ?_⟩
  have hv : (isC x)[c]? = some ((isC x)[c]'(by rw [isC_len]; exact hcc)) := List.getElem?_eq_getElem _
  rw [hv]
  exact he.cell ((hc c hcc).trans hv) (hS ⟨b, o, none⟩ _ _ rfl)
theorem RdIsS.ext {w w' : World} {l : List IsD} {v : Value} (h : RdIsS w l v) (he : Ext w w') : RdIsS w' l v := h.chg he (fun _ _ _ _ h => h)
theorem RdPlS.form {w : World} {l : List PlD} {v : Value} (h : RdPlS w l v) : ∃ a cap, v = .slice a l.length cap ∧ l.length ≤ cap ∧ cap ≤ maxLen ∧ l.length * 56 ≤ 140737488351232 := by
  obtain ⟨a, cap, rfl, h1, h2, h3, _⟩ := h
  exact ⟨a, cap, rfl, h2, h3, h1⟩
theorem RdIsS.form {w : World} {l : List IsD} {v : Value} (h : RdIsS w l v) : ∃ a cap, v = .slice a l.length cap ∧ l.length ≤ cap ∧ cap ≤ maxLen ∧ l.length * 24 ≤ 140737488351232 := by
  obtain ⟨a, cap, rfl, h1, h2, h3, _⟩ := h
  exact ⟨a, cap, rfl, h2, h3, h1⟩
theorem RdPlS.get {w : World} {l : List PlD} {a : Option Addr} {n cap : Nat} (h : RdPlS w l (.slice a n cap)) {i : Nat} {x : PlD} (hx : l[i]? = some x) : ∃ b o, a = some ⟨b, o, none⟩ ∧ b < w.heap.size ∧
    w.cell? ⟨b, o + i * 6, none⟩ = some (.string x.name) ∧ w.cell? ⟨b, o + i * 6 + 1, none⟩ = some (.int .u8 x.ty) ∧ w.cell? ⟨b, o + i * 6 + 2, none⟩ = some (.int .i64 x.keep) ∧ w.cell? ⟨b, o + i * 6 + 3, none⟩ = some (.bool x.far) ∧ w.cell? ⟨b, o + i * 6 + 4, none⟩ = some (.int .i64 x.frm) ∧ w.cell? ⟨b, o + i * 6 + 5, none⟩ = some (.int .i64 x.df) := by
  obtain ⟨a', cap', e, _, _, _, h4⟩ := h
  simp only [Value.slice.injEq] at e
  obtain ⟨rfl, _, _⟩ := e
  obtain ⟨b, o, rfl, hb, hc⟩ := h4 i x hx
  exact ⟨b, o, rfl, hb, hc 0 (by omega), hc 1 (by omega), hc 2 (by omega), hc 3 (by omega), hc 4 (by omega), hc 5 (by omega)⟩
theorem RdIsS.get {w : World} {l : List IsD} {a : Option Addr} {n cap : Nat} (h : RdIsS w l (.slice a n cap)) {i : Nat} {x : IsD} (hx : l[i]? = some x) : ∃ b o, a = some ⟨b, o, none⟩ ∧ b < w.heap.size ∧ isU8 x.op ∧
    w.cell? ⟨b, o + i * 3, none⟩ = some (.int .u8 x.op) ∧ w.cell? ⟨b, o + i * 3 + 1, none⟩ = some (.int .i64 x.n) ∧ w.cell? ⟨b, o + i * 3 + 2, none⟩ = some (.int .i64 x.ago) := by
  obtain ⟨a', cap', e, _, _, _, h4⟩ := h
  simp only [Value.slice.injEq] at e
  obtain ⟨rfl, _, _⟩ := e
  obtain ⟨h0, b, o, rfl, hb, hc⟩ := h4 i x hx
  exact ⟨b, o, rfl, hb, h0, hc 0 (by omega), hc 1 (by omega), hc 2 (by omega)⟩
theorem RdPlS.nil (w : World) : RdPlS w [] (.slice none 0 0) := ⟨none, 0, rfl, by simp [fitsR], Nat.le_refl _, Nat.zero_le _, fun i x hx => by simp at hx⟩
theorem RdIsS.nil (w : World) : RdIsS w [] (.slice none 0 0) := ⟨none, 0, rfl, by simp [fitsR], Nat.le_refl _, Nat.zero_le _, fun i x hx => by simp at hx⟩
theorem PlV.rdS {w : World} {base : Nat} {l : List PlD} {v : Value} (h : PlV w base l v) (hl : l.length ≤ 1000000) : RdPlS w l v := by
  obtain ⟨a, cap, rfl, hc, hm⟩ := h.form
  refine ⟨a, cap, rfl, by unfold fitsR; omega, hc, hm, fun i x hx => ?_⟩
  obtain ⟨g, rfl, _, hg, hcell⟩ := h.get hx
  exact ⟨g, 0, rfl, hg, fun c hcc => by rw [Nat.zero_add]; exact hcell c hcc⟩
/-- A list of instructions in a block that is new behind base. -/
def IsO (w : World) (base : Nat) (l : List IsD) (v : Value) : Prop := w.ownsRow base 53 3 v l.length (l.flatMap isC)
theorem IsO.nil (w : World) (base : Nat) : IsO w base [] (.slice none 0 0) := World.ownsRow_nil _ _ _ _
theorem IsO.form {w : World} {base : Nat} {l : List IsD} {v : Value} (h : IsO w base l v) : ∃ a cap, v = .slice a l.length cap := by
  rcases h.2 with ⟨h0, h1⟩ | ⟨g, cap, cur, h1, _⟩
  · exact ⟨none, 0, by rw [h0, h1]⟩
  · exact ⟨_, _, h1⟩
theorem IsO.chg {w w' : World} {base : Nat} {l : List IsD} {v : Value} (h : IsO w base l v) {S : Nat → Prop} (hc : Chg S w w') (hS : ∀ g, v.ownBlock = some g → ¬ S g) : IsO w' base l v := by
  refine ⟨h.1, ?_⟩
  rcases h.2 with ⟨h0, h1⟩ | ⟨g, cap, cur, h1, h2, h3, h4⟩
  · exact .inl ⟨h0, h1⟩
  · exact .inr ⟨g, cap, cur, h1, h2, (hc.block g (lt_of_block h3) (hS g (by rw [h1]; rfl))).trans h3, h4⟩
theorem IsO.ext {w w' : World} {base : Nat} {l : List IsD} {v : Value} (h : IsO w base l v) (he : Ext w w') : IsO w' base l v := h.chg he (fun _ _ h => h)
theorem IsO.snoc {w : World} {base : Nat} {l : List IsD} {x : IsD} {v : Value} (h : w.ownsRow base 53 3 v (l.length + 1) (l.flatMap isC ++ isC x)) : IsO w base (l ++ [x]) v := by
  unfold IsO
  rw [List.length_append, List.flatMap_append]
  simpa using h
/-- A list of instructions in a new block, read. -/
def IsV (w : World) (base : Nat) (l : List IsD) (v : Value) : Prop := (v = .slice none 0 0 ∧ l = []) ∨ ∃ (g cap : Nat) (cur : Array Value), v = .slice (some ⟨g, 0, none⟩) l.length cap ∧ base ≤ g ∧ w.heap[g]? = some (.cells cur 53 (0, 0)) ∧ l.length ≤ cap ∧ cap * 3 ≤ cur.size ∧ cap ≤ maxLen ∧ RowOf isC 3 cur l
theorem IsV.of {w : World} {base : Nat} {l : List IsD} {v : Value} (h : IsO w base l v) : IsV w base l v := by
  have h0 := h
  rcases h.2 with ⟨h1, h2⟩ | ⟨g, cap, cur, h1, h2, _⟩
  · exact .inl ⟨h1, List.length_eq_zero_iff.1 h2⟩
  · subst h1
    obtain ⟨cur, a1, a2, a3, a4, a5, a6⟩ := RowOf.own (r := []) isC_len (by simpa [IsO] using h0)
    exact .inr ⟨g, cap, cur, rfl, a6, a1, a4, by omega, a5, a3⟩
theorem IsV.form {w : World} {base : Nat} {l : List IsD} {v : Value} (h : IsV w base l v) : ∃ a cap, v = .slice a l.length cap ∧ l.length ≤ cap ∧ cap ≤ maxLen := by
  rcases h with ⟨h0, rfl⟩ | ⟨g, cap, cur, h1, _, _, h4, _, h5, _⟩
  · exact ⟨none, 0, h0, Nat.le_refl _, Nat.zero_le _⟩
  · exact ⟨_, _, h1, h4, h5⟩
theorem IsV.chg {w w' : World} {base : Nat} {l : List IsD} {v : Value} {S : Nat → Prop} (h : IsV w base l v) (hc : Chg S w w') (hS : ∀ g, v.ownBlock = some g → ¬ S g) : IsV w' base l v := by
  rcases h with h | ⟨g, cap, cur, h1, h2, h3, h4⟩
  · exact .inl h
  · exact .inr ⟨g, cap, cur, h1, h2, hc.heap h3 (hS g (by rw [h1]; rfl)), h4⟩
theorem IsV.ext {w w' : World} {base : Nat} {l : List IsD} {v : Value} (h : IsV w base l v) (hc : Ext w w') : IsV w' base l v := h.chg hc (fun _ _ h => h)
theorem IsV.base {w : World} {base base' : Nat} {l : List IsD} {v : Value} (h : IsV w base l v) (hb : base' ≤ base) : IsV w base' l v := by
  rcases h with h | ⟨g, cap, cur, h1, h2, h3, h4⟩
  · exact .inl h
  · exact .inr ⟨g, cap, cur, h1, Nat.le_trans hb h2, h3, h4⟩
theorem IsV.get {w : World} {base n : Nat} {l : List IsD} {a : Option Addr} {cap : Nat} (h : IsV w base l (.slice a n cap)) {i : Nat} {x : IsD} (hs : l[i]? = some x) : ∃ g, a = some ⟨g, 0, none⟩ ∧ base ≤ g ∧ g < w.heap.size ∧ ∀ c, c < 3 → w.cell? ⟨g, i * 3 + c, none⟩ = (isC x)[c]? := by
  rcases h with ⟨_, rfl⟩ | ⟨g, c', cur, h1, h2, h3, _, _, _, h4⟩
  · simp at hs
  · simp only [Value.slice.injEq] at h1
    obtain ⟨rfl, rfl, rfl⟩ := h1
    exact ⟨g, rfl, h2, lt_of_block h3, fun c hc => (blk_cell h3 _).trans (h4 i x hs c hc)⟩
theorem IsV.clip {w : World} {base n : Nat} {l : List IsD} {a : Option Addr} {cap : Nat} (h : IsV w base l (.slice a n cap)) : IsV w base l (.slice a n n) := by
  rcases h with ⟨h0, rfl⟩ | ⟨g, c', cur, h1, h2, h3, h4, h5, h6, h7⟩
  · simp only [Value.slice.injEq] at h0
    obtain ⟨rfl, rfl, rfl⟩ := h0
    exact .inl ⟨rfl, rfl⟩
  · simp only [Value.slice.injEq] at h1
    obtain ⟨rfl, rfl, rfl⟩ := h1
    exact .inr ⟨g, l.length, cur, rfl, h2, h3, Nat.le_refl _, by omega, by omega, h7⟩
theorem IsV.rdS {w : World} {base : Nat} {l : List IsD} {v : Value} (h : IsV w base l v) (hl : l.length ≤ 1000000) (ho : ∀ x, x ∈ l → isU8 x.op) : RdIsS w l v := by
  obtain ⟨a, cap, rfl, hc, hm⟩ := h.form
  refine ⟨a, cap, rfl, by unfold fitsR; omega, hc, hm, fun i x hx => ⟨ho x (List.mem_of_getElem? hx), ?_⟩⟩
  obtain ⟨g, rfl, _, hg, hcell⟩ := h.get hx
  exact ⟨g, 0, rfl, hg, fun c hcc => by rw [Nat.zero_add]; exact hcell c hcc⟩
end Go.Proofs.YtgkbhonjodcakaaGreat
namespace Go.Proofs.YtgkbhonjodcakaaGreat
open Go.RowKit
set_option linter.unusedVariables false
set_option linter.unusedSimpArgs false

theorem is_add (b o j : Nat) : (⟨b, o, none⟩ : Addr).add j = ⟨b, o + j, none⟩ := by
  unfold Addr.add
  split
  · rename_i h; subst h; rfl
  · rfl
theorem isNews {w : World} {l : List IsD} {b o n cap : Nat} (h : RdIsS w l (.slice (some ⟨b, o, none⟩) n cap)) : ∀ j u, (l.flatMap isC)[j]? = some u → w.cell? ((⟨b, o, none⟩ : Addr).add j) = some u := by
  intro j u hj
  obtain ⟨a', cap', e, _, _, _, h4⟩ := h
  simp only [Value.slice.injEq] at e
  obtain ⟨rfl, _, _⟩ := e
  have hjl : j < l.length * 3 := by
    have := (List.getElem?_eq_some_iff.1 hj).1
    rwa [flat_len isC_len] at this
  have hx := List.getElem?_eq_getElem (show j / 3 < l.length by omega)
  have hf := flat_at isC_len [] hx (j := j % 3) (by omega)
  rw [List.append_nil, show j / 3 * 3 + j % 3 = j from by omega, hj] at hf
  obtain ⟨_, b', o', e, _, hc⟩ := h4 (j / 3) _ hx
  simp only [Option.some.injEq, Addr.mk.injEq, and_true] at e
  obtain ⟨rfl, rfl⟩ := e
  have := hc (j % 3) (by omega)
  rw [is_add, ← show o + j / 3 * 3 + j % 3 = o + j from by omega, this, ← hf]
theorem is_one {l : List IsD} : ∀ u ∈ l.flatMap isC, u.oneCell' = true := by
  intro u hu
  obtain ⟨x, _, hx⟩ := List.mem_flatMap.1 hu
  simp only [isC, List.mem_cons, List.not_mem_nil, or_false] at hx
  rcases hx with rfl | rfl | rfl <;> rfl
theorem RdIsS.u8 {w : World} {l : List IsD} {v : Value} (h : RdIsS w l v) : ∀ x, x ∈ l → isU8 x.op := by
  intro x hx
  obtain ⟨i, hi, rfl⟩ := List.getElem_of_mem hx
  obtain ⟨_, _, _, _, _, _, h4⟩ := h
  exact (h4 i _ (List.getElem?_eq_getElem hi)).1
theorem RdIsS.take {w : World} {l : List IsD} {b o n cap : Nat} (h : RdIsS w l (.slice (some ⟨b, o, none⟩) n cap)) {k c : Nat} (hk : k ≤ l.length) (hc : k ≤ c) (hm : c ≤ maxLen) : RdIsS w (l.take k) (.slice (some ⟨b, o, none⟩) k c) := by
  obtain ⟨a', cap', e, hf, _, _, h4⟩ := h
  simp only [Value.slice.injEq] at e
  obtain ⟨rfl, _, _⟩ := e
  have hl : (l.take k).length = k := by rw [List.length_take]; omega
  refine ⟨_, c, by rw [hl], by rw [hl]; unfold fitsR at *; omega, by rw [hl]; exact hc, hm, fun i x hx => ?_⟩
  rw [List.getElem?_take] at hx
  split at hx
  · exact h4 i x hx
  · cases hx
theorem RdIsS.drop {w : World} {l : List IsD} {b o n cap : Nat} (h : RdIsS w l (.slice (some ⟨b, o, none⟩) n cap)) {k c : Nat} (hk : k ≤ l.length) (hc : l.length - k ≤ c) (hm : c ≤ maxLen) : RdIsS w (l.drop k) (.slice (some ⟨b, o + k * 3, none⟩) (l.length - k) c) := by
  obtain ⟨a', cap', e, hf, _, _, h4⟩ := h
  simp only [Value.slice.injEq] at e
  obtain ⟨rfl, _, _⟩ := e
  have hl : (l.drop k).length = l.length - k := List.length_drop
  refine ⟨_, c, by rw [hl], by rw [hl]; unfold fitsR at *; omega, by rw [hl]; exact hc, hm, fun i x hx => ?_⟩
  rw [List.getElem?_drop] at hx
  obtain ⟨h0, b', o', e, hb, hcc⟩ := h4 (k + i) x hx
  simp only [Option.some.injEq, Addr.mk.injEq, and_true] at e
  obtain ⟨rfl, rfl⟩ := e
  refine ⟨h0, _, _, rfl, hb, fun j hj => ?_⟩
  have := hcc j hj
  rw [show o + k * 3 + i * 3 + j = o + (k + i) * 3 + j from by omega]
  exact this
theorem is_none {w : World} {ad : Addr} {c : Nat} (hm : c ≤ maxLen) : RdIsS w [] (.slice (some ad) 0 c) := ⟨_, c, rfl, by simp [fitsR], Nat.zero_le _, hm, fun i x hx => by simp at hx⟩
theorem is_single {w : World} {o : Int} (ho : isU8 o) : RdIsS (w.alloc (.cells #[.int .u8 o, .int .i64 0, .int .i64 0] 53)) [⟨o, 0, 0⟩] (.slice (some ⟨w.heap.size, 0, none⟩) 1 1) := by
  have hb := heap_alloc_new w (.cells #[.int .u8 o, .int .i64 0, .int .i64 0] 53)
  refine ⟨_, 1, rfl, by simp [fitsR], Nat.le_refl _, by simp [maxLen], fun i x hx => ?_⟩
  match i, hx with
  | 0, hx =>
    simp only [List.getElem?_cons_zero, Option.some.injEq] at hx
    subst hx
    refine ⟨ho, _, 0, rfl, lt_of_block hb, fun c hc => ?_⟩
    match c, hc with
    | 0, _ => exact (blk_cell hb _).trans rfl
    | 1, _ => exact (blk_cell hb _).trans rfl
    | 2, _ => exact (blk_cell hb _).trans rfl
  | i + 1, hx => simp at hx
/-- A list behind a list of one's own. -/
theorem app_is {w : World} {base : Nat} {l m : List IsD} {v : Value} {b o n c : Nat} (hO : IsO w base l v) (hb : base ≤ w.heap.size) (hR : RdIsS w m (.slice (some ⟨b, o, none⟩) n c)) (hn : n = m.length) (hl : l.length + m.length ≤ 1000000) (ty : TypeId) :
    ∃ a' c' w', (Builtin.append_ #[44, 44] ty #[v, .slice (some ⟨b, o, none⟩) n c]).run Tryz.prog w = .ok (.slice a' (l.length + m.length) c') w' ∧ IsO w' base (l ++ m) (.slice a' (l.length + m.length) c') ∧ Chg (fun q => v.ownBlock = some q) w w' := by
  subst hn
  obtain ⟨ti, hinf, hz0, hz1, hz2⟩ := info_parts infoIs
  obtain ⟨v', w', hr, h2, h3, _, _⟩ := run_append_own_at (P := Tryz.prog) (w := w) base 44 ty 53 ti _ 3 24 Tryz.underlying44 hinf hz0 hz1 hz2 rfl (by decide) v l.length (l.flatMap isC) hO ⟨b, o, none⟩ m.length c (m.flatMap isC) (flat_len isC_len m) (isNews hR) is_one (by unfold maxLen; omega) (by omega) hb
  have hI : IsO w' base (l ++ m) v' := by
    unfold IsO
    rw [List.length_append, List.flatMap_append]
    exact h2
  obtain ⟨a', c', rfl⟩ := hI.form
  rw [List.length_append] at hr hI
  exact ⟨a', c', w', hr, hI, Chg.of_grownBy h3⟩
theorem app_new {w : World} {m : List IsD} {b o n c : Nat} (hR : RdIsS w m (.slice (some ⟨b, o, none⟩) n c)) (hn : n = m.length) (hl : m.length ≤ 1000000) (ty : TypeId) :
    ∃ a' c' w', (Builtin.append_ #[44, 44] ty #[.slice none 0 0, .slice (some ⟨b, o, none⟩) n c]).run Tryz.prog w = .ok (.slice a' m.length c') w' ∧ IsO w' w.heap.size m (.slice a' m.length c') ∧ Ext w w' := by
  obtain ⟨a', c', w', h1, h2, h3⟩ := app_is (IsO.nil w w.heap.size) (Nat.le_refl _) hR hn (by simpa using hl) ty
  simp only [List.length_nil, Nat.zero_add, List.nil_append] at h1 h2
  exact ⟨a', c', w', h1, h2, h3.mono (fun q _ h => by cases h)⟩
end Go.Proofs.YtgkbhonjodcakaaGreat
