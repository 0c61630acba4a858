/- What stands in this text: CutP, OfRules, TyR, TyRules, CodeP, MapI, KeyMap. -/
import Derived.Test.YtgkbhonjodcakaaGreatJ0
import Derived.Test.YtgkbhonjodcakaaGreatJ4
import Derived.Carry
import Derived.MapKept
import Derived.Maps.AppendAt
import Derived.Laws.EntriesVeiled
import Derived.Test.YtgkbhonjodcakaaGreatRows
import Derived.Lib.Hide
import Derived.Deep.RegionHeld3
namespace Go.Proofs.YtgkbhonjodcakaaGreat
open Go.RowKit
set_option linter.unusedVariables false
set_option linter.unusedSimpArgs false

/-- All names, each with its station, as they are declared. -/
def sitesP (p : PrD) : List (ByteArray × Int) := p.ins.map (fun x => (x.name, x.st)) ++ p.flows.map (fun x => (x.name, x.st))
def ownN (p : PrD) (st : Int) : List ByteArray := ((sitesP p).filter fun x => decide (x.2 = st)).map (·.1)
def asksF (x : FlD) (s : ByteArray) : Bool := (gthE [] 0 x.body).any fun r => decide (r.1 = s)
def hereAsks (p : PrD) (st : Int) (s : ByteArray) : Bool := p.flows.any fun x => decide (x.st = st) && asksF x s
def stationsL (n : Int) : List Int := (List.range n.toNat).map fun (k : Nat) => ((k : Int) + 1)
def needsAt (p : PrD) (st s : Int) : List ByteArray := if s = st then [] else (ownN p s).filter (hereAsks p st)
noncomputable def needsP (p : PrD) (st : Int) : List ByteArray := if namesP p = 0 then (stationsL p.st).flatMap (needsAt p st) else []

theorem sites_names (p : PrD) : (sitesP p).map (·.1) = namesT p := by
  rw [namesT_eq, sitesP, List.map_append, List.map_map, List.map_map]; rfl
theorem stations_mem {n s : Int} : s ∈ stationsL n ↔ 1 ≤ s ∧ s ≤ n := by
  unfold stationsL
  rw [List.mem_map]
  constructor
  · rintro ⟨k, hk, rfl⟩
    have := List.mem_range.1 hk
    omega
  · rintro ⟨h1, h2⟩
    exact ⟨(s - 1).toNat, List.mem_range.2 (by omega), by omega⟩
theorem own_mem {p : PrD} {st : Int} {s : ByteArray} : s ∈ ownN p st ↔ (s, st) ∈ sitesP p := by
  unfold ownN
  rw [List.mem_map]
  constructor
  · rintro ⟨⟨a, b⟩, h, rfl⟩
    simp only [List.mem_filter, decide_eq_true_eq] at h
    obtain ⟨h, rfl⟩ := h
    exact h
  · intro h
    exact ⟨(s, st), List.mem_filter.2 ⟨h, by simp⟩, rfl⟩
theorem asks_mem {x : FlD} {s : ByteArray} : asksF x s = true ↔ s ∈ namesE x.body := by
  unfold asksF namesE
  rw [List.any_eq_true, List.mem_map]
  constructor
  · rintro ⟨r, hr, e⟩; exact ⟨r, hr, by simpa using e⟩
  · rintro ⟨r, hr, rfl⟩; exact ⟨r, hr, by simp⟩

/-- Where a name stands, counted from k; the last one counts. -/
def atG (s : ByteArray) : Nat → List ByteArray → Int → Int
  | _, [], d => d
  | k, x :: r, d => atG s (k + 1) r (if x = s then (k : Int) else d)
def atP (p : PrD) (s : ByteArray) : Int := atG s 0 (namesT p) 0
theorem atG_snoc (s x : ByteArray) : ∀ (l : List ByteArray) (k : Nat) (d : Int), atG s k (l ++ [x]) d = if x = s then ((k + l.length : Nat) : Int) else atG s k l d
  | [], k, d => by simp [atG]
  | y :: r, k, d => by
    rw [List.cons_append, atG, atG_snoc s x r (k + 1), atG, List.length_cons, show k + 1 + r.length = k + (r.length + 1) from by omega]
theorem atG_none {s : ByteArray} : ∀ {l : List ByteArray} {k : Nat} {d : Int}, s ∉ l → atG s k l d = d
  | [], k, d, _ => rfl
  | y :: r, k, d, h => by
    simp only [List.mem_cons, not_or] at h
    rw [atG, if_neg (fun e => h.1 e.symm), atG_none h.2]
theorem atG_at {s : ByteArray} : ∀ {l : List ByteArray} {k i : Nat} {d : Int}, l.Nodup → l[i]? = some s → atG s k l d = ((k + i : Nat) : Int)
  | [], k, i, d, _, h => by simp at h
  | y :: r, k, 0, d, hn, h => by
    simp only [List.getElem?_cons_zero, Option.some.injEq] at h
    subst h
    rw [atG, if_pos rfl, atG_none (List.nodup_cons.1 hn).1]
    rfl
  | y :: r, k, i + 1, d, hn, h => by
    rw [atG, atG_at (List.nodup_cons.1 hn).2 (by simpa using h), show k + 1 + i = k + (i + 1) from by omega]
theorem atP_iff {p : PrD} (h : okN p) {s : ByteArray} (hs : s ∈ namesT p) {i : Nat} {x : ByteArray} (hx : (namesT p)[i]? = some x) : atP p s = (i : Int) ↔ x = s := by
  obtain ⟨j, hj, hjs⟩ := List.getElem_of_mem hs
  have hj' : (namesT p)[j]? = some s := by rw [List.getElem?_eq_getElem hj, hjs]
  have e := atG_at (k := 0) (d := 0) h.1 hj'
  rw [Nat.zero_add] at e
  unfold atP
  rw [e]
  constructor
  · intro hij
    have : j = i := by omega
    subst this
    rw [hj'] at hx
    exact (Option.some.inj hx).symm
  · rintro rfl
    have := (List.getElem?_inj hj h.1).1 (hj'.trans hx.symm)
    rw [this]
def keysF (p : PrD) (x : FlD) : List (Int × Int) := (gthE [] 0 x.body).map fun r => (atP p r.1, x.st)
def keysP (p : PrD) : List (Int × Int) := p.flows.flatMap (keysF p)
def hasK (l : List (Int × Int)) (k : Int × Int) : Bool := l.any fun q => decide (q = k)
theorem asked_names {p : PrD} (h : okN p) {x : FlD} (hx : x ∈ p.flows) {s : ByteArray} (hs : s ∈ namesE x.body) : s ∈ namesT p :=
  h.2.1 s (List.mem_append.2 (.inl (namesF_mem hx hs)))
theorem has_key {p : PrD} (h : okN p) {i : Nat} {nm : ByteArray} (hi : (namesT p)[i]? = some nm) (s : Int) : hasK (keysP p) ((i : Int), s) = hereAsks p s nm := by
  rw [Bool.eq_iff_iff]
  unfold hasK hereAsks keysP
  rw [List.any_eq_true, List.any_eq_true]
  constructor
  · rintro ⟨q, hq, e⟩
    have e : q = ((i : Int), s) := by simpa using e
    subst e
    obtain ⟨x, hx, hq⟩ := List.mem_flatMap.1 hq
    obtain ⟨r, hr, e⟩ := List.mem_map.1 hq
    simp only [Prod.mk.injEq] at e
    have hm : r.1 ∈ namesE x.body := List.mem_map.2 ⟨r, hr, rfl⟩
    have := (atP_iff h (asked_names h hx hm) hi).1 e.1
    refine ⟨x, hx, ?_⟩
    rw [Bool.and_eq_true]
    exact ⟨by simpa using e.2, asks_mem.2 (by rw [this]; exact hm)⟩
  · rintro ⟨x, hx, e⟩
    rw [Bool.and_eq_true] at e
    have e1 : x.st = s := by simpa using e.1
    have hm := asks_mem.1 e.2
    obtain ⟨r, hr, e2⟩ := List.mem_map.1 hm
    refine ⟨_, List.mem_flatMap.2 ⟨x, hx, List.mem_map.2 ⟨r, hr, rfl⟩⟩, ?_⟩
    have := (atP_iff h (asked_names h hx hm) hi).2 rfl
    rw [← e2] at this
    simp [this, e1]
/-- The names of a station of which something holds, by where they stand, counted from k. -/
def someG (st : Int) (q : Int → Bool) : Nat → List (ByteArray × Int) → List ByteArray
  | _, [] => []
  | k, x :: r => (if x.2 = st ∧ q k = true then [x.1] else []) ++ someG st q (k + 1) r
theorem someG_snoc (st : Int) (q : Int → Bool) (x : ByteArray × Int) : ∀ (l : List (ByteArray × Int)) (k : Nat), someG st q k (l ++ [x]) = someG st q k l ++ (if x.2 = st ∧ q ((k + l.length : Nat) : Int) = true then [x.1] else [])
  | [], k => by simp [someG]
  | y :: r, k => by
    rw [List.cons_append, someG, someG_snoc st q x r (k + 1), someG, List.length_cons, show k + 1 + r.length = k + (r.length + 1) from by omega, List.append_assoc]
theorem someG_eq {st : Int} {q : Int → Bool} {g : ByteArray → Bool} : ∀ {l : List (ByteArray × Int)} {k : Nat}, (∀ i x, l[i]? = some x → x.2 = st → q ((k + i : Nat) : Int) = g x.1) → someG st q k l = ((l.filter fun x => decide (x.2 = st)).map (·.1)).filter g
  | [], k, _ => rfl
  | y :: r, k, h => by
    rw [someG, someG_eq (l := r) (k := k + 1) (fun i x hx hs => by rw [show k + 1 + i = k + (i + 1) from by omega]; exact h (i + 1) x (by simpa using hx) hs)]
    by_cases hy : y.2 = st
    · have h0 := h 0 y rfl hy
      rw [Nat.add_zero] at h0
      rw [List.filter_cons_of_pos (by simpa using hy), List.map_cons]
      by_cases hg : g y.1 = true
      · rw [if_pos ⟨hy, by rw [h0, hg]⟩, List.filter_cons_of_pos hg]; rfl
      · rw [if_neg (fun e => hg (by rw [← h0]; exact e.2)), List.filter_cons_of_neg hg]; rfl
    · rw [if_neg (fun e => hy e.1), List.filter_cons_of_neg (by simpa using hy)]; rfl
theorem site_name {p : PrD} {i : Nat} {x : ByteArray × Int} (h : (sitesP p)[i]? = some x) : (namesT p)[i]? = some x.1 := by
  rw [← sites_names, List.getElem?_map, h]; rfl
theorem fl_station {p : PrD} (h : progP p = true) {x : FlD} (hx : x ∈ p.flows) : 1 ≤ x.st ∧ x.st ≤ p.st := by
  have := (progP_parts.1 h).2.2.1 x hx
  simp only [flBad, mayP, Bool.or_eq_false_iff, Bool.not_eq_false', Bool.and_eq_true, decide_eq_true_eq] at this
  exact ⟨this.1.1.1.2, this.1.1.2⟩
theorem some_needs {p : PrD} (h : namesP p = 0) (st s : Int) : someG s (fun a => hasK (keysP p) (a, st)) 0 (sitesP p) = (ownN p s).filter (hereAsks p st) := by
  refine someG_eq (fun i x hx hs => ?_)
  rw [Nat.zero_add]
  exact has_key (names_okN h) (site_name hx) st
/-- A place. -/
structure PlD where
  name : ByteArray
  ty : Int
  keep : Int
  far : Bool
  frm : Int
  df : Int
noncomputable def keepF (p : PrD) (l : List Int) (i : Nat) (nm : ByteArray) (a : Int) (refs : List Rf) : Int := refs.foldl (fun a r => if r.1 = nm then max a (ageP p l i r).1 else a) a
noncomputable def keepG (p : PrD) (l : List Int) (st : Int) (nm : ByteArray) : Nat → List FlD → Int → Int
  | _, [], a => a
  | i, f :: r, a => keepG p l st nm (i + 1) r (if f.st = st then keepF p l i nm a (gthE [] 0 f.body) else a)
noncomputable def keepP (p : PrD) (l : List Int) (st : Int) (nm : ByteArray) : Int := keepG p l st nm 0 p.flows 0
theorem keepG_snoc (p : PrD) (l : List Int) (st : Int) (nm : ByteArray) (f : FlD) : ∀ (fl : List FlD) (i : Nat) (a : Int), keepG p l st nm i (fl ++ [f]) a = (if f.st = st then keepF p l (i + fl.length) nm (keepG p l st nm i fl a) (gthE [] 0 f.body) else keepG p l st nm i fl a)
  | [], i, a => by simp [keepG]
  | y :: r, i, a => by
    rw [List.cons_append, keepG, keepG_snoc p l st nm f r (i + 1), keepG, List.length_cons, show i + 1 + r.length = i + (r.length + 1) from by omega]
theorem keepF_snoc (p : PrD) (l : List Int) (i : Nat) (nm : ByteArray) (a : Int) (refs : List Rf) (r : Rf) : keepF p l i nm a (refs ++ [r]) = if r.1 = nm then max (keepF p l i nm a refs) (ageP p l i r).1 else keepF p l i nm a refs := by
  unfold keepF
  rw [List.foldl_append]
  rfl
def stOf (p : PrD) (nm : ByteArray) : Int := (findP nm p.flows p.ins).1
def tyOf (p : PrD) (nm : ByteArray) : Int := (findP nm p.flows p.ins).2.1
def flOf (p : PrD) (nm : ByteArray) : Int := (findP nm p.flows p.ins).2.2.1
def dfOf (p : PrD) (nm : ByteArray) : Int := if flOf p nm < 0 then 0 else (p.flows[(flOf p nm).toNat]?.map (·.df)).getD 0
noncomputable def placeOf (p : PrD) (l : List Int) (st : Int) (nm : ByteArray) : PlD :=
  if stOf p nm = st then ⟨nm, tyOf p nm, keepP p l st nm, false, 0, 0⟩ else ⟨nm, tyOf p nm, keepP p l st nm, true, stOf p nm, dfOf p nm⟩
noncomputable def placesE (p : PrD) (l : List Int) (st : Int) : Int := if namesP p = 0 ∧ 1 ≤ st ∧ st ≤ p.st then (if lateChk p l = true then 0 else 10) else 1
noncomputable def allN (p : PrD) (st : Int) : List ByteArray := ownN p st ++ needsP p st
noncomputable def placesP (p : PrD) (l : List Int) (st : Int) : List PlD := if placesE p l st = 0 then (allN p st).map (placeOf p l st) else []

/-- Where a name is, in a program whose names are fine. -/
theorem find_site {p : PrD} (h : okN p) {s : ByteArray} {st : Int} (hs : (s, st) ∈ sitesP p) : stOf p s = st ∧ (findP s p.flows p.ins).2.2.2 = true := by
  have look : ∀ {y : Thing} {l : List Thing}, (l.map (·.1)).Nodup → y ∈ l → lookT y.1 l = (y.2.1, y.2.2.1, y.2.2.2, true) := by
    intro y l
    induction l with
    | nil => intro _ h; simp at h
    | cons x r ih =>
      intro hn h
      simp only [List.map_cons, List.nodup_cons] at hn
      unfold lookT
      rcases List.mem_cons.1 h with rfl | h
      · rw [if_pos rfl]
      · rw [if_neg (fun e => hn.1 (by rw [e]; exact List.mem_map.2 ⟨y, h, rfl⟩)), ih hn.2 h]
  unfold stOf
  rw [findP_look]
  rcases List.mem_append.1 hs with hs | hs
  · obtain ⟨y, hy, e⟩ := List.mem_map.1 hs
    simp only [Prod.mk.injEq] at e
    obtain ⟨rfl, rfl⟩ := e
    have := look (y := inT y) h.1 (List.mem_append.2 (.inl (List.mem_map.2 ⟨y, hy, rfl⟩)))
    have e2 : lookT y.name (p.ins.map inT ++ flTs 0 p.flows) = _ := this
    rw [e2]
    exact ⟨rfl, rfl⟩
  · obtain ⟨y, hy, e⟩ := List.mem_map.1 hs
    simp only [Prod.mk.injEq] at e
    obtain ⟨rfl, rfl⟩ := e
    obtain ⟨k, hk, rfl⟩ := List.getElem_of_mem hy
    have hm := flTs_at 0 p.flows k hk
    rw [List.getElem?_eq_getElem hk] at hm
    have := look (y := flT k p.flows[k]) h.1 (List.mem_append.2 (.inr (List.mem_of_getElem? (i := k) (by rw [hm, Nat.zero_add]; rfl))))
    have e2 : lookT p.flows[k].name (p.ins.map inT ++ flTs 0 p.flows) = _ := this
    rw [e2]
    exact ⟨rfl, rfl⟩
theorem needs_mem {p : PrD} (h : namesP p = 0) {st : Int} {s : ByteArray} : s ∈ needsP p st ↔ ∃ t, 1 ≤ t ∧ t ≤ p.st ∧ t ≠ st ∧ s ∈ ownN p t ∧ hereAsks p st s = true := by
  unfold needsP
  rw [if_pos h, List.mem_flatMap]
  constructor
  · rintro ⟨t, ht, hs⟩
    unfold needsAt at hs
    by_cases e : t = st
    · rw [if_pos e] at hs; simp at hs
    · rw [if_neg e, List.mem_filter] at hs
      have := stations_mem.1 ht
      exact ⟨t, this.1, this.2, e, hs.1, hs.2⟩
  · rintro ⟨t, h1, h2, h3, h4, h5⟩
    refine ⟨t, stations_mem.2 ⟨h1, h2⟩, ?_⟩
    unfold needsAt
    rw [if_neg h3, List.mem_filter]
    exact ⟨h4, h5⟩
theorem all_there {p : PrD} (h : namesP p = 0) {st : Int} {s : ByteArray} (hs : s ∈ allN p st) : (findP s p.flows p.ins).2.2.2 = true := by
  rcases List.mem_append.1 hs with hs | hs
  · exact (find_site (names_okN h) (own_mem.1 hs)).2
  · obtain ⟨t, _, _, _, h4, _⟩ := (needs_mem h).1 hs
    exact (find_site (names_okN h) (own_mem.1 h4)).2
theorem places_ok {p : PrD} {l : List Int} {st : Int} (h : lateChk p l = true) (h1 : 1 ≤ st) (h2 : st ≤ p.st) : placesE p l st = 0 ∧ placesP p l st = (allN p st).map (placeOf p l st) := by
  have hn := (lateChk_iff.1 h).1
  have e : placesE p l st = 0 := by unfold placesE; rw [if_pos ⟨hn, h1, h2⟩, if_pos h]
  exact ⟨e, by unfold placesP; rw [if_pos e]⟩
end Go.Proofs.YtgkbhonjodcakaaGreat
namespace Go.Proofs.YtgkbhonjodcakaaGreat
open Go.RowKit
set_option linter.unusedVariables false

/-- A list of numbers of one's own. -/
def InV (w : World) (base : Nat) (l : List Int) (v : Value) : Prop := w.ownsRow base 3 1 v l.length (l.map (Value.int .i64))
theorem InV.form {w : World} {base : Nat} {l : List Int} {v : Value} (h : InV w base l v) : ∃ a cap, v = .slice a l.length cap := by
  rcases h.2 with ⟨h0, h1⟩ | ⟨g, cap, cur, h1, _⟩
  · exact ⟨none, 0, by rw [h0, h1]⟩
  · exact ⟨_, _, h1⟩
theorem InV.get {w : World} {base n : Nat} {l : List Int} {a : Option Addr} {cap : Nat} (h : InV w base l (.slice a n cap)) {i : Nat} {x : Int} (hr : l[i]? = some x) :
    ∃ g, a = some ⟨g, 0, none⟩ ∧ w.cell? ⟨g, i, none⟩ = some (.int .i64 x) := by
  have hi : i < l.length := (List.getElem?_eq_some_iff.1 hr).1
  have h0 := h
  rcases h.2 with ⟨h0, h1⟩ | ⟨g, c', cur, h1, _⟩
  · omega
  · simp only [Value.slice.injEq] at h1
    obtain ⟨rfl, rfl, rfl⟩ := h1
    have c0 := World.ownsRow.cellAt h i (by omega)
    rw [List.getElem?_map, hr] at c0
    exact ⟨g, rfl, c0⟩
theorem InV.chg {w w' : World} {base : Nat} {l : List Int} {v : Value} (h : InV w base l v) {S : Nat → Prop} (hc : Chg S w w') (hS : ∀ g, v.ownBlock = some g → ¬ S g) : InV w' base l v := by
  refine ⟨h.1, ?_⟩
  rcases h.2 with ⟨h0, h1⟩ | ⟨g, cap, cur, h1, h2, h3, h4⟩
  · exact .inl ⟨h0, h1⟩
  · exact .inr ⟨g, cap, cur, h1, h2, (hc.block g (lt_of_block h3) (hS g (by rw [h1]; rfl))).trans h3, h4⟩
theorem InV.nil (w : World) (base : Nat) : InV w base [] (.slice none 0 0) := World.ownsRow_nil _ _ _ _
theorem InV.snoc {w : World} {base : Nat} {l : List Int} {r : Int} {v : Value} (h : w.ownsRow base 3 1 v (l.length + 1) (l.map (Value.int .i64) ++ [.int .i64 r])) : InV w base (l ++ [r]) v := by
  unfold InV
  rw [List.length_append, List.map_append]
  exact h
theorem InV.form1 {w : World} {base : Nat} {l : List Int} {r : Int} {v : Value} (h : InV w base (l ++ [r]) v) : ∃ a cap, v = .slice a (l.length + 1) cap := by
  have := h.form
  simpa using this
/-- A new key. -/
theorem upd_new {P : Program} {mty kt et : TypeId} {r clock : Nat} {es : Array MapEntry} {q : IntKind} {n : Int} {w : World} (val : Value) (hm : P.underlying mty = some (.map kt et)) (hk : P.underlying kt = some (.int q)) (hb : w.heap[r]? = some (.map es clock))
    (hf : Instr.findNow (.int q) (.int q n) es.toList 0 = some none) : ∃ w', (Instr.mapUpdate mty (.map (some r)) (.int q n) val).run P w = .ok () w' ∧ w'.heap[r]? = some (.map (es.push ⟨.int q n, val, clock⟩) (clock + 1)) ∧ Chg (fun k => k = r) w w' := by
  have hc : (Instr.checkKey false 10000 kt (.int q n)).run P w = .ok () w := MapKept.run_checkKey (k := .int q n) hk (by simp [MapKept.IsKey]) false 9999
  have hlt := lt_of_block hb
  refine ⟨{ w with heap := w.heap.setIfInBounds r (.map (es.push ⟨.int q n, val, clock⟩) (clock + 1)) }, ?_, ?_, ⟨rfl, rfl, rfl, by simp, fun k hk hn => ?_⟩⟩
  · simp [Instr.mapUpdate, run_underlying hm, MapKept.run_getObj_map hb, hc, MapKept.run_findKey hk hf, MapKept.run_setObj_map _ hb, Result.andThen]
  · simp [hlt]
  · simp [Ne.symm hn]
end Go.Proofs.YtgkbhonjodcakaaGreat
namespace Go.Proofs.YtgkbhonjodcakaaGreat
open Go.RowKit
set_option linter.unusedVariables false
set_option linter.unusedSimpArgs false

/-- A list of types, read. -/
def TyR (w : World) (l : List Int) (v : Value) : Prop := ∃ g o cap, v = .slice (some ⟨g, o, none⟩) l.length cap ∧ l.length ≤ cap ∧ ∀ i x, l[i]? = some x → w.cell? ⟨g, o + i, none⟩ = some (.int .u8 x)
theorem TyR.ext {w w' : World} {l : List Int} {v : Value} (h : TyR w l v) (he : Ext w w') : TyR w' l v := by
  obtain ⟨g, o, cap, rfl, hc, hr⟩ := h
  exact ⟨g, o, cap, rfl, hc, fun i x hx => he.cell (hr i x hx)⟩
def RetIx (b : Bool) (w : World) (e : Ending) (w' : World) : Prop := (∃ n : Int, e = .returned (.int .i64 n) ∧ (0 ≤ n ↔ b = true)) ∧ Ext w w'
theorem any_at {l : List Int} {k : Nat} {y : Int} {f : Int → Bool} (h : l[k]? = some y) : (l.drop k).any f = (f y || (l.drop (k + 1)).any f) := by
  obtain ⟨hk, rfl⟩ := List.getElem?_eq_some_iff.1 h
  rw [List.drop_eq_getElem_cons hk]
  rfl
theorem eachP_one (y o : Int) (B : Nat) (w : World) (hb : w.cell? ⟨B, 0, none⟩ = some (.int .u8 o)) : Calls Tryz.prog 135 #[.int .u8 y, .pointer (some ⟨B, 0, none⟩)] w fun e w' => e = .returned (.bool (!decide (y = o))) ∧ w' = w := by
  go_enter Tryz.func135, Tryz.ntmps135
  go_wp2_with fail
  go_ret
  exact ⟨by simp [bne, Bool.beq_eq_decide_eq], rfl⟩
theorem alikeP_one (y x0 : Int) (B g o n cap : Nat) (w : World) (hb : w.cell? ⟨B, 0, none⟩ = some (.slice (some ⟨g, o, none⟩) n cap)) (hn : 0 < n) (hx : w.cell? ⟨g, o, none⟩ = some (.int .u8 x0)) :
    Calls Tryz.prog 136 #[.int .u8 y, .pointer (some ⟨B, 0, none⟩)] w fun e w' => e = .returned (.bool (!decide (y = x0) || decide (y = 0))) ∧ w' = w := by
  have q : (0 : Int) < (n : Int) := by omega
  by_cases h1 : y = x0
  · subst h1
    by_cases h2 : y = 0
    · subst h2
      go_enter Tryz.func136, Tryz.ntmps136
      go_wp2_with fail
      go_ret
      exact ⟨by simp, rfl⟩
    · have b2 : (y == 0) = false := by simpa using h2
      go_enter Tryz.func136, Tryz.ntmps136
      go_wp2_with fail
      go_ret
      exact ⟨by simp [h2], rfl⟩
  · have b1 : (y != x0) = true := by simpa using h1
    have b1' : (y == x0) = false := by simpa using h1
    go_enter Tryz.func136, Tryz.ntmps136
    go_wp2_with fail
    go_ret
    exact ⟨by simp [h1], rfl⟩
set_option maxRecDepth 100000 in
set_option maxHeartbeats 1000000 in
theorem idxE_any (l : List Int) (v : Value) (B : Nat) (o' : Int) (w : World) (h : TyR w l v) (hn : l.length ≤ 100000) (hb : w.cell? ⟨B, 0, none⟩ = some (.int .u8 o')) :
    Calls Tryz.prog 137 #[v, .func (.func 135) #[] #[.pointer (some ⟨B, 0, none⟩)]] w (RetIx (l.any fun t => !decide (t = o')) w) := by
  obtain ⟨g, o, cap, rfl, _, hr⟩ := h
  have hp := fun y (_ : Nat) => eachP_one y o' B w hb
  have HP := Lib.hid hp
  clear hp
  go_enter Tryz.func137, Tryz.ntmps137
  go_wp2_with fail
  go_loop [8] (fun i => ∃ k : Nat, k ≤ l.length ∧ i = .int .i64 k ∧ (l.any fun t => !decide (t = o')) = ((l.drop k).any fun t => !decide (t = o'))) (fun i => l.length - (intOf i).toNat)
  case atStart => exact ⟨0, Nat.zero_le _, rfl, rfl⟩
  case round =>
    obtain ⟨k, hk, rfl, hE⟩ := hrel
    have HE := Lib.hid hE
    clear hE
    by_cases hlt : k < l.length
    · obtain ⟨y, hy⟩ : ∃ y, l[k]? = some y := ⟨_, List.getElem?_eq_getElem hlt⟩
      have c0 := hr k y hy
      have q1 : (k : Int) < (l.length : Int) := by omega
      have HS := Lib.hid (any_at (f := fun t => !decide (t = o')) hy)
      clear hy hr
      go_wp2_with fail
      refine (HP.out y 0).mono ?_
      rintro e w1 ⟨rfl, rfl⟩
      cases hb : (fun t => !decide (t = o')) y
      · have H2 : Hid ((l.any fun t => !decide (t = o')) = ((l.drop (k + 1)).any fun t => !decide (t = o'))) := by
          show _ = _
          rw [HE.out, HS.out]
          simp only [hb, Bool.false_or]
        go_wp2_with fail
        go_round
        case rel => exact ⟨k + 1, by omega, by go_num, H2.out⟩
        case measure => simp [intOf]; omega
      · have H2 : Hid ((l.any fun t => !decide (t = o')) = true) := by
          show _ = _
          rw [HE.out, HS.out]
          simp only [hb, Bool.true_or]
        go_wp2_with fail
        go_ret
        exact ⟨⟨k, rfl, by rw [H2.out]; simp⟩, Chg.refl _ _⟩
    · obtain rfl : k = l.length := by omega
      have H2 := Lib.hid (HE.out.trans (show ((l.drop l.length).any fun t => !decide (t = o')) = false by rw [List.drop_length]; rfl))
      go_wp2_with fail
      go_ret
      exact ⟨⟨(-1 : Int), rfl, by rw [H2.out]; exact ⟨fun h => absurd h (by decide), fun h => by cases h⟩⟩, Chg.refl _ _⟩
theorem hasE_any (l : List Int) (v : Value) (B : Nat) (o' : Int) (w : World) (h : TyR w l v) (hn : l.length ≤ 100000) (hb : w.cell? ⟨B, 0, none⟩ = some (.int .u8 o')) :
    Calls Tryz.prog 116 #[v, .func (.func 135) #[] #[.pointer (some ⟨B, 0, none⟩)]] w fun e w' => e = .returned (.bool (l.any fun t => !decide (t = o'))) ∧ Ext w w' := by
  have hi := idxE_any l v B o' w h hn hb
  obtain ⟨g, o, cap, rfl, _⟩ := h
  have HI := Lib.hid hi
  clear hi
  generalize (l.any fun t => !decide (t = o')) = b at *
  go_enter Tryz.func116, Tryz.ntmps116
  go_wp2_with fail
  refine HI.out.mono ?_
  rintro e w1 ⟨⟨n, rfl, hn⟩, hE⟩
  have HN := Lib.hid hn
  clear hn
  go_wp2_with fail
  go_ret
  exact ⟨congrArg (fun b => Ending.returned (Value.bool b)) (Bool.eq_iff_iff.2 (decide_eq_true_iff.trans HN.out)), hE⟩
set_option maxRecDepth 100000 in
set_option maxHeartbeats 1000000 in
theorem idxA_any (l : List Int) (v : Value) (B : Nat) (x0 : Int) (vl : Value) (w : World) (h : TyR w l v) (hn : l.length ≤ 100000) (hb : w.cell? ⟨B, 0, none⟩ = some vl) (hx : ∃ g o n cap, vl = .slice (some ⟨g, o, none⟩) n cap ∧ 0 < n ∧ n ≤ 100000 ∧ w.cell? ⟨g, o, none⟩ = some (.int .u8 x0)) :
    Calls Tryz.prog 137 #[v, .func (.func 136) #[] #[.pointer (some ⟨B, 0, none⟩)]] w (RetIx (l.any fun t => !decide (t = x0) || decide (t = 0)) w) := by
  obtain ⟨g, o, cap, rfl, _, hr⟩ := h
  obtain ⟨g', o'', n', cap', rfl, hn0, _, hx0⟩ := hx
  have hp := fun y (_ : Nat) => alikeP_one y x0 B g' o'' n' cap' w hb hn0 hx0
  have HP := Lib.hid hp
  clear hp
  go_enter Tryz.func137, Tryz.ntmps137
  go_wp2_with fail
  go_loop [8] (fun i => ∃ k : Nat, k ≤ l.length ∧ i = .int .i64 k ∧ (l.any fun t => !decide (t = x0) || decide (t = 0)) = ((l.drop k).any fun t => !decide (t = x0) || decide (t = 0))) (fun i => l.length - (intOf i).toNat)
  case atStart => exact ⟨0, Nat.zero_le _, rfl, rfl⟩
  case round =>
    obtain ⟨k, hk, rfl, hE⟩ := hrel
    have HE := Lib.hid hE
    clear hE
    by_cases hlt : k < l.length
    · obtain ⟨y, hy⟩ : ∃ y, l[k]? = some y := ⟨_, List.getElem?_eq_getElem hlt⟩
      have c0 := hr k y hy
      have q1 : (k : Int) < (l.length : Int) := by omega
      have HS := Lib.hid (any_at (f := fun t => !decide (t = x0) || decide (t = 0)) hy)
      clear hy hr
      go_wp2_with fail
      refine (HP.out y 0).mono ?_
      rintro e w1 ⟨rfl, rfl⟩
      cases hb : (fun t => !decide (t = x0) || decide (t = 0)) y
      · have H2 : Hid ((l.any fun t => !decide (t = x0) || decide (t = 0)) = ((l.drop (k + 1)).any fun t => !decide (t = x0) || decide (t = 0))) := by
          show _ = _
          rw [HE.out, HS.out]
          simp only [hb, Bool.false_or]
        go_wp2_with fail
        go_round
        case rel => exact ⟨k + 1, by omega, by go_num, H2.out⟩
        case measure => simp [intOf]; omega
      · have H2 : Hid ((l.any fun t => !decide (t = x0) || decide (t = 0)) = true) := by
          show _ = _
          rw [HE.out, HS.out]
          simp only [hb, Bool.true_or]
        go_wp2_with fail
        go_ret
        exact ⟨⟨k, rfl, by rw [H2.out]; simp⟩, Chg.refl _ _⟩
    · obtain rfl : k = l.length := by omega
      have H2 := Lib.hid (HE.out.trans (show ((l.drop l.length).any fun t => !decide (t = x0) || decide (t = 0)) = false by rw [List.drop_length]; rfl))
      go_wp2_with fail
      go_ret
      exact ⟨⟨(-1 : Int), rfl, by rw [H2.out]; exact ⟨fun h => absurd h (by decide), fun h => by cases h⟩⟩, Chg.refl _ _⟩
theorem hasA_any (l : List Int) (v : Value) (B : Nat) (x0 : Int) (vl : Value) (w : World) (h : TyR w l v) (hn : l.length ≤ 100000) (hb : w.cell? ⟨B, 0, none⟩ = some vl) (hx : ∃ g o n cap, vl = .slice (some ⟨g, o, none⟩) n cap ∧ 0 < n ∧ n ≤ 100000 ∧ w.cell? ⟨g, o, none⟩ = some (.int .u8 x0)) :
    Calls Tryz.prog 116 #[v, .func (.func 136) #[] #[.pointer (some ⟨B, 0, none⟩)]] w fun e w' => e = .returned (.bool (l.any fun t => !decide (t = x0) || decide (t = 0))) ∧ Ext w w' := by
  have hi := idxA_any l v B x0 vl w h hn hb hx
  obtain ⟨g, o, cap, rfl, _⟩ := h
  have HI := Lib.hid hi
  clear hi
  generalize (l.any fun t => !decide (t = x0) || decide (t = 0)) = b at *
  go_enter Tryz.func116, Tryz.ntmps116
  go_wp2_with fail
  refine HI.out.mono ?_
  rintro e w1 ⟨⟨n, rfl, hn⟩, hE⟩
  have HN := Lib.hid hn
  clear hn
  go_wp2_with fail
  go_ret
  exact ⟨congrArg (fun b => Ending.returned (Value.bool b)) (Bool.eq_iff_iff.2 (decide_eq_true_iff.trans HN.out)), hE⟩
end Go.Proofs.YtgkbhonjodcakaaGreat
namespace Go.Proofs.YtgkbhonjodcakaaGreat
open Go.RowKit
set_option linter.unusedVariables false
set_option linter.unusedSimpArgs false

def eachT (of whole : Int) (l : List Int) : Int := if (l.any fun t => !decide (t = of)) = true then 0 else whole
def alikeT (l : List Int) : Bool := !(l.any fun t => !decide (t = l.headD 0) || decide (t = 0))
def sameT (l : List Int) : Int := if alikeT l = true then l.headD 0 else 0
def equalT (l : List Int) : Int := if alikeT l = true then 2 else 0
def ifT (l : List Int) : Int := if l.headD 0 = 2 then sameT l.tail else 0
def RetTy (n : Int) (w : World) (e : Ending) (w' : World) : Prop := e = .returned (.int .u8 n) ∧ Ext w w'
theorem each1_any (of whole : Int) (l : List Int) (v : Value) (Bo Bw : Nat) (w : World) (h : TyR w l v) (hn : l.length ≤ 100000) (ho : w.cell? ⟨Bo, 0, none⟩ = some (.int .u8 of)) (hw : w.cell? ⟨Bw, 0, none⟩ = some (.int .u8 whole)) :
    Calls Tryz.prog 134 #[v, .pointer (some ⟨Bo, 0, none⟩), .pointer (some ⟨Bw, 0, none⟩)] w (RetTy (eachT of whole l) w) := by
  have hE : eachT of whole l = if (l.any fun t => !decide (t = of)) = true then 0 else whole := rfl
  have HE := Lib.hid hE
  have HC := Lib.hid (hasE_any l v Bo of w h hn ho)
  obtain ⟨g, o, cap, rfl, _⟩ := h
  clear hE
  generalize (l.any fun t => !decide (t = of)) = b at *
  go_enter Tryz.func134, Tryz.ntmps134
  go_wp2_with fail
  refine HC.out.mono ?_
  rintro e w1 ⟨rfl, E1⟩
  have hw1 := Ext.cell E1 hw
  cases b
  · go_wp2_with fail
    go_ret
    exact ⟨by rw [HE.out]; rfl, E1⟩
  · go_wp2_with fail
    go_ret
    exact ⟨by rw [HE.out]; rfl, E1⟩
theorem alike_any (l : List Int) (v : Value) (w : World) (h : TyR w l v) (h1 : 1 ≤ l.length) (hn : l.length ≤ 100000) :
    Calls Tryz.prog 110 #[v] w fun e w' => e = .returned (.bool (alikeT l)) ∧ Ext w w' := by
  have hE : alikeT l = !(l.any fun t => !decide (t = l.headD 0) || decide (t = 0)) := rfl
  have HE := Lib.hid hE
  have K : Ext w (w.alloc (.cells #[v] 106)) := (Chg.refl _ _).alloc _
  have hb : (w.alloc (.cells #[v] 106)).cell? ⟨w.heap.size, 0, none⟩ = some v := World.cell?_alloc_new _ _ _ _
  have hx : ∃ g o n cap, v = .slice (some ⟨g, o, none⟩) n cap ∧ 0 < n ∧ n ≤ 100000 ∧ (w.alloc (.cells #[v] 106)).cell? ⟨g, o, none⟩ = some (.int .u8 (l.headD 0)) := by
    obtain ⟨g, o, cap, rfl, hcap, hr⟩ := h
    refine ⟨g, o, l.length, cap, rfl, by omega, hn, K.cell ?_⟩
    have := hr 0 (l.headD 0) (by cases l with | nil => simp at h1 | cons x r => rfl)
    simpa using this
  have HC := Lib.hid (hasA_any l v w.heap.size (l.headD 0) v _ (h.ext K) hn hb hx)
  obtain ⟨g, o, cap, rfl, _⟩ := h
  clear hE hx
  generalize (l.any fun t => !decide (t = l.headD 0) || decide (t = 0)) = b at *
  go_enter Tryz.func110, Tryz.ntmps110
  go_wp2_with fail
  refine HC.out.mono ?_
  rintro e w1 ⟨rfl, E1⟩
  go_wp2_with fail
  go_ret
  exact ⟨by rw [HE.out]; rfl, K.trans E1⟩
theorem head_at {w : World} {l : List Int} {g o : Nat} (hr : ∀ i x, l[i]? = some x → w.cell? ⟨g, o + i, none⟩ = some (.int .u8 x)) (h1 : 1 ≤ l.length) : w.cell? ⟨g, o, none⟩ = some (.int .u8 (l.headD 0)) := by
  have := hr 0 (l.headD 0) (by cases l with | nil => simp at h1 | cons x r => rfl)
  simpa using this
theorem same_any (l : List Int) (v : Value) (w : World) (h : TyR w l v) (h1 : 1 ≤ l.length) (hn : l.length ≤ 100000) : Calls Tryz.prog 109 #[v] w (RetTy (sameT l) w) := by
  have HE := Lib.hid (show sameT l = if alikeT l = true then l.headD 0 else 0 from rfl)
  have HC := Lib.hid (alike_any l v w h h1 hn)
  obtain ⟨g, o, cap, rfl, hcap, hr⟩ := h
  have c0 := head_at hr h1
  have q0 : (0 : Int) < (l.length : Int) := by omega
  clear hr
  generalize alikeT l = b at *
  generalize l.headD 0 = x0 at *
  go_enter Tryz.func109, Tryz.ntmps109
  go_wp2_with fail
  refine HC.out.mono ?_
  rintro e w1 ⟨rfl, E1⟩
  have c1 := Ext.cell E1 c0
  cases b
  · go_wp2_with fail
    go_ret
    exact ⟨by rw [HE.out]; rfl, E1⟩
  · go_wp2_with fail
    go_ret
    exact ⟨by rw [HE.out]; rfl, E1⟩
theorem equal_any (l : List Int) (v : Value) (w : World) (h : TyR w l v) (h1 : 1 ≤ l.length) (hn : l.length ≤ 100000) : Calls Tryz.prog 111 #[v] w (RetTy (equalT l) w) := by
  have HE := Lib.hid (show equalT l = if alikeT l = true then 2 else 0 from rfl)
  have HC := Lib.hid (alike_any l v w h h1 hn)
  obtain ⟨g, o, cap, rfl, hcap, hr⟩ := h
  clear hr
  generalize alikeT l = b at *
  go_enter Tryz.func111, Tryz.ntmps111
  go_wp2_with fail
  refine HC.out.mono ?_
  rintro e w1 ⟨rfl, E1⟩
  cases b
  · go_wp2_with fail
    go_ret
    exact ⟨by rw [HE.out]; rfl, E1⟩
  · go_wp2_with fail
    go_ret
    exact ⟨by rw [HE.out]; rfl, E1⟩
set_option maxRecDepth 100000 in
set_option maxHeartbeats 1000000 in
theorem if_any (l : List Int) (v : Value) (B : Nat) (w : World) (h : TyR w l v) (h1 : l.length = 3) (hb : w.cell? ⟨B, 0, none⟩ = some (.func (.func 109) #[] #[])) :
    Calls Tryz.prog 112 #[v, .pointer (some ⟨B, 0, none⟩)] w (RetTy (ifT l) w) := by
  match l, h1 with
  | [x, y, z], _ =>
    have HE0 := Lib.hid (show ifT [x, y, z] = if x = 2 then sameT [y, z] else 0 from rfl)
    obtain ⟨g, o, cap, rfl, hcap, hr⟩ := h
    have c0 : w.cell? ⟨g, o, none⟩ = some (.int .u8 x) := by have := hr 0 x rfl; simpa using this
    by_cases hx : x = 2
    · have HE := Lib.hid (HE0.out.trans (if_pos hx))
      subst hx
      have hc1 : ¬ cap = 1 := by simp only [List.length_cons, List.length_nil] at hcap; omega
      have hT : TyR w.drew [y, z] (.slice (some ⟨g, o + 1, none⟩) 2 (cap - 1)) := ⟨g, o + 1, cap - 1, rfl, by simp only [List.length_cons, List.length_nil] at hcap ⊢; omega, fun i t ht => by
        have := hr (i + 1) t (by simpa using ht)
        rw [show o + (i + 1) = o + 1 + i from by omega] at this
        exact this⟩
      have HC := Lib.hid (same_any [y, z] _ w.drew hT (by simp) (by simp))
      have dB := (World.cell?_drew (w := w) (a := ⟨B, 0, none⟩)).trans hb
      clear hT hr
      generalize sameT [y, z] = s at *
      go_enter Tryz.func112, Tryz.ntmps112
      go_wp2_with fail
      go_region_held3 (fun X => X.cell? ⟨B, 0, none⟩ = some (.func (.func 109) #[] #[]))
        (first | (with_reducible exact dB) | (with_reducible exact Ext.cell E3 dB))
        (first
          | (go_at_call 109; refine HC.out.mono ?_; rintro e w3 ⟨rfl, E3⟩))
      go_wp2_with fail
      go_ret
      exact ⟨by rw [HE.out]; rfl, (Chg.drew (Chg.refl _ _)).trans E3⟩
    · have b2 : (x == 2) = false := by simpa using hx
      have HE2 := Lib.hid (HE0.out.trans (if_neg hx))
      go_enter Tryz.func112, Tryz.ntmps112
      go_wp2_with fail
      go_ret
      exact ⟨by rw [HE2.out]; rfl, Chg.refl _ _⟩
end Go.Proofs.YtgkbhonjodcakaaGreat
namespace Go.Proofs.YtgkbhonjodcakaaGreat
open Go.RowKit
set_option linter.unusedVariables false
set_option linter.unusedSimpArgs false

/-- An instruction. -/
structure IsD where
  op : Int
  n : Int
  ago : Int
/-- Of how many an operator is; 0: it is none. -/
def manyP (o : Int) : Nat := if o = 4 ∨ o = 5 then 1 else if o = 17 then 3 else if 6 ≤ o ∧ o ≤ 18 then 2 else 0
def alikC (l : List Int) : Int := eachT (l.headD 0) (l.headD 0) l
def eqC (l : List Int) : Int := if alikC l = 0 then 0 else 2
def ifC (l : List Int) : Int := if l.headD 0 = 2 then alikC l.tail else 0
/-- What an operator leaves. -/
def leaveT (op : Int) (l : List Int) : Int := if op = 4 ∨ op = 6 ∨ op = 7 ∨ op = 8 ∨ op = 9 ∨ op = 10 then eachT 1 1 l else if op = 5 ∨ op = 15 ∨ op = 16 then eachT 2 2 l else if op = 13 ∨ op = 14 then eachT 1 2 l else if op = 18 then alikC l else if op = 11 ∨ op = 12 then eqC l else if op = 17 then ifC l else 0
def pushP (ps : List PlD) (x : IsD) : Int :=
  if x.op = 1 then (if x.ago = 0 then 1 else 0) else if x.op = 2 then (if x.ago = 0 ∧ (x.n = 0 ∨ x.n = 1) then 2 else 0) else
  if x.op = 3 then (if 0 ≤ x.n ∧ 0 ≤ x.ago then (match ps[x.n.toNat]? with | some q => if x.ago ≤ q.keep then q.ty else 0 | none => 0) else 0) else 0
def mostP (o : Int) : Int := if o = 18 then 32 else 0
/-- The type that an instruction leaves on a pile; 0: it may not be. -/
def stepI (ps : List PlD) (x : IsD) (pile : List Int) : Int :=
  if manyP x.op = 0 then pushP ps x else if manyP x.op ≤ pile.length ∧ x.n = 0 ∧ 0 ≤ x.ago ∧ x.ago ≤ mostP x.op then leaveT x.op (pile.drop (pile.length - manyP x.op)) else 0
def stepJ (ps : List PlD) (x : IsD) (pile : List Int) : Option (List Int) := if stepI ps x pile = 0 then none else some (pile.take (pile.length - manyP x.op) ++ [stepI ps x pile])
def runP (ps : List PlD) : List IsD → List Int → Option (List Int)
  | [], pile => some pile
  | x :: r, pile => match stepJ ps x pile with | none => none | some q => runP ps r q
def placeOk (x : PlD) : Bool := (decide (x.ty = 1) || decide (x.ty = 2)) && decide (0 ≤ x.keep) && decide (x.keep ≤ 4000)
def placesOk (ps : List PlD) : Bool := !(ps.any fun x => !placeOk x)
def endP : Option (List Int) → Int × Bool
  | some [t] => (t, true)
  | _ => (0, false)
/-- The plain answer of Check. -/
def chkC (ps : List PlD) (l : List IsD) : Int × Bool := if placesOk ps = true ∧ l.length ≤ 800 then endP (runP ps l []) else (0, false)

theorem run_cons {ps : List PlD} {x : IsD} {r : List IsD} {pile : List Int} : runP ps (x :: r) pile = (stepJ ps x pile).bind (runP ps r) := by
  rw [runP]; cases stepJ ps x pile <;> rfl
theorem many_le (o : Int) : manyP o ≤ 3 := by
  unfold manyP; split
  · omega
  · split
    · omega
    · split <;> omega
end Go.Proofs.YtgkbhonjodcakaaGreat
namespace Go.Proofs.YtgkbhonjodcakaaGreat
open Go.RowKit Go.Maps Go.WideMaps
set_option linter.unusedVariables false
set_option linter.unusedSimpArgs false

theorem zeroI (w : World) : (zeroValue 3).run Tryz.prog w = .ok (.int .i64 0) w := by
  kernel_rfl
theorem wfI {n : Int} (h : isI64 n) : (Lit.int .i64 n).wf = true := wf_of_i64 h
/-- Block b is a map of numbers: what each name has. -/
def MiV (w : World) (b n : Nat) (f : ByteArray → Int) : Prop := ∃ D : DataW Unit, w.ownsMap Tryz.prog 9 (plainElem Tryz.prog 3) b n D ∧ IsMap D ∧ ∀ s : ByteArray, D.atKey (.string s.data.toList) (.lit (.int .i64 0)) = .lit (.int .i64 (f s))
def setM (f : ByteArray → Int) (s : ByteArray) (z : Int) : ByteArray → Int := fun t => if s = t then z else f t
theorem MiV.made (w : World) : MiV (w.alloc (.map #[] 0)) w.heap.size 0 (fun _ => 0) := ⟨_, World.ownsMap_made w _ _ _, ⟨_, rfl⟩, fun s => rfl⟩
theorem MiV.lt {w : World} {b n : Nat} {f : ByteArray → Int} (h : MiV w b n f) : b < w.heap.size := by
  obtain ⟨D, h1, _⟩ := h
  exact h1.lt
theorem MiV.chg {w w' : World} {b n : Nat} {f : ByteArray → Int} (h : MiV w b n f) {S : Nat → Prop} (hc : Chg S w w') (hS : ¬ S b) : MiV w' b n f := by
  obtain ⟨D, ⟨es, clock, hb, h2⟩, h3⟩ := h
  exact ⟨D, ⟨es, clock, (hc.block b (Array.getElem?_eq_some_iff.1 hb).1 hS).trans hb, h2⟩, h3⟩
theorem MiV.ext {w w' : World} {b n : Nat} {f : ByteArray → Int} (h : MiV w b n f) (hc : Ext w w') : MiV w' b n f := h.chg hc (fun h => h)
theorem MiV.look {w : World} {b n : Nat} {f : ByteArray → Int} (h : MiV w b n f) {s : ByteArray} (hs : s.size ≤ maxLen) : (Instr.lookup 88 (.map (some b)) (.string s) false).run Tryz.prog w = .ok (.int .i64 (f s)) w := by
  obtain ⟨D, h1, _, h3⟩ := h
  obtain ⟨v, ps, hrun, hv⟩ := h1.lookup strKeyed Tryz.underlying88 (zeroI w) (plainElem_int Tryz.underlying3 (by decide)) (strKey hs)
  obtain ⟨a, rfl, hz, _⟩ := plainElem_int_inv Tryz.underlying3 hv
  rw [h3 s] at hz
  simp only [Prod.mk.injEq, DataW.lit.injEq, Lit.int.injEq, true_and, and_true] at hz
  rw [hrun, hz.1]
theorem MiV.put {w : World} {b n : Nat} {f : ByteArray → Int} (h : MiV w b n f) {s : ByteArray} (hs : s.size ≤ maxLen) (hn : n < maxLen) {z : Int} (hz : isI64 z) : ∃ w', (Instr.mapUpdate 88 (.map (some b)) (.string s) (.int .i64 z)).run Tryz.prog w = .ok () w' ∧ MiV w' b (n + 1) (setM f s z) ∧ Chg (fun q => q = b) w w' := by
  obtain ⟨D, h1, h2, h3⟩ := h
  obtain ⟨w', hrun, ho, hg⟩ := h1.update strKeyed Tryz.underlying88 hn (strKey hs) (plainElem_int Tryz.underlying3 (wfI hz))
  refine ⟨w', hrun, ⟨_, ho, ?_, fun s' => ?_⟩, ⟨hg.os, hg.tape, hg.output, hg.size, fun k hk hn => hg.block k hk (fun e => hn (by simpa using e))⟩⟩
  · obtain ⟨es, rfl⟩ := h2
    exact ⟨_, rfl⟩
  · unfold setM
    by_cases e : s = s'
    · subst e
      rw [atKey_put_same h2 (strKeyed.key (strKey hs)), if_pos rfl]
    · have hne : Lit.string s'.data.toList ≠ Lit.string s.data.toList := fun he => e (strLit_inj he).symm
      rw [atKey_put_other hne, h3 s', if_neg e]
/-- .. whose names are just these, each once. -/
def MkV (w : World) (b n : Nat) (f : ByteArray → Int) (l : List ByteArray) : Prop := ∃ D : DataW Unit, w.ownsMap Tryz.prog 9 (plainElem Tryz.prog 3) b n D ∧ Maps.size D = l.length ∧ l.Nodup ∧ ∀ s : ByteArray, has D (.string s.data.toList) = l.any fun q => decide (q = s)
def addN (l : List ByteArray) (s : ByteArray) : List ByteArray := if (l.any fun q => decide (q = s)) = true then l else l ++ [s]
theorem MkV.made (w : World) : MkV (w.alloc (.map #[] 0)) w.heap.size 0 (fun _ => 0) [] := ⟨_, World.ownsMap_made w _ _ _, rfl, List.nodup_nil, fun s => rfl⟩
theorem MkV.lt {w : World} {b n : Nat} {f : ByteArray → Int} {l : List ByteArray} (h : MkV w b n f l) : b < w.heap.size := by
  obtain ⟨D, h1, _⟩ := h
  exact h1.lt
theorem MkV.chg {w w' : World} {b n : Nat} {f : ByteArray → Int} {l : List ByteArray} (h : MkV w b n f l) {S : Nat → Prop} (hc : Chg S w w') (hS : ¬ S b) : MkV w' b n f l := by
  obtain ⟨D, ⟨es, clock, hb, h2⟩, h3⟩ := h
  exact ⟨D, ⟨es, clock, (hc.block b (Array.getElem?_eq_some_iff.1 hb).1 hS).trans hb, h2⟩, h3⟩
theorem MkV.len {w : World} {b n : Nat} {f : ByteArray → Int} {l : List ByteArray} (h : MkV w b n f l) (ty : TypeId) : (Builtin.len_ #[88] ty #[.map (some b)]).run Tryz.prog w = .ok (.int .i64 l.length) w := by
  obtain ⟨D, h1, h2, _⟩ := h
  rw [h1.len Tryz.underlying88 ty, h2]
theorem MkV.put {w : World} {b n : Nat} {f : ByteArray → Int} {l : List ByteArray} (h : MkV w b n f l) {s : ByteArray} (hs : s.size ≤ maxLen) (hn : n < maxLen) {z : Int} (hz : isI64 z) : ∃ w', (Instr.mapUpdate 88 (.map (some b)) (.string s) (.int .i64 z)).run Tryz.prog w = .ok () w' ∧ MkV w' b (n + 1) f (addN l s) ∧ Chg (fun q => q = b) w w' := by
  obtain ⟨D, h1, h2, h4, h3⟩ := h
  obtain ⟨w', hrun, ho, hg⟩ := h1.update strKeyed Tryz.underlying88 hn (strKey hs) (plainElem_int Tryz.underlying3 (wfI hz))
  have ht := h1.tidy strKeyed
  refine ⟨w', hrun, ⟨_, ho, ?_, ?_, fun s' => ?_⟩, ⟨hg.os, hg.tape, hg.output, hg.size, fun k hk hn => hg.block k hk (fun e => hn (by simpa using e))⟩⟩
  · rw [size_put ht, h3 s, h2]
    unfold addN
    by_cases hm : (l.any fun q => decide (q = s)) = true
    · rw [if_pos hm, if_pos hm]
    · rw [if_neg hm, if_neg hm, List.length_append]; rfl
  · unfold addN
    split
    · exact h4
    · rename_i hm
      exact nodup_snoc.2 ⟨h4, fun h => hm (any_mem.2 h)⟩
  · by_cases e : s' = s
    · subst e
      rw [has_put_same ht.isMap (strKeyed.key (strKey hs)), eq_comm, any_mem]
      unfold addN
      split
      · exact any_mem.1 (by assumption)
      · simp
    · have hne : Lit.string s'.data.toList ≠ Lit.string s.data.toList := fun he => e (strLit_inj he)
      rw [has_put_other hne, h3 s', Bool.eq_iff_iff, any_mem, any_mem]
      unfold addN
      split
      · rfl
      · simp [e]
end Go.Proofs.YtgkbhonjodcakaaGreat
namespace Go.Proofs.YtgkbhonjodcakaaGreat
open Go.RowKit Go.Maps Go.WideMaps
set_option linter.unusedVariables false
set_option linter.unusedSimpArgs false

theorem kyLaid : laidOutB Tryz.prog = true := by kernel_rfl
theorem kyRow : (175 : TypeId) < Tryz.prog.types.size := of_decide_eq_true (by kernel_rfl)
theorem kyCells : Tryz.prog.cellsOf 175 = 2 := by kernel_rfl
theorem kyWide : (match Tryz.prog.underlying 175 with | some (.array _ _) | some (.struct _) => true | _ => false) = true := by rw [Tryz.underlying175]
theorem kyDeep : Tryz.prog.keyTypeAt 2 175 = true := by kernel_rfl
set_option maxRecDepth 100000 in
theorem kyKL : KeyLaw Tryz.prog 175 := deep_law_laid kyLaid (m := 2) (by omega) kyRow kyDeep kyWide
theorem kyLaw : Keyed Tryz.prog 175 := Keyed.of_law kyKL
def kyV (r : Int × Int) : Value := .agg #[.int .i64 r.1, .int .i64 r.2]
def okK (r : Int × Int) : Prop := isI64 r.1 ∧ isI64 r.2
theorem kyKey {r : Int × Int} (h : okK r) : ∃ kl, keyOf Tryz.prog 175 (kyV r) = some kl := by
  obtain ⟨m, hm⟩ : ∃ m, Tryz.prog.types.size = m + 1 := Nat.exists_eq_succ_of_ne_zero (fun h => by have := kyRow; rw [h] at this; exact Nat.not_lt_zero _ this)
  have hK : Tryz.prog.keyType 175 = true := by kernel_rfl
  have hF : (kyV r).formed Tryz.prog 175 = true := by simp [kyV, Value.formed, Tryz.underlying175, kyCells]
  have c3 : Tryz.prog.cellsOf 3 = 1 := by kernel_rfl
  have hr2 : List.range 2 = [0, 1] := rfl
  have hL : ∃ ls, Tryz.prog.keyLits (Tryz.prog.types.size + 1) 175 (kyV r).cells.toList = some ls := by
    rw [hm]
    simp [Program.keyLits, Tryz.underlying175, kyV, Value.cells, kyCells, c3, Tryz.underlying3, wf_of_i64 h.1, wf_of_i64 h.2, hr2]
  obtain ⟨ls, hls⟩ := hL
  refine ⟨.string (keyBytes ls), ?_⟩
  unfold keyOf
  rw [Tryz.underlying175]
  simp only [hK, hF, Bool.and_self, if_true, hls, Option.map_some]
/-- Block b is a set of just these, of at most n. -/
def KyV (w : World) (b n : Nat) (l : List (Int × Int)) : Prop := ∃ D : DataW Unit, w.ownsMap Tryz.prog 175 (plainElem Tryz.prog 4) b n D ∧ IsMap D ∧ ∀ r kl, keyOf Tryz.prog 175 (kyV r) = some kl → D.atKey kl (.lit (.bool false)) = .lit (.bool (hasK l r))
theorem KyV.made (w : World) : KyV (w.alloc (.map #[] 0)) w.heap.size 0 [] := ⟨_, World.ownsMap_made w _ _ _, ⟨_, rfl⟩, fun r kl _ => rfl⟩
theorem KyV.chg {w w' : World} {b n : Nat} {l : List (Int × Int)} (h : KyV w b n l) {S : Nat → Prop} (hc : Chg S w w') (hS : ¬ S b) : KyV w' b n l := by
  obtain ⟨D, ⟨es, clock, hb, h2⟩, h3⟩ := h
  exact ⟨D, ⟨es, clock, (hc.block b (Array.getElem?_eq_some_iff.1 hb).1 hS).trans hb, h2⟩, h3⟩
theorem KyV.lt {w : World} {b n : Nat} {l : List (Int × Int)} (h : KyV w b n l) : b < w.heap.size := by
  obtain ⟨D, h1, _⟩ := h
  exact h1.lt
theorem KyV.look {w : World} {b n : Nat} {l : List (Int × Int)} (h : KyV w b n l) {r : Int × Int} (hr : okK r) : (Instr.lookup 171 (.map (some b)) (kyV r) false).run Tryz.prog w = .ok (.bool (hasK l r)) w := by
  obtain ⟨D, h1, _, h3⟩ := h
  obtain ⟨kl, hkl⟩ := kyKey hr
  obtain ⟨v, ps, hrun, hv⟩ := h1.lookup kyLaw Tryz.underlying171 (zeroB w) (plainB Tryz.underlying4 false) hkl
  obtain ⟨c, rfl, hz⟩ := plainB_inv Tryz.underlying4 hv
  rw [h3 r kl hkl] at hz
  simp only [Prod.mk.injEq, DataW.lit.injEq, Lit.bool.injEq] at hz
  rw [hrun, hz.1]
theorem KyV.put {w : World} {b n : Nat} {l : List (Int × Int)} (h : KyV w b n l) {r : Int × Int} (hr : okK r) (hn : n < maxLen) : ∃ w', (Instr.mapUpdate 171 (.map (some b)) (kyV r) (.bool true)).run Tryz.prog w = .ok () w' ∧ KyV w' b (n + 1) (l ++ [r]) ∧ Chg (fun q => q = b) w w' := by
  obtain ⟨D, h1, h2, h3⟩ := h
  obtain ⟨kl, hkl⟩ := kyKey hr
  obtain ⟨w', hrun, ho, hg⟩ := h1.update kyLaw Tryz.underlying171 hn hkl (plainB Tryz.underlying4 true)
  refine ⟨w', hrun, ⟨_, ho, ?_, fun r' kl' hk' => ?_⟩, ⟨hg.os, hg.tape, hg.output, hg.size, fun k hk hn => hg.block k hk (fun e => hn (by simpa using e))⟩⟩
  · obtain ⟨es, rfl⟩ := h2
    exact ⟨_, rfl⟩
  · by_cases e : r' = r
    · subst e
      rw [hkl] at hk'
      obtain rfl := Option.some.inj hk'
      rw [atKey_put_same h2 (kyLaw.key hkl)]
      simp [hasK]
    · have hne : kl' ≠ kl := fun he => by
        subst he
        have := kyLaw.inj hk' hkl
        simp only [kyV, Value.agg.injEq, Array.mk.injEq, List.cons.injEq, Value.string.injEq, Value.int.injEq, true_and, and_true] at this
        exact e (Prod.ext this.1 this.2)
      rw [atKey_put_other hne, h3 r' kl' hk']
      unfold hasK
      rw [List.any_append]
      simp [Ne.symm e]
end Go.Proofs.YtgkbhonjodcakaaGreat
