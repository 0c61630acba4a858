/- What stations send, need and keep: the plain law. -/
import Derived.Test.YtjdficgejjkaoaaLateQ
namespace Go.Proofs.Ytjdficgejjkaoaa
open Go.RowKit
set_option linter.unusedVariables false
set_option linter.unusedSimpArgs false

/-- All names, each with its station, as they are declared. -/
def sitesP (p : PrD) : List (ByteArray × Int) := p.ins.map (fun x => (x.name, x.st)) ++ p.flows.map (fun x => (x.name, x.st))
def ownN (p : PrD) (st : Int) : List ByteArray := ((sitesP p).filter fun x => decide (x.2 = st)).map (·.1)
def asksF (x : FlD) (s : ByteArray) : Bool := (gthE [] 0 x.body).any fun r => decide (r.1 = s)
def farAsks (p : PrD) (st : Int) (s : ByteArray) : Bool := p.flows.any fun x => !decide (x.st = st) && asksF x s
def hereAsks (p : PrD) (st : Int) (s : ByteArray) : Bool := p.flows.any fun x => decide (x.st = st) && asksF x s
def stationsL (n : Int) : List Int := (List.range n.toNat).map fun (k : Nat) => ((k : Int) + 1)
noncomputable def sendsP (p : PrD) (st : Int) : List ByteArray := if namesP p = 0 then (ownN p st).filter (farAsks p st) else []
def needsAt (p : PrD) (st s : Int) : List ByteArray := if s = st then [] else (ownN p s).filter (hereAsks p st)
noncomputable def needsP (p : PrD) (st : Int) : List ByteArray := if namesP p = 0 then (stationsL p.st).flatMap (needsAt p st) else []

theorem sites_names (p : PrD) : (sitesP p).map (·.1) = namesT p := by
  rw [namesT_eq, sitesP, List.map_append, List.map_map, List.map_map]; rfl
theorem stations_mem {n s : Int} : s ∈ stationsL n ↔ 1 ≤ s ∧ s ≤ n := by
  unfold stationsL
  rw [List.mem_map]
  constructor
  · rintro ⟨k, hk, rfl⟩
    have := List.mem_range.1 hk
    omega
  · rintro ⟨h1, h2⟩
    exact ⟨(s - 1).toNat, List.mem_range.2 (by omega), by omega⟩
theorem stations_nodup (n : Int) : (stationsL n).Nodup := by
  unfold stationsL
  exact List.Pairwise.map _ (fun a b (h : a ≠ b) => by show (a : Int) + 1 ≠ (b : Int) + 1; omega) (List.nodup_range)
theorem own_mem {p : PrD} {st : Int} {s : ByteArray} : s ∈ ownN p st ↔ (s, st) ∈ sitesP p := by
  unfold ownN
  rw [List.mem_map]
  constructor
  · rintro ⟨⟨a, b⟩, h, rfl⟩
    simp only [List.mem_filter, decide_eq_true_eq] at h
    obtain ⟨h, rfl⟩ := h
    exact h
  · intro h
    exact ⟨(s, st), List.mem_filter.2 ⟨h, by simp⟩, rfl⟩
theorem asks_mem {x : FlD} {s : ByteArray} : asksF x s = true ↔ s ∈ namesE x.body := by
  unfold asksF namesE
  rw [List.any_eq_true, List.mem_map]
  constructor
  · rintro ⟨r, hr, e⟩; exact ⟨r, hr, by simpa using e⟩
  · rintro ⟨r, hr, rfl⟩; exact ⟨r, hr, by simp⟩

/-- Where a name stands, counted from k; the last one counts. -/
def atG (s : ByteArray) : Nat → List ByteArray → Int → Int
  | _, [], d => d
  | k, x :: r, d => atG s (k + 1) r (if x = s then (k : Int) else d)
def atP (p : PrD) (s : ByteArray) : Int := atG s 0 (namesT p) 0
theorem atG_snoc (s x : ByteArray) : ∀ (l : List ByteArray) (k : Nat) (d : Int), atG s k (l ++ [x]) d = if x = s then ((k + l.length : Nat) : Int) else atG s k l d
  | [], k, d => by simp [atG]
  | y :: r, k, d => by
    rw [List.cons_append, atG, atG_snoc s x r (k + 1), atG, List.length_cons, show k + 1 + r.length = k + (r.length + 1) from by omega]
theorem atG_none {s : ByteArray} : ∀ {l : List ByteArray} {k : Nat} {d : Int}, s ∉ l → atG s k l d = d
  | [], k, d, _ => rfl
  | y :: r, k, d, h => by
    simp only [List.mem_cons, not_or] at h
    rw [atG, if_neg (fun e => h.1 e.symm), atG_none h.2]
theorem atG_at {s : ByteArray} : ∀ {l : List ByteArray} {k i : Nat} {d : Int}, l.Nodup → l[i]? = some s → atG s k l d = ((k + i : Nat) : Int)
  | [], k, i, d, _, h => by simp at h
  | y :: r, k, 0, d, hn, h => by
    simp only [List.getElem?_cons_zero, Option.some.injEq] at h
    subst h
    rw [atG, if_pos rfl, atG_none (List.nodup_cons.1 hn).1]
    rfl
  | y :: r, k, i + 1, d, hn, h => by
    rw [atG, atG_at (List.nodup_cons.1 hn).2 (by simpa using h), show k + 1 + i = k + (i + 1) from by omega]
theorem atP_iff {p : PrD} (h : okN p) {s : ByteArray} (hs : s ∈ namesT p) {i : Nat} {x : ByteArray} (hx : (namesT p)[i]? = some x) : atP p s = (i : Int) ↔ x = s := by
  obtain ⟨j, hj, hjs⟩ := List.getElem_of_mem hs
  have hj' : (namesT p)[j]? = some s := by rw [List.getElem?_eq_getElem hj, hjs]
  have e := atG_at (k := 0) (d := 0) h.1 hj'
  rw [Nat.zero_add] at e
  unfold atP
  rw [e]
  constructor
  · intro hij
    have : j = i := by omega
    subst this
    rw [hj'] at hx
    exact (Option.some.inj hx).symm
  · rintro rfl
    have := (List.getElem?_inj hj h.1).1 (hj'.trans hx.symm)
    rw [this]
def keysF (p : PrD) (x : FlD) : List (Int × Int) := (gthE [] 0 x.body).map fun r => (atP p r.1, x.st)
def keysP (p : PrD) : List (Int × Int) := p.flows.flatMap (keysF p)
def hasK (l : List (Int × Int)) (k : Int × Int) : Bool := l.any fun q => decide (q = k)
theorem asked_names {p : PrD} (h : okN p) {x : FlD} (hx : x ∈ p.flows) {s : ByteArray} (hs : s ∈ namesE x.body) : s ∈ namesT p :=
  h.2.1 s (List.mem_append.2 (.inl (namesF_mem hx hs)))
theorem has_key {p : PrD} (h : okN p) {i : Nat} {nm : ByteArray} (hi : (namesT p)[i]? = some nm) (s : Int) : hasK (keysP p) ((i : Int), s) = hereAsks p s nm := by
  rw [Bool.eq_iff_iff]
  unfold hasK hereAsks keysP
  rw [List.any_eq_true, List.any_eq_true]
  constructor
  · rintro ⟨q, hq, e⟩
    have e : q = ((i : Int), s) := by simpa using e
    subst e
    obtain ⟨x, hx, hq⟩ := List.mem_flatMap.1 hq
    obtain ⟨r, hr, e⟩ := List.mem_map.1 hq
    simp only [Prod.mk.injEq] at e
    have hm : r.1 ∈ namesE x.body := List.mem_map.2 ⟨r, hr, rfl⟩
    have := (atP_iff h (asked_names h hx hm) hi).1 e.1
    refine ⟨x, hx, ?_⟩
    rw [Bool.and_eq_true]
    exact ⟨by simpa using e.2, asks_mem.2 (by rw [this]; exact hm)⟩
  · rintro ⟨x, hx, e⟩
    rw [Bool.and_eq_true] at e
    have e1 : x.st = s := by simpa using e.1
    have hm := asks_mem.1 e.2
    obtain ⟨r, hr, e2⟩ := List.mem_map.1 hm
    refine ⟨_, List.mem_flatMap.2 ⟨x, hx, List.mem_map.2 ⟨r, hr, rfl⟩⟩, ?_⟩
    have := (atP_iff h (asked_names h hx hm) hi).2 rfl
    rw [← e2] at this
    simp [this, e1]
/-- The names of a station of which something holds, by where they stand, counted from k. -/
def someG (st : Int) (q : Int → Bool) : Nat → List (ByteArray × Int) → List ByteArray
  | _, [] => []
  | k, x :: r => (if x.2 = st ∧ q k = true then [x.1] else []) ++ someG st q (k + 1) r
theorem someG_snoc (st : Int) (q : Int → Bool) (x : ByteArray × Int) : ∀ (l : List (ByteArray × Int)) (k : Nat), someG st q k (l ++ [x]) = someG st q k l ++ (if x.2 = st ∧ q ((k + l.length : Nat) : Int) = true then [x.1] else [])
  | [], k => by simp [someG]
  | y :: r, k => by
    rw [List.cons_append, someG, someG_snoc st q x r (k + 1), someG, List.length_cons, show k + 1 + r.length = k + (r.length + 1) from by omega, List.append_assoc]
theorem someG_eq {st : Int} {q : Int → Bool} {g : ByteArray → Bool} : ∀ {l : List (ByteArray × Int)} {k : Nat}, (∀ i x, l[i]? = some x → x.2 = st → q ((k + i : Nat) : Int) = g x.1) → someG st q k l = ((l.filter fun x => decide (x.2 = st)).map (·.1)).filter g
  | [], k, _ => rfl
  | y :: r, k, h => by
    rw [someG, someG_eq (l := r) (k := k + 1) (fun i x hx hs => by rw [show k + 1 + i = k + (i + 1) from by omega]; exact h (i + 1) x (by simpa using hx) hs)]
    by_cases hy : y.2 = st
    · have h0 := h 0 y rfl hy
      rw [Nat.add_zero] at h0
      rw [List.filter_cons_of_pos (by simpa using hy), List.map_cons]
      by_cases hg : g y.1 = true
      · rw [if_pos ⟨hy, by rw [h0, hg]⟩, List.filter_cons_of_pos hg]; rfl
      · rw [if_neg (fun e => hg (by rw [← h0]; exact e.2)), List.filter_cons_of_neg hg]; rfl
    · rw [if_neg (fun e => hy e.1), List.filter_cons_of_neg (by simpa using hy)]; rfl
theorem site_name {p : PrD} {i : Nat} {x : ByteArray × Int} (h : (sitesP p)[i]? = some x) : (namesT p)[i]? = some x.1 := by
  rw [← sites_names, List.getElem?_map, h]; rfl
theorem fl_station {p : PrD} (h : progP p = true) {x : FlD} (hx : x ∈ p.flows) : 1 ≤ x.st ∧ x.st ≤ p.st := by
  have := (progP_parts.1 h).2.2.1 x hx
  simp only [flBad, mayP, Bool.or_eq_false_iff, Bool.not_eq_false', Bool.and_eq_true, decide_eq_true_eq] at this
  exact ⟨this.1.1.1.2, this.1.1.2⟩
theorem in_station {p : PrD} (h : progP p = true) {x : InD} (hx : x ∈ p.ins) : 1 ≤ x.st ∧ x.st ≤ p.st := by
  have := (progP_parts.1 h).2.1 x hx
  simp only [inBad, mayP, Bool.not_eq_false', Bool.and_eq_true, decide_eq_true_eq] at this
  exact ⟨this.1.2, this.2⟩
theorem site_station {p : PrD} (h : progP p = true) {x : ByteArray × Int} (hx : x ∈ sitesP p) : 1 ≤ x.2 ∧ x.2 ≤ p.st := by
  rcases List.mem_append.1 hx with hx | hx
  · obtain ⟨y, hy, rfl⟩ := List.mem_map.1 hx
    exact in_station h hy
  · obtain ⟨y, hy, rfl⟩ := List.mem_map.1 hx
    exact fl_station h hy
def sendQ (p : PrD) (st at_ : Int) : Bool := (stationsL p.st).any fun s => !decide (s = st) && hasK (keysP p) (at_, s)
theorem some_sends {p : PrD} (h : namesP p = 0) (st : Int) : someG st (sendQ p st) 0 (sitesP p) = sendsP p st := by
  unfold sendsP
  rw [if_pos h]
  refine someG_eq (fun i x hx hs => ?_)
  rw [Nat.zero_add, Bool.eq_iff_iff]
  unfold sendQ farAsks
  rw [List.any_eq_true, List.any_eq_true]
  have hk := fun s => has_key (names_okN h) (site_name hx) s
  constructor
  · rintro ⟨s, hm, e⟩
    rw [hk, Bool.and_eq_true] at e
    obtain ⟨e1, e2⟩ := e
    unfold hereAsks at e2
    rw [List.any_eq_true] at e2
    obtain ⟨y, hy, e2⟩ := e2
    rw [Bool.and_eq_true] at e2
    refine ⟨y, hy, ?_⟩
    have e3 : y.st = s := by simpa using e2.1
    rw [Bool.and_eq_true, e3]
    exact ⟨e1, e2.2⟩
  · rintro ⟨y, hy, e⟩
    rw [Bool.and_eq_true] at e
    refine ⟨y.st, stations_mem.2 (fl_station (names_prog h) hy), ?_⟩
    rw [hk, Bool.and_eq_true]
    refine ⟨e.1, ?_⟩
    unfold hereAsks
    rw [List.any_eq_true]
    exact ⟨y, hy, by simp [e.2]⟩
theorem some_needs {p : PrD} (h : namesP p = 0) (st s : Int) : someG s (fun a => hasK (keysP p) (a, st)) 0 (sitesP p) = (ownN p s).filter (hereAsks p st) := by
  refine someG_eq (fun i x hx hs => ?_)
  rw [Nat.zero_add]
  exact has_key (names_okN h) (site_name hx) st
/-- A place. -/
structure PlD where
  name : ByteArray
  ty : Int
  keep : Int
  far : Bool
  frm : Int
  df : Int
noncomputable def keepF (p : PrD) (l : List Int) (i : Nat) (nm : ByteArray) (a : Int) (refs : List Rf) : Int := refs.foldl (fun a r => if r.1 = nm then max a (ageP p l i r).1 else a) a
noncomputable def keepG (p : PrD) (l : List Int) (st : Int) (nm : ByteArray) : Nat → List FlD → Int → Int
  | _, [], a => a
  | i, f :: r, a => keepG p l st nm (i + 1) r (if f.st = st then keepF p l i nm a (gthE [] 0 f.body) else a)
noncomputable def keepP (p : PrD) (l : List Int) (st : Int) (nm : ByteArray) : Int := keepG p l st nm 0 p.flows 0
theorem keepG_snoc (p : PrD) (l : List Int) (st : Int) (nm : ByteArray) (f : FlD) : ∀ (fl : List FlD) (i : Nat) (a : Int), keepG p l st nm i (fl ++ [f]) a = (if f.st = st then keepF p l (i + fl.length) nm (keepG p l st nm i fl a) (gthE [] 0 f.body) else keepG p l st nm i fl a)
  | [], i, a => by simp [keepG]
  | y :: r, i, a => by
    rw [List.cons_append, keepG, keepG_snoc p l st nm f r (i + 1), keepG, List.length_cons, show i + 1 + r.length = i + (r.length + 1) from by omega]
theorem keepF_snoc (p : PrD) (l : List Int) (i : Nat) (nm : ByteArray) (a : Int) (refs : List Rf) (r : Rf) : keepF p l i nm a (refs ++ [r]) = if r.1 = nm then max (keepF p l i nm a refs) (ageP p l i r).1 else keepF p l i nm a refs := by
  unfold keepF
  rw [List.foldl_append]
  rfl
def stOf (p : PrD) (nm : ByteArray) : Int := (findP nm p.flows p.ins).1
def tyOf (p : PrD) (nm : ByteArray) : Int := (findP nm p.flows p.ins).2.1
def flOf (p : PrD) (nm : ByteArray) : Int := (findP nm p.flows p.ins).2.2.1
def dfOf (p : PrD) (nm : ByteArray) : Int := if flOf p nm < 0 then 0 else (p.flows[(flOf p nm).toNat]?.map (·.df)).getD 0
noncomputable def placeOf (p : PrD) (l : List Int) (st : Int) (nm : ByteArray) : PlD :=
  if stOf p nm = st then ⟨nm, tyOf p nm, keepP p l st nm, false, 0, 0⟩ else ⟨nm, tyOf p nm, keepP p l st nm, true, stOf p nm, dfOf p nm⟩
noncomputable def placesE (p : PrD) (l : List Int) (st : Int) : Int := if namesP p = 0 ∧ 1 ≤ st ∧ st ≤ p.st then (if lateChk p l = true then 0 else 10) else 1
noncomputable def allN (p : PrD) (st : Int) : List ByteArray := ownN p st ++ needsP p st
noncomputable def placesP (p : PrD) (l : List Int) (st : Int) : List PlD := if placesE p l st = 0 then (allN p st).map (placeOf p l st) else []

/-- Where a name is, in a program whose names are fine. -/
theorem find_site {p : PrD} (h : okN p) {s : ByteArray} {st : Int} (hs : (s, st) ∈ sitesP p) : stOf p s = st ∧ (findP s p.flows p.ins).2.2.2 = true := by
  have look : ∀ {y : Thing} {l : List Thing}, (l.map (·.1)).Nodup → y ∈ l → lookT y.1 l = (y.2.1, y.2.2.1, y.2.2.2, true) := by
    intro y l
    induction l with
    | nil => intro _ h; simp at h
    | cons x r ih =>
      intro hn h
      simp only [List.map_cons, List.nodup_cons] at hn
      unfold lookT
      rcases List.mem_cons.1 h with rfl | h
      · rw [if_pos rfl]
      · rw [if_neg (fun e => hn.1 (by rw [e]; exact List.mem_map.2 ⟨y, h, rfl⟩)), ih hn.2 h]
  unfold stOf
  rw [findP_look]
  rcases List.mem_append.1 hs with hs | hs
  · obtain ⟨y, hy, e⟩ := List.mem_map.1 hs
    simp only [Prod.mk.injEq] at e
    obtain ⟨rfl, rfl⟩ := e
    have := look (y := inT y) h.1 (List.mem_append.2 (.inl (List.mem_map.2 ⟨y, hy, rfl⟩)))
    have e2 : lookT y.name (p.ins.map inT ++ flTs 0 p.flows) = _ := this
    rw [e2]
    exact ⟨rfl, rfl⟩
  · obtain ⟨y, hy, e⟩ := List.mem_map.1 hs
    simp only [Prod.mk.injEq] at e
    obtain ⟨rfl, rfl⟩ := e
    obtain ⟨k, hk, rfl⟩ := List.getElem_of_mem hy
    have hm := flTs_at 0 p.flows k hk
    rw [List.getElem?_eq_getElem hk] at hm
    have := look (y := flT k p.flows[k]) h.1 (List.mem_append.2 (.inr (List.mem_of_getElem? (i := k) (by rw [hm, Nat.zero_add]; rfl))))
    have e2 : lookT p.flows[k].name (p.ins.map inT ++ flTs 0 p.flows) = _ := this
    rw [e2]
    exact ⟨rfl, rfl⟩
theorem own_nodup {p : PrD} (h : okN p) (st : Int) : (ownN p st).Nodup := by
  have hn := h.1
  rw [← sites_names] at hn
  unfold ownN
  exact hn.sublist ((List.filter_sublist (l := sitesP p)).map _)
theorem own_st {p : PrD} (h : okN p) {s : ByteArray} {st : Int} (hs : s ∈ ownN p st) : stOf p s = st := (find_site h (own_mem.1 hs)).1
theorem flat_nodup {α β : Type} {l : List α} {f : α → List β} {g : β → α} (hn : l.Nodup) (h1 : ∀ a, a ∈ l → (f a).Nodup) (h2 : ∀ a b, a ∈ l → b ∈ f a → g b = a) : (l.flatMap f).Nodup := by
  induction l with
  | nil => simp
  | cons a r ih =>
    rw [List.flatMap_cons, List.nodup_append]
    refine ⟨h1 a (by simp), ih (List.nodup_cons.1 hn).2 (fun b hb => h1 b (by simp [hb])) (fun b c hb => h2 b c (by simp [hb])), fun x hx y hy e => ?_⟩
    subst e
    obtain ⟨b, hb, hy⟩ := List.mem_flatMap.1 hy
    have e1 := h2 a x (by simp) hx
    have e2 := h2 b x (by simp [hb]) hy
    exact (List.nodup_cons.1 hn).1 (by rw [← e1, e2]; exact hb)
theorem needs_mem {p : PrD} (h : namesP p = 0) {st : Int} {s : ByteArray} : s ∈ needsP p st ↔ ∃ t, 1 ≤ t ∧ t ≤ p.st ∧ t ≠ st ∧ s ∈ ownN p t ∧ hereAsks p st s = true := by
  unfold needsP
  rw [if_pos h, List.mem_flatMap]
  constructor
  · rintro ⟨t, ht, hs⟩
    unfold needsAt at hs
    by_cases e : t = st
    · rw [if_pos e] at hs; simp at hs
    · rw [if_neg e, List.mem_filter] at hs
      have := stations_mem.1 ht
      exact ⟨t, this.1, this.2, e, hs.1, hs.2⟩
  · rintro ⟨t, h1, h2, h3, h4, h5⟩
    refine ⟨t, stations_mem.2 ⟨h1, h2⟩, ?_⟩
    unfold needsAt
    rw [if_neg h3, List.mem_filter]
    exact ⟨h4, h5⟩
theorem needs_nodup {p : PrD} (h : namesP p = 0) (st : Int) : (needsP p st).Nodup := by
  unfold needsP
  rw [if_pos h]
  refine flat_nodup (g := stOf p) (stations_nodup _) (fun t _ => ?_) (fun t s _ hs => ?_)
  · unfold needsAt
    split
    · simp
    · exact (own_nodup (names_okN h) t).sublist List.filter_sublist
  · unfold needsAt at hs
    split at hs
    · simp at hs
    · exact own_st (names_okN h) (List.mem_filter.1 hs).1
theorem needs_st {p : PrD} (h : namesP p = 0) {st : Int} {s : ByteArray} (hs : s ∈ needsP p st) : stOf p s ≠ st := by
  obtain ⟨t, _, _, h3, h4, _⟩ := (needs_mem h).1 hs
  rw [own_st (names_okN h) h4]
  exact h3
theorem all_nodup {p : PrD} (h : namesP p = 0) (st : Int) : (allN p st).Nodup := by
  unfold allN
  rw [List.nodup_append]
  refine ⟨own_nodup (names_okN h) st, needs_nodup h st, fun x hx y hy e => ?_⟩
  subst e
  exact needs_st h hy (own_st (names_okN h) hx)
theorem all_there {p : PrD} (h : namesP p = 0) {st : Int} {s : ByteArray} (hs : s ∈ allN p st) : (findP s p.flows p.ins).2.2.2 = true := by
  rcases List.mem_append.1 hs with hs | hs
  · exact (find_site (names_okN h) (own_mem.1 hs)).2
  · obtain ⟨t, _, _, _, h4, _⟩ := (needs_mem h).1 hs
    exact (find_site (names_okN h) (own_mem.1 h4)).2
theorem all_far {p : PrD} (h : namesP p = 0) {st : Int} {s : ByteArray} (hs : s ∈ allN p st) : s ∈ needsP p st ↔ stOf p s ≠ st := by
  constructor
  · exact needs_st h
  · intro hne
    rcases List.mem_append.1 hs with hs | hs
    · exact absurd (own_st (names_okN h) hs) hne
    · exact hs
theorem sends_mem {p : PrD} (h : namesP p = 0) {st : Int} {s : ByteArray} : s ∈ sendsP p st ↔ s ∈ ownN p st ∧ farAsks p st s = true := by
  unfold sendsP
  rw [if_pos h, List.mem_filter]
/-- What a station needs of another one, that one sends. -/
theorem need_sent {p : PrD} (h : namesP p = 0) {st : Int} {s : ByteArray} (hs : s ∈ needsP p st) : s ∈ sendsP p (stOf p s) := by
  obtain ⟨t, h1, h2, h3, h4, h5⟩ := (needs_mem h).1 hs
  rw [own_st (names_okN h) h4, sends_mem h]
  refine ⟨h4, ?_⟩
  unfold hereAsks at h5
  unfold farAsks
  rw [List.any_eq_true] at h5 ⊢
  obtain ⟨x, hx, e⟩ := h5
  rw [Bool.and_eq_true] at e
  have e1 : x.st = st := by simpa using e.1
  refine ⟨x, hx, ?_⟩
  rw [Bool.and_eq_true]
  refine ⟨?_, e.2⟩
  simp only [Bool.not_eq_true', decide_eq_false_iff_not]
  omega
noncomputable def sentL (p : PrD) (n : Nat) : List ByteArray := ((List.range n).map fun (k : Nat) => ((k : Int) + 1)).flatMap (sendsP p)
noncomputable def needL (p : PrD) (n : Nat) : List ByteArray := ((List.range n).map fun (k : Nat) => ((k : Int) + 1)).flatMap (needsP p)
theorem sentL_snoc (p : PrD) (n : Nat) : sentL p (n + 1) = sentL p n ++ sendsP p ((n : Int) + 1) := by
  unfold sentL
  rw [List.range_succ, List.map_append, List.flatMap_append]
  simp
theorem needL_snoc (p : PrD) (n : Nat) : needL p (n + 1) = needL p n ++ needsP p ((n : Int) + 1) := by
  unfold needL
  rw [List.range_succ, List.map_append, List.flatMap_append]
  simp
theorem sent_nodup {p : PrD} (h : namesP p = 0) : (sentL p p.st.toNat).Nodup := by
  refine flat_nodup (g := stOf p) (stations_nodup _) (fun t _ => ?_) (fun t s _ hs => ?_)
  · unfold sendsP
    rw [if_pos h]
    exact (own_nodup (names_okN h) t).sublist List.filter_sublist
  · exact own_st (names_okN h) ((sends_mem h).1 hs).1
/-- What is sent is what is needed. -/
theorem sent_need {p : PrD} (h : namesP p = 0) (s : ByteArray) : s ∈ sentL p p.st.toNat ↔ s ∈ needL p p.st.toNat := by
  unfold sentL needL
  rw [List.mem_flatMap, List.mem_flatMap]
  constructor
  · rintro ⟨t, ht, hs⟩
    obtain ⟨h1, h2⟩ := (sends_mem h).1 hs
    unfold farAsks at h2
    rw [List.any_eq_true] at h2
    obtain ⟨x, hx, e⟩ := h2
    rw [Bool.and_eq_true] at e
    have e1 : x.st ≠ t := by simpa using e.1
    have hst := fl_station (names_prog h) hx
    have htt := stations_mem.1 (show t ∈ stationsL p.st from ht)
    refine ⟨x.st, (show x.st ∈ stationsL p.st from stations_mem.2 hst), (needs_mem h).2 ⟨t, htt.1, htt.2, fun e => e1 e.symm, h1, ?_⟩⟩
    unfold hereAsks
    rw [List.any_eq_true]
    exact ⟨x, hx, by simp [e.2]⟩
  · rintro ⟨t, ht, hs⟩
    obtain ⟨u, h1, h2, _, h4, _⟩ := (needs_mem h).1 hs
    refine ⟨stOf p s, ?_, need_sent h hs⟩
    rw [own_st (names_okN h) h4]
    exact (show u ∈ stationsL p.st from stations_mem.2 ⟨h1, h2⟩)
/-- A list without repetition of the same members is as long. -/
theorem same_len {α : Type} {l m : List α} (hl : l.Nodup) (hm : m.Nodup) (h : ∀ x, x ∈ l ↔ x ∈ m) : l.length = m.length :=
  Nat.le_antisymm (hl.length_le_of_subset fun x hx => (h x).1 hx) (hm.length_le_of_subset fun x hx => (h x).2 hx)
theorem places_ok {p : PrD} {l : List Int} {st : Int} (h : lateChk p l = true) (h1 : 1 ≤ st) (h2 : st ≤ p.st) : placesE p l st = 0 ∧ placesP p l st = (allN p st).map (placeOf p l st) := by
  have hn := (lateChk_iff.1 h).1
  have e : placesE p l st = 0 := by unfold placesE; rw [if_pos ⟨hn, h1, h2⟩, if_pos h]
  exact ⟨e, by unfold placesP; rw [if_pos e]⟩
/-- All names at one station. -/
def nearI (s : Int) (x : InD) : InD := ⟨x.name, x.ty, s⟩
def nearF (s : Int) (x : FlD) : FlD := ⟨x.name, x.ty, s, x.df, x.body⟩
def nearP (p : PrD) (s : Int) : PrD := ⟨p.st, p.ins.map (nearI s), p.flows.map (nearF s), p.outs⟩
theorem near_sites (p : PrD) (s : Int) : sitesP (nearP p s) = (namesT p).map fun n => (n, s) := by
  rw [namesT_eq]
  simp only [sitesP, nearP, List.map_map, List.map_append]
  rfl
theorem near_own (p : PrD) (s k : Int) : ownN (nearP p s) k = if k = s then namesT p else [] := by
  unfold ownN
  rw [near_sites]
  by_cases h : k = s
  · subst h
    rw [if_pos rfl, List.filter_eq_self.2 (fun x hx => by obtain ⟨n, _, rfl⟩ := List.mem_map.1 hx; simp), List.map_map]
    exact List.map_id _
  · rw [if_neg h, List.filter_eq_nil_iff.2 (fun x hx => by obtain ⟨n, _, rfl⟩ := List.mem_map.1 hx; simpa using fun e => h e.symm)]
    rfl
theorem near_fl {p : PrD} {s : Int} {x : FlD} (hx : x ∈ (nearP p s).flows) : x.st = s := by
  obtain ⟨y, _, rfl⟩ := List.mem_map.1 hx
  rfl
theorem near_sends (p : PrD) (s k : Int) : sendsP (nearP p s) k = [] := by
  unfold sendsP
  split
  · rw [List.filter_eq_nil_iff]
    intro n hn hf
    rw [near_own] at hn
    split at hn
    · rename_i e
      unfold farAsks at hf
      rw [List.any_eq_true] at hf
      obtain ⟨x, hx, e2⟩ := hf
      rw [Bool.and_eq_true, near_fl hx, e] at e2
      simp at e2
    · simp at hn
  · rfl
theorem near_needs (p : PrD) (s k : Int) : needsP (nearP p s) k = [] := by
  unfold needsP
  split
  · rw [List.flatMap_eq_nil_iff]
    intro t _
    unfold needsAt
    split
    · rfl
    · rename_i hne
      rw [List.filter_eq_nil_iff]
      intro n hn hf
      rw [near_own] at hn
      split at hn
      · rename_i e
        unfold hereAsks at hf
        rw [List.any_eq_true] at hf
        obtain ⟨x, hx, e2⟩ := hf
        rw [Bool.and_eq_true, near_fl hx] at e2
        exact hne (e.trans (by simpa using e2.1))
      · simp at hn
  · rfl
theorem near_all (p : PrD) (s k : Int) : allN (nearP p s) k = if k = s then namesT p else [] := by
  unfold allN
  rw [near_own, near_needs, List.append_nil]
theorem near_far {p : PrD} {s : Int} (h : namesP (nearP p s) = 0) {l : List Int} {n : ByteArray} (hn : n ∈ allN (nearP p s) s) : (placeOf (nearP p s) l s n).far = false ∧ (placeOf (nearP p s) l s n).name = n := by
  have : stOf (nearP p s) n = s := by
    apply Classical.byContradiction
    intro hne
    have := (all_far h hn).2 hne
    rw [near_needs] at this
    simp at this
  unfold placeOf
  rw [if_pos this]
  exact ⟨rfl, rfl⟩
end Go.Proofs.Ytjdficgejjkaoaa
