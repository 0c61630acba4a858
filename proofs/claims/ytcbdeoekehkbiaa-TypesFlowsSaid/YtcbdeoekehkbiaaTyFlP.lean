/- One flow changed, its type or what it begins with: the plain law. -/
import Derived.Test.YtcbdeoekehkbiaaTyTurnP
import Derived.Test.YtcbdeoekehkbiaaTyGreat
namespace Go.Proofs.Ytcbdeoekehkbiaa
open Go.RowKit
set_option linter.unusedVariables false
set_option linter.unusedSimpArgs false

def putP (p : PrD) (k : Nat) (y : FlD) : PrD := ⟨p.st, p.ins, p.flows.set k y, p.outs⟩
def chF (x : FlD) (ty df : Int) : FlD := ⟨x.name, ty, x.st, df, x.body⟩
theorem map_put {β : Type} (f : FlD → β) {l : List FlD} {k : Nat} {x y : FlD} (hx : l[k]? = some x) (h : f y = f x) : (l.set k y).map f = l.map f := by
  apply List.ext_getElem?
  intro j
  rw [List.getElem?_map, List.getElem?_map]
  by_cases hj : k = j
  · subst hj
    rw [List.getElem?_set_self (List.getElem?_eq_some_iff.1 hx).1, hx]
    simp [h]
  · rw [List.getElem?_set_ne hj]
theorem namesF_map (l : List FlD) : namesF l = (l.map (·.body)).flatMap namesE := by
  induction l with
  | nil => rfl
  | cons y r ih => simp [namesF, ih]
theorem put_names {p : PrD} (h : namesP p = 0) {k : Nat} {x : FlD} (hx : p.flows[k]? = some x) {ty df : Int} (ht : ty = 1 ∨ ty = 2) (hd : df ≠ -9223372036854775808) : namesP (putP p k (chF x ty df)) = 0 := by
  have hp : progP p = true ∧ okN p := by
    cases hp : progP p
    · rw [names_1 hp] at h; cases h
    · refine ⟨rfl, Classical.byContradiction fun ho => ?_⟩
      rw [names_6 hp ho] at h
      cases h
  obtain ⟨k1, k2⟩ := hp
  obtain ⟨⟨a, b, c, d, e⟩, f, g, i⟩ := progP_parts.1 k1
  have hl : (p.flows.set k (chF x ty df)).length = p.flows.length := List.length_set
  have ht2 : namesT (putP p k (chF x ty df)) = namesT p := by rw [namesT_eq, namesT_eq]; simp only [putP]; rw [map_put (y := chF x ty df) (·.name) hx rfl]
  have hask : askedL (putP p k (chF x ty df)) = askedL p := by
    unfold askedL
    rw [namesF_map, namesF_map]
    simp only [putP]
    rw [map_put (y := chF x ty df) (·.body) hx rfl]
  refine names_0 (progP_parts.2 ⟨⟨a, b, c, by simpa [putP] using d, by simpa [putP] using e⟩, f, fun y hy => ?_, i⟩) ⟨by rw [ht2]; exact k2.1, fun s hs => by rw [ht2]; rw [hask] at hs; exact k2.2.1 s hs, k2.2.2⟩
  rcases List.mem_or_eq_of_mem_set hy with hy | rfl
  · exact g y hy
  · have := g x (List.mem_of_getElem? hx)
    simp only [flBad, mayP, Bool.or_eq_false_iff, Bool.not_eq_false', Bool.and_eq_true, decide_eq_true_eq, decide_eq_false_iff_not, Bool.or_eq_true] at this ⊢
    exact ⟨⟨⟨⟨⟨this.1.1.1.1.1, ht⟩, this.1.1.1.2⟩, this.1.1.2⟩, hd⟩, this.2⟩
theorem typL_put {p : PrD} {k : Nat} {x : FlD} (hx : p.flows[k]? = some x) (ty df : Int) {s : ByteArray} (hs : s ≠ x.name) (t : Int) : (s, t) ∈ typL (putP p k (chF x ty df)) ↔ (s, t) ∈ typL p := by
  have key : (s, t) ∈ (p.flows.set k (chF x ty df)).map (fun x => (x.name, x.ty)) ↔ (s, t) ∈ p.flows.map (fun x => (x.name, x.ty)) := by
    constructor
    · intro h
      obtain ⟨y, hy, e⟩ := List.mem_map.1 h
      rcases List.mem_or_eq_of_mem_set hy with hy | rfl
      · exact List.mem_map.2 ⟨y, hy, e⟩
      · simp only [chF, Prod.mk.injEq] at e
        exact absurd e.1.symm hs
    · intro h
      obtain ⟨y, hy, e⟩ := List.mem_map.1 h
      obtain ⟨j, hj⟩ := List.mem_iff_getElem?.1 hy
      have hjk : k ≠ j := by
        rintro rfl
        rw [hx] at hj
        simp only [Option.some.injEq] at hj
        subst hj
        simp only [Prod.mk.injEq] at e
        exact hs e.1.symm
      exact List.mem_map.2 ⟨y, List.mem_of_getElem? (i := j) (by rw [List.getElem?_set_ne hjk]; exact hj), e⟩
  unfold typL
  rw [List.mem_append, List.mem_append]
  simp only [putP]
  rw [key]
/-- Two programs whose names mean one thing each, where a name is of the same types. -/
theorem find_same2 {p q : PrD} (hp : (namesT p).Nodup) (hq : (namesT q).Nodup) {s : ByteArray} (h : ∀ t, (s, t) ∈ typL q ↔ (s, t) ∈ typL p) : (findP s q.flows q.ins).2.2.2 = (findP s p.flows p.ins).2.2.2 ∧ nameT q s = nameT p s := by
  have hn : ∀ r : PrD, namesT r = (typL r).map (·.1) := fun r => by
    rw [namesT_eq]; simp [typL, List.map_map, Function.comp_def]
  have key : ∀ (r : PrD), (namesT r).Nodup → ∀ t, (s, t) ∈ typL r → (findP s r.flows r.ins).2.1 = t ∧ (findP s r.flows r.ins).2.2.2 = true := by
    intro r hr t ht
    simp only [typL, List.mem_append, List.mem_map, Prod.mk.injEq] at ht
    rcases ht with ⟨x, hx, rfl, rfl⟩ | ⟨x, hx, rfl, rfl⟩
    · exact find_of_in hr hx
    · exact find_of_fl hr hx
  by_cases hs : s ∈ namesT p
  · rw [hn] at hs
    obtain ⟨⟨s', t⟩, ht, rfl⟩ := List.mem_map.1 hs
    obtain ⟨a1, a2⟩ := key p hp t ht
    obtain ⟨b1, b2⟩ := key q hq t ((h t).2 ht)
    unfold nameT
    rw [a1, a2, b1, b2]
    exact ⟨rfl, rfl⟩
  · have hs' : s ∉ namesT q := by
      rw [hn] at hs ⊢
      intro h'
      obtain ⟨⟨s', t⟩, ht, rfl⟩ := List.mem_map.1 h'
      exact hs (List.mem_map.2 ⟨_, (h t).1 ht, rfl⟩)
    obtain ⟨a1, a2⟩ := find_none hs
    obtain ⟨b1, b2⟩ := find_none hs'
    unfold nameT
    rw [a1, a2, b1, b2]
    exact ⟨rfl, rfl⟩
theorem names0_nodup {p : PrD} (h : namesP p = 0) : (namesT p).Nodup := by
  cases hp : progP p
  · rw [names_1 hp] at h; cases h
  · refine Classical.byContradiction fun ho => ?_
    rw [names_6 hp (fun k => ho k.1)] at h
    cases h
theorem types0 {p : PrD} (h : typesP p = 0) : namesP p = 0 ∧ typedL p p.flows = true := by
  unfold typesP at h
  by_cases h0 : namesP p = 0
  · rw [if_pos h0] at h
    refine ⟨h0, ?_⟩
    by_cases ht : typedL p p.flows = true
    · exact ht
    · rw [if_neg ht] at h; cases h
  · rw [if_neg h0] at h; exact absurd h h0
theorem types_err {p : PrD} (h : typesP p ≠ 0) : namesP p = typesP p ∨ (namesP p = 0 ∧ typesP p = 7) := by
  unfold typesP at h ⊢
  by_cases h0 : namesP p = 0
  · rw [if_pos h0] at h ⊢
    by_cases ht : typedL p p.flows = true
    · rw [if_pos ht] at h; exact absurd rfl h
    · rw [if_neg ht]; exact .inr ⟨h0, rfl⟩
  · rw [if_neg h0]; exact .inl rfl
/-- In a well typed program each flow's body is of its type. -/
theorem types0_body {p : PrD} (h : typesP p = 0) {x : FlD} (hx : x ∈ p.flows) : tyP p x.body = (x.ty, 0) := by
  obtain ⟨h0, ht⟩ := types0 h
  have hf := List.all_eq_true.1 ht x hx
  simp only [fineT, Bool.and_eq_true, decide_eq_true_eq] at hf
  have hty := names0_ty h0 x hx
  have : (tyP p x.body).2 = 0 := Classical.byContradiction fun hne => by have := (ty_no hne).1; omega
  obtain ⟨_, _, _, e⟩ := ty_ok this
  rw [← hf.1]
  rw [e]
theorem put_type {p : PrD} (h : typesP p = 0) {k : Nat} {x : FlD} (hx : p.flows[k]? = some x) (hown : x.name ∉ nmsE x.body) : typesP (putP p k (chF x (3 - x.ty) x.df)) = 7 := by
  obtain ⟨h0, ht⟩ := types0 h
  have hxm := List.mem_of_getElem? hx
  have hty := names0_ty h0 x hxm
  have hp := names_parts (p := p) (by rw [h0]; decide)
  have hd : x.df ≠ -9223372036854775808 := by
    have := (progP_parts.1 hp).2.2.1 x hxm
    simp only [flBad, Bool.or_eq_false_iff, decide_eq_false_iff_not] at this
    exact this.1.2
  have q0 := put_names h0 hx (ty := 3 - x.ty) (df := x.df) (by omega) hd
  unfold typesP
  rw [if_pos q0, if_neg]
  intro hall
  have hf := List.all_eq_true.1 hall (chF x (3 - x.ty) x.df) (List.mem_of_getElem? (i := k) (by simp only [putP]; rw [List.getElem?_set_self (List.getElem?_eq_some_iff.1 hx).1]))
  have e : tyP (putP p k (chF x (3 - x.ty) x.df)) x.body = tyP p x.body := tyP_same (fun s hs => find_same2 (names0_nodup h0) (names0_nodup q0) (typL_put hx _ _ (fun e => hown (by rw [← e]; exact hs))))
  simp only [fineT, Bool.and_eq_true, decide_eq_true_eq] at hf
  have h1 := hf.1
  rw [show (chF x (3 - x.ty) x.df).body = x.body from rfl, e, types0_body h hxm] at h1
  simp only [chF] at h1
  omega
theorem put_first {p : PrD} (h : typesP p = 0) {k : Nat} {x : FlD} (hx : p.flows[k]? = some x) : typesP (putP p k (chF x x.ty 2)) = if x.ty = 1 then 0 else 7 := by
  obtain ⟨h0, ht⟩ := types0 h
  have hxm := List.mem_of_getElem? hx
  have hty := names0_ty h0 x hxm
  have q0 := put_names h0 hx (ty := x.ty) (df := 2) hty (by decide)
  have hL : typL (putP p k (chF x x.ty 2)) = typL p := by unfold typL; simp only [putP]; rw [map_put (y := chF x x.ty 2) (fun x => (x.name, x.ty)) hx rfl]
  have e : ∀ b, tyP (putP p k (chF x x.ty 2)) b = tyP p b := fun b => tyP_same (fun s hs => find_same (names0_nodup h0) (by rw [hL]) s)
  unfold typesP
  rw [if_pos q0]
  by_cases h1 : x.ty = 1
  · rw [if_pos h1, if_pos]
    unfold typedL
    rw [List.all_eq_true]
    intro y hy
    rcases List.mem_or_eq_of_mem_set hy with hy | rfl
    · have := List.all_eq_true.1 ht y hy
      unfold fineT at this ⊢
      rw [e]; exact this
    · unfold fineT
      rw [e, show (chF x x.ty 2).body = x.body from rfl, types0_body h hxm]
      simp [chF, h1]
  · rw [if_neg h1, if_neg]
    intro hall
    have hf := List.all_eq_true.1 hall (chF x x.ty 2) (List.mem_of_getElem? (i := k) (by simp only [putP]; rw [List.getElem?_set_self (List.getElem?_eq_some_iff.1 hx).1]))
    simp [fineT, chF, h1] at hf
/-- A program's twin, one flow of it changed. -/
theorem tw_put {p : PrD} {w w3 w4 V X : World} {cs : Array Value} {vi vo u : Value} {g k : Nat} {ps : List (FlD × Value)} {x x' : FlD} {cur cur' : Array Value} (hp : RdPr w 0 false p cs)
    (ht : TwPr w3 p w4 vi (.slice (some ⟨g, 0, none⟩) p.flows.length (p.flows.length + 1)) vo ps) (hg0 : w3.heap.size ≤ g) (eV : Ext w4 V) (hcV : V.heap[g]? = some (.cells cur 50 (0, 0)))
    (hD : Chg (fun q => q = g) V X) (hcX : X.heap[g]? = some (.cells cur' 50 (0, 0))) (hrow : RowOf flP 8 cur' (ps.set k (x', u))) (hu : ps[k]? = some (x, u)) (hb : x'.body = x.body) (hf : FlFine x') :
    RdPr X 0 false (putP p k x') #[.int .i64 p.st, vi, .slice (some ⟨g, 0, none⟩) p.flows.length (p.flows.length + 1), vo] := by
  obtain ⟨_, _, _, _, hst, hi, hfl, ho⟩ := hp
  obtain ⟨_, _, _, i1, _, _, i4, _⟩ := hi
  obtain ⟨_, _, _, o1, _, _, o4, _⟩ := ho
  have h96 : p.flows.length * 96 ≤ 140737488351232 := by obtain ⟨_, _, _, h, _⟩ := hfl.form; exact h
  have hl : ps.length = p.flows.length := by rw [← ht.fst, List.length_map]
  have r1 := TwIn.rd ((ht.ins.lift (Chg.refl _ _) eV).other hcV (by decide) hD hg0) (fun i x hx => by obtain ⟨a, b, c, _⟩ := i4 i x hx; exact ⟨a, b, c⟩) i1
  have r3 := TwStr.rd ((ht.outs.lift (Chg.refl _ _) eV).other hcV (by decide) hD hg0) (fun x hx => by obtain ⟨i, hi, rfl⟩ := List.getElem_of_mem hx; exact (o4 i _ (List.getElem?_eq_getElem hi)).1) o1
  have hbody : ∀ q, q ∈ ps → RdExV X 0 false q.1.body.args q.2 := fun q hq => (((ht.low q hq g rfl).ext eV).far hD (fun b hb => by omega)).plain.lower (Nat.zero_le _)
  have r2 := hrow.rdFl (cap := p.flows.length + 1) hcX (Chg.refl _ _) (fun q hq => by
    rcases List.mem_or_eq_of_mem_set hq with hq | rfl
    · have hm : q.1 ∈ p.flows := by rw [← ht.fst]; exact List.mem_map.2 ⟨q, hq, rfl⟩
      obtain ⟨j, hj⟩ := List.mem_iff_getElem?.1 hm
      exact ⟨hfl.fine hj, hbody q hq⟩
    · refine ⟨hf, ?_⟩
      have := hbody _ (List.mem_of_getElem? hu)
      simp only [hb]
      exact this) (by rw [List.length_set]; omega) (by unfold maxLen; omega) (by rw [List.length_set, hl]; unfold fitsR; omega)
  rw [List.map_set, ht.fst, List.length_set, hl] at r2
  exact ⟨_, _, _, rfl, hst, r1.plain.lower (Nat.zero_le _), r2, r3.plain.lower (Nat.zero_le _)⟩
def ownB (nm : ByteArray) (l : List Rf) (i : Nat) : Bool := (l.take i).any fun r => r.1.toList == nm.toList
theorem ownB_step {nm : ByteArray} {l : List Rf} {i : Nat} {r : Rf} (h : l[i]? = some r) : ownB nm l (i + 1) = (ownB nm l i || (r.1.toList == nm.toList)) := by
  unfold ownB
  rw [List.take_add_one, h]
  simp
theorem flows_law {p : PrD} (h : typesP p = 0) {k : Nat} {x : FlD} (hx : p.flows[k]? = some x) :
    (ownB x.name (gthE [] 0 x.body) (gthE [] 0 x.body).length = false → typesP (putP p k (chF x (3 - x.ty) x.df)) = 7) ∧ ((typesP (putP p k (chF x x.ty 2)) == 0) == (x.ty == 1)) = true := by
  refine ⟨fun ho => put_type h hx (fun hm => ?_), ?_⟩
  · have := (gth_nms x.body [] 0 x.name).2 (.inr hm)
    obtain ⟨r, hr, e⟩ := List.mem_map.1 this
    unfold ownB at ho
    rw [List.take_length] at ho
    have := List.any_eq_false.1 ho r hr
    rw [e] at this
    exact this (by simp)
  · rw [put_first h hx]
    by_cases h1 : x.ty = 1
    · simp [h1]
    · rw [if_neg h1]
      simp [h1]
end Go.Proofs.Ytcbdeoekehkbiaa
