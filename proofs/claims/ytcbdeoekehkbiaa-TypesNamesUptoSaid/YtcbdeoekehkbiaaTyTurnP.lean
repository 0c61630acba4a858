/- A type hangs on the names alone; a program turned round, at other stations: the plain laws. -/
import Derived.Test.YtcbdeoekehkbiaaTyNms
import Derived.Test.YtcbdeoekehkbiaaRowF2
namespace Go.Proofs.Ytcbdeoekehkbiaa
open Go.RowKit
set_option linter.unusedVariables false
set_option linter.unusedSimpArgs false

mutual
theorem tyE_same {p q : PrD} : ∀ (x : Ex), (∀ s, s ∈ nmsE x → nameT q s = nameT p s) → tyE q x = tyE p x
  | .mk op n nm args, h => by
    have hl := tyL_same args (fun s hs => h s (by simp only [nmsE, List.mem_append]; exact .inr hs))
    simp only [tyE]
    rw [hl]
    by_cases h3 : op = 3
    · rw [h nm (by simp only [nmsE, List.mem_append]; left; rw [if_pos h3]; simp)]
    · rw [if_neg h3, if_neg h3]
theorem tyL_same {p q : PrD} : ∀ (l : List Ex), (∀ s, s ∈ nmsL l → nameT q s = nameT p s) → tyL q l = tyL p l
  | [], _ => by simp [tyL]
  | x :: r, h => by
    simp only [tyL]
    rw [tyE_same x (fun s hs => h s (by simp only [nmsL, List.mem_append]; exact .inl hs)), tyL_same r (fun s hs => h s (by simp only [nmsL, List.mem_append]; exact .inr hs))]
end
/-- It hangs on whether names are there, and of which type. -/
theorem tyP_same {p q : PrD} {x : Ex} (h : ∀ s, s ∈ nmsE x → (findP s q.flows q.ins).2.2.2 = (findP s p.flows p.ins).2.2.2 ∧ nameT q s = nameT p s) : tyP q x = tyP p x := by
  unfold tyP
  have e1 : thereP q (gthE [] 0 x) = thereP p (gthE [] 0 x) := by
    rw [Bool.eq_iff_iff, there_iff, there_iff]
    constructor
    · intro k s hs; rw [← (h s hs).1]; exact k s hs
    · intro k s hs; rw [(h s hs).1]; exact k s hs
  rw [e1, tyE_same x (fun s hs => (h s hs).2)]
theorem lookT_nodup {y : Thing} : ∀ {l : List Thing}, (l.map (·.1)).Nodup → y ∈ l → lookT y.1 l = (y.2.1, y.2.2.1, y.2.2.2, true)
  | [], _, h => by simp at h
  | x :: r, hn, h => by
    simp only [List.map_cons, List.nodup_cons] at hn
    unfold lookT
    rcases List.mem_cons.1 h with rfl | h
    · rw [if_pos rfl]
    · rw [if_neg (fun e => hn.1 (by rw [e]; exact List.mem_map.2 ⟨y, h, rfl⟩)), lookT_nodup hn.2 h]
/-- In a program whose names mean one thing each: what a name is of. -/
theorem find_of_in {p : PrD} (h : (namesT p).Nodup) {x : InD} (hx : x ∈ p.ins) : (findP x.name p.flows p.ins).2.1 = x.ty ∧ (findP x.name p.flows p.ins).2.2.2 = true := by
  rw [findP_look]
  have := lookT_nodup (y := inT x) (l := p.ins.map inT ++ flTs 0 p.flows) h (List.mem_append.2 (.inl (List.mem_map.2 ⟨x, hx, rfl⟩)))
  rw [show x.name = (inT x).1 from rfl, this]
  exact ⟨rfl, rfl⟩
theorem find_of_fl {p : PrD} (h : (namesT p).Nodup) {x : FlD} (hx : x ∈ p.flows) : (findP x.name p.flows p.ins).2.1 = x.ty ∧ (findP x.name p.flows p.ins).2.2.2 = true := by
  obtain ⟨k, hk, rfl⟩ := List.getElem_of_mem hx
  rw [findP_look]
  have hm := flTs_at 0 p.flows k hk
  rw [List.getElem?_eq_getElem hk] at hm
  have := lookT_nodup (y := flT (0 + k) p.flows[k]) (l := p.ins.map inT ++ flTs 0 p.flows) h (List.mem_append.2 (.inr (List.mem_of_getElem? hm)))
  rw [show (p.flows[k]).name = (flT (0 + k) p.flows[k]).1 from rfl, this]
  exact ⟨rfl, rfl⟩
theorem find_none {p : PrD} {s : ByteArray} (h : s ∉ namesT p) : (findP s p.flows p.ins).2.1 = 0 ∧ (findP s p.flows p.ins).2.2.2 = false := by
  have key : ∀ l : List Thing, s ∉ l.map (·.1) → lookT s l = (0, 0, 0, false) := by
    intro l
    induction l with
    | nil => intro _; rfl
    | cons y r ih =>
      intro h
      simp only [List.map_cons, List.mem_cons, not_or] at h
      unfold lookT
      rw [if_neg (fun e => h.1 e.symm)]
      exact ih h.2
  rw [findP_look, key (p.ins.map inT ++ flTs 0 p.flows) h]
  exact ⟨rfl, rfl⟩
def typL (p : PrD) : List (ByteArray × Int) := p.ins.map (fun x => (x.name, x.ty)) ++ p.flows.map (fun x => (x.name, x.ty))
/-- Two programs with the same names of the same types. -/
theorem find_same {p q : PrD} (hp : (namesT p).Nodup) (h : (typL q).Perm (typL p)) (s : ByteArray) : (findP s q.flows q.ins).2.2.2 = (findP s p.flows p.ins).2.2.2 ∧ nameT q s = nameT p s := by
  have hn : ∀ r : PrD, namesT r = (typL r).map (·.1) := fun r => by
    rw [namesT_eq]; simp [typL, List.map_map, Function.comp_def]
  have hq : (namesT q).Nodup := by
    rw [hn] at hp ⊢
    exact (h.map (·.1)).nodup_iff.2 hp
  have key : ∀ (r : PrD), (namesT r).Nodup → ∀ t, (s, t) ∈ typL r → (findP s r.flows r.ins).2.1 = t ∧ (findP s r.flows r.ins).2.2.2 = true := by
    intro r hr t ht
    simp only [typL, List.mem_append, List.mem_map, Prod.mk.injEq] at ht
    rcases ht with ⟨x, hx, rfl, rfl⟩ | ⟨x, hx, rfl, rfl⟩
    · exact find_of_in hr hx
    · exact find_of_fl hr hx
  by_cases hs : s ∈ namesT p
  · rw [hn] at hs
    obtain ⟨⟨s', t⟩, ht, rfl⟩ := List.mem_map.1 hs
    obtain ⟨a1, a2⟩ := key p hp t ht
    obtain ⟨b1, b2⟩ := key q hq t (h.mem_iff.2 ht)
    unfold nameT
    rw [a1, a2, b1, b2]
    exact ⟨rfl, rfl⟩
  · have hs' : s ∉ namesT q := by
      rw [hn] at hs ⊢
      intro h'
      exact hs ((h.map (·.1)).mem_iff.1 h')
    obtain ⟨a1, a2⟩ := find_none hs
    obtain ⟨b1, b2⟩ := find_none hs'
    unfold nameT
    rw [a1, a2, b1, b2]
    exact ⟨rfl, rfl⟩
def stF (x : FlD) : FlD := ⟨x.name, x.ty, 1, x.df, x.body⟩
def turnS (p : PrD) : PrD := ⟨p.st, p.ins, p.flows.reverse.map stF, p.outs⟩
theorem turnS_typ (p : PrD) : (typL (turnS p)).Perm (typL p) := by
  unfold typL turnS
  simp only [List.map_map]
  refine List.Perm.append_left _ ?_
  have : (fun x : FlD => (x.name, x.ty)) ∘ stF = fun x => (x.name, x.ty) := rfl
  rw [this, List.map_reverse]
  exact List.reverse_perm _
theorem namesF_iff2 {l : List FlD} {s : ByteArray} : s ∈ namesF l ↔ ∃ x, x ∈ l ∧ s ∈ namesE x.body := by
  induction l with
  | nil => simp [namesF]
  | cons y r ih =>
    simp only [namesF, List.mem_append, ih, List.mem_cons]
    constructor
    · rintro (h | ⟨x, hx, h⟩)
      · exact ⟨y, .inl rfl, h⟩
      · exact ⟨x, .inr hx, h⟩
    · rintro ⟨x, rfl | hx, h⟩
      · exact .inl h
      · exact .inr ⟨x, hx, h⟩
theorem names_parts {p : PrD} (h : namesP p ≠ 1) : progP p = true := by
  cases hp : progP p
  · exact absurd (names_1 hp) h
  · rfl
theorem turnS_prog {p : PrD} (h : progP p = true) : progP (turnS p) = true := by
  obtain ⟨⟨a, b, c, d, e⟩, f, g, i⟩ := progP_parts.1 h
  refine progP_parts.2 ⟨⟨a, b, c, by simpa [turnS] using d, by simpa [turnS] using e⟩, f, fun x hx => ?_, i⟩
  simp only [turnS, List.mem_map, List.mem_reverse] at hx
  obtain ⟨y, hy, rfl⟩ := hx
  have := g y hy
  simp only [flBad, mayP, Bool.or_eq_false_iff, Bool.not_eq_false', Bool.and_eq_true, decide_eq_true_eq] at this ⊢
  exact ⟨⟨⟨⟨⟨this.1.1.1.1.1, this.1.1.1.1.2⟩, by simp [stF]⟩, a⟩, this.1.2⟩, this.2⟩
theorem turnS_ok (p : PrD) : okN (turnS p) ↔ okN p := by
  have hn : ∀ r : PrD, namesT r = (typL r).map (·.1) := fun r => by
    rw [namesT_eq]; simp [typL, List.map_map, Function.comp_def]
  have e1 : (namesT (turnS p)).Perm (namesT p) := by rw [hn, hn]; exact (turnS_typ p).map _
  have e3 : ∀ s, s ∈ askedL (turnS p) ↔ s ∈ askedL p := fun s => by
    simp only [askedL, List.mem_append, namesF_iff2, turnS, List.mem_map, List.mem_reverse]
    constructor
    · rintro (⟨x, ⟨y, hy, rfl⟩, h⟩ | h)
      · exact .inl ⟨y, hy, h⟩
      · exact .inr h
    · rintro (⟨x, hx, h⟩ | h)
      · exact .inl ⟨stF x, ⟨x, hx, rfl⟩, h⟩
      · exact .inr h
  unfold okN
  rw [e1.nodup_iff]
  constructor
  · rintro ⟨h1, h2, h3⟩
    exact ⟨h1, fun s hs => e1.mem_iff.1 (h2 s ((e3 s).2 hs)), h3⟩
  · rintro ⟨h1, h2, h3⟩
    exact ⟨h1, fun s hs => e1.mem_iff.2 (h2 s ((e3 s).1 hs)), h3⟩
theorem turnS_types {p : PrD} (h : typesP p ≠ 1) : typesP (turnS p) = typesP p := by
  have h1 : namesP p ≠ 1 := fun e => h (by unfold typesP; rw [if_neg (by rw [e]; decide), e])
  have hp := names_parts h1
  have hq := turnS_prog hp
  by_cases ho : okN p
  · have n0 : namesP p = 0 := names_0 hp ho
    have m0 : namesP (turnS p) = 0 := names_0 hq ((turnS_ok p).2 ho)
    unfold typesP
    rw [if_pos n0, if_pos m0]
    have : typedL (turnS p) (turnS p).flows = typedL p p.flows := by
      unfold typedL
      rw [show (turnS p).flows = p.flows.reverse.map stF from rfl, List.all_map, List.all_reverse]
      congr 1
      funext x
      have e : tyP (turnS p) x.body = tyP p x.body := tyP_same (fun s _ => find_same ho.1 (turnS_typ p) s)
      show fineT (turnS p) (stF x) = fineT p x
      unfold fineT
      show (decide ((tyP (turnS p) x.body).1 = x.ty) && _) = _
      simp only [e]
      rfl
    rw [this]
  · have n6 : namesP p = 6 := names_6 hp ho
    have m6 : namesP (turnS p) = 6 := names_6 hq (fun k => ho ((turnS_ok p).1 k))
    unfold typesP
    rw [if_neg (by rw [m6]; decide), if_neg (by rw [n6]; decide), n6, m6]
/-- Eight cells written: another flow. -/
def set8 (cur : Array Value) (o : Nat) (v0 v1 v2 v3 v4 v5 v6 v7 : Value) : Array Value :=
  (((((((cur.setIfInBounds o v0).setIfInBounds (o + 1) v1).setIfInBounds (o + 2) v2).setIfInBounds (o + 3) v3).setIfInBounds (o + 4) v4).setIfInBounds (o + 5) v5).setIfInBounds (o + 6) v6).setIfInBounds (o + 7) v7
theorem set8_size (cur : Array Value) (o : Nat) (v0 v1 v2 v3 v4 v5 v6 v7 : Value) : (set8 cur o v0 v1 v2 v3 v4 v5 v6 v7).size = cur.size := by simp [set8]
theorem RowOf.set8 {cur : Array Value} {ps : List (FlD × Value)} (h : RowOf flP 8 cur ps) {k : Nat} {q : FlD × Value} {v0 v1 v2 v3 v4 v5 v6 v7 : Value} (hk : k < ps.length) (hs : k * 8 + 8 ≤ cur.size) (hq : flP q = [v0, v1, v2, v3, v4, v5, v6, v7]) :
    RowOf flP 8 (set8 cur (k * 8) v0 v1 v2 v3 v4 v5 v6 v7) (ps.set k q) := by
  intro i y hy c hc
  by_cases hik : i = k
  · subst hik
    rw [List.getElem?_set_self hk] at hy
    simp only [Option.some.injEq] at hy
    subst hy
    rw [hq]
    unfold Go.Proofs.Ytcbdeoekehkbiaa.set8
    match c, hc with
    | 0, _ => simp [Array.getElem?_setIfInBounds]; omega
    | 1, _ => simp [Array.getElem?_setIfInBounds]; omega
    | 2, _ => simp [Array.getElem?_setIfInBounds]; omega
    | 3, _ => simp [Array.getElem?_setIfInBounds]; omega
    | 4, _ => simp [Array.getElem?_setIfInBounds]; omega
    | 5, _ => simp [Array.getElem?_setIfInBounds]; omega
    | 6, _ => simp [Array.getElem?_setIfInBounds]; omega
    | 7, _ => simp [Array.getElem?_setIfInBounds]; omega
    | c + 8, hc => omega
  · rw [List.getElem?_set_ne (fun e => hik e.symm)] at hy
    unfold Go.Proofs.Ytcbdeoekehkbiaa.set8
    simp only [Array.getElem?_setIfInBounds]
    rw [if_neg (by omega), if_neg (by omega), if_neg (by omega), if_neg (by omega), if_neg (by omega), if_neg (by omega), if_neg (by omega), if_neg (by omega)]
    exact h i y hy c hc
theorem blk_set8 {w : World} {b : Nat} {cs : Array Value} {t : TypeId} (h : w.heap[b]? = some (.cells cs t (0, 0))) (o : Nat) (v0 v1 v2 v3 v4 v5 v6 v7 : Value) :
    ((((((((w.setCell ⟨b, o, none⟩ v0).setCell ⟨b, o + 1, none⟩ v1).setCell ⟨b, o + 2, none⟩ v2).setCell ⟨b, o + 3, none⟩ v3).setCell ⟨b, o + 4, none⟩ v4).setCell ⟨b, o + 5, none⟩ v5).setCell ⟨b, o + 6, none⟩ v6).setCell ⟨b, o + 7, none⟩ v7).heap[b]? = some (.cells (set8 cs o v0 v1 v2 v3 v4 v5 v6 v7) t (0, 0)) :=
  blk_set (blk_set (blk_set (blk_set (blk_set (blk_set (blk_set (blk_set h _ _) _ _) _ _) _ _) _ _) _ _) _ _) _ _
theorem chg_set8 (w : World) (b o : Nat) (v0 v1 v2 v3 v4 v5 v6 v7 : Value) : Chg (fun q => q = b) w ((((((((w.setCell ⟨b, o, none⟩ v0).setCell ⟨b, o + 1, none⟩ v1).setCell ⟨b, o + 2, none⟩ v2).setCell ⟨b, o + 3, none⟩ v3).setCell ⟨b, o + 4, none⟩ v4).setCell ⟨b, o + 5, none⟩ v5).setCell ⟨b, o + 6, none⟩ v6).setCell ⟨b, o + 7, none⟩ v7) := by
  iterate 8 (refine Chg.setCell ?_ _ _ (.inl (Eq.refl b)))
  exact Chg.refl _ _
theorem drew_heap (w : World) (b : Nat) : w.drew.heap[b]? = w.heap[b]? := rfl
end Go.Proofs.Ytcbdeoekehkbiaa
