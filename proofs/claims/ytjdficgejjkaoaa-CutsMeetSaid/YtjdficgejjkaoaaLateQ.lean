/- Plain laws of lateness: one flow more behind all others; ages; none is later than it must be. -/
import Derived.Test.YtjdficgejjkaoaaLateP
import Derived.Test.YtjdficgejjkaoaaRefNChk
namespace Go.Proofs.Ytjdficgejjkaoaa
open Go.RowKit
set_option linter.unusedVariables false
set_option linter.unusedSimpArgs false

/-- A flow more, behind all others. -/
def moreP (p : PrD) (g : FlD) : PrD := ⟨p.st, p.ins, p.flows ++ [g], p.outs⟩
theorem findFl_app {s : ByteArray} {g : FlD} : ∀ {l : List FlD} {i : Nat}, (findFl s i l).2.2.2 = true → findFl s i (l ++ [g]) = findFl s i l
  | [], i, h => by simp [findFl] at h
  | x :: r, i, h => by
    simp only [findFl, List.cons_append] at h ⊢
    by_cases hne : x.name = s
    · rw [if_pos hne, if_pos hne]
    · rw [if_neg hne] at h
      rw [if_neg hne, if_neg hne]
      exact findFl_app h
theorem findP_app {s : ByteArray} {fl : List FlD} {g : FlD} : ∀ {l : List InD}, (findP s fl l).2.2.2 = true → findP s (fl ++ [g]) l = findP s fl l
  | [], h => by
    unfold findP at h ⊢
    exact findFl_app h
  | x :: r, h => by
    unfold findP at h ⊢
    split
    · rfl
    · rename_i hne
      rw [if_neg hne] at h
      exact findP_app h
theorem asksL_app (p : PrD) (g : FlD) : ∀ (l : List FlD) (i : Nat), asksL p i (l ++ [g]) = asksL p i l ++ asksOf p (i + l.length) g
  | [], i => by simp [asksL]
  | x :: r, i => by
    rw [List.cons_append, asksL, asksL_app p g r (i + 1), asksL, List.append_assoc, List.length_cons, show i + 1 + r.length = i + (r.length + 1) from by omega]
theorem asksL_more {p : PrD} {g : FlD} : ∀ {l : List FlD} {i : Nat}, (∀ f, f ∈ l → ∀ r, r ∈ gthE [] 0 f.body → (findP r.1 p.flows p.ins).2.2.2 = true) → asksL (moreP p g) i l = asksL p i l
  | [], i, _ => by simp [asksL]
  | x :: r, i, h => by
    rw [asksL, asksL, asksL_more (fun f hf => h f (List.mem_cons_of_mem _ hf))]
    congr 1
    unfold asksOf
    refine List.map_congr_left fun a ha => ?_
    have := h x List.mem_cons_self a ha
    unfold askOf
    rw [show (moreP p g).flows = p.flows ++ [g] from rfl, show (moreP p g).ins = p.ins from rfl, findP_app this]
theorem asked_there {p : PrD} (h : okN p) {f : FlD} (hf : f ∈ p.flows) {r : Rf} (hr : r ∈ gthE [] 0 f.body) : (findP r.1 p.flows p.ins).2.2.2 = true := by
  refine find_there.2 (h.2.1 _ ?_)
  unfold askedL
  rw [List.mem_append]
  exact .inl (namesF_mem hf (by unfold namesE; exact List.mem_map_of_mem hr))
theorem asksP_more {p : PrD} (h : okN p) (g : FlD) : asksP (moreP p g) = asksP p ++ asksOf (moreP p g) p.flows.length g := by
  unfold asksP
  rw [show (moreP p g).flows = p.flows ++ [g] from rfl, asksL_app, Nat.zero_add, asksL_more (fun f hf r hr => asked_there h hf hr)]
theorem getD_app {l : List Int} {z : Int} {i : Nat} : (l ++ [z]).getD i 0 = if i = l.length then z else l.getD i 0 := by
  rw [List.getD_eq_getElem?_getD, List.getD_eq_getElem?_getD, List.getElem?_append]
  split
  · rw [if_neg (by omega)]
  · split
    · subst_vars; simp
    · rw [List.getElem?_eq_none (by simp; omega), List.getElem?_eq_none (by omega)]
theorem leastA_app {l : List Int} {z : Int} {x : Ask} (h : x.src < l.length) : leastA (l ++ [z]) x = leastA l x := by
  unfold leastA
  split
  · rfl
  · rw [getD_app, if_neg (by omega)]
/-- What fits with a flow more that asks for just one. -/
theorem fits_more {p : PrD} (hp : namesP p = 0) {g : FlD} {x : Ask} (hx : asksOf (moreP p g) p.flows.length g = [x]) (hs : x.src < p.flows.length) {m : List Int} {z : Int} :
    Fits (moreP p g) (m ++ [z]) ↔ Fits p m ∧ 0 ≤ z ∧ z ≤ 1000 ∧ leastA m x ≤ z := by
  have hf : x.flow = p.flows.length := by
    have : x ∈ asksOf (moreP p g) p.flows.length g := by rw [hx]; exact List.mem_singleton.2 rfl
    unfold asksOf at this
    obtain ⟨r, _, rfl⟩ := List.mem_map.1 this
    rfl
  have hP := names_prog hp
  unfold Fits
  rw [asksP_more (names_okN hp), hx, show (moreP p g).flows = p.flows ++ [g] from rfl]
  constructor
  · rintro ⟨h1, h2, h3⟩
    have hl : m.length = p.flows.length := by simpa using h1
    refine ⟨⟨hl, fun n hn => h2 n (List.mem_append_left _ hn), fun y hy => ?_⟩, (h2 z (by simp)).1, (h2 z (by simp)).2, ?_⟩
    · have ho := ask_ok hP hy
      have h1 := ho.flow
      have h4 := ho.src1
      have := h3 y (List.mem_append_left _ hy)
      rw [leastA_app (by omega), getD_app, if_neg (by omega)] at this
      exact this
    · have := h3 x (by simp)
      rw [leastA_app (by omega), getD_app, if_pos (by omega)] at this
      exact this
  · rintro ⟨⟨hl, h2, h3⟩, z0, z1, hz⟩
    refine ⟨by simp [hl], fun n hn => ?_, fun y hy => ?_⟩
    · rcases List.mem_append.1 hn with hn | hn
      · exact h2 n hn
      · rw [List.mem_singleton.1 hn]; exact ⟨z0, z1⟩
    · rcases List.mem_append.1 hy with hy | hy
      · have ho := ask_ok hP hy
        have h1 := ho.flow
        have h4 := ho.src1
        rw [leastA_app (by omega), getD_app, if_neg (by omega)]
        exact h3 y hy
      · rw [List.mem_singleton.1 hy, leastA_app (by omega), getD_app, if_pos (by omega)]
        exact hz
theorem fits_form {p : PrD} {g : FlD} {m : List Int} (h : Fits (moreP p g) m) : ∃ m' z, m = m' ++ [z] ∧ m'.length = p.flows.length := by
  have hl : m.length = p.flows.length + 1 := by have := h.1; simpa [moreP] using this
  refine ⟨m.dropLast, m.getLast (by intro e; rw [e] at hl; simp at hl), (List.dropLast_concat_getLast _).symm, by simp [hl]⟩
/-- A flow more is as late as what it asks for makes it; the others are as they were. -/
theorem least_more {p : PrD} (hp : namesP p = 0) {g : FlD} {x : Ask} (hx : asksOf (moreP p g) p.flows.length g = [x]) (hs : x.src < p.flows.length) {l : List Int} (hl : Least p l) (h : leastA l x ≤ 1000) :
    Least (moreP p g) (l ++ [max 0 (leastA l x)]) := by
  refine ⟨(fits_more hp hx hs).2 ⟨hl.1, by omega, by omega, by omega⟩, fun m hm i => ?_⟩
  obtain ⟨m', z, rfl, hm'⟩ := fits_form hm
  obtain ⟨k1, k2, k3, k4⟩ := (fits_more hp hx hs).1 hm
  have h1 := hl.2 m' k1
  have h2 := least_mono h1 x
  have hll := hl.1.1
  rw [getD_app, getD_app]
  split
  · rw [if_pos (by omega)]; omega
  · rw [if_neg (by omega)]; exact h1 i
theorem none_more {p : PrD} (hp : namesP p = 0) {g : FlD} {x : Ask} (hx : asksOf (moreP p g) p.flows.length g = [x]) (hs : x.src < p.flows.length) {l : List Int} (hl : Least p l) (h : 1000 < leastA l x) : ∀ m, ¬ Fits (moreP p g) m := by
  intro m hm
  obtain ⟨m', z, rfl, hm'⟩ := fits_form hm
  obtain ⟨k1, k2, k3, k4⟩ := (fits_more hp hx hs).1 hm
  have h2 := least_mono (hl.2 m' k1) x
  omega
/-- The age of what a flow asks for. -/
theorem ageP_of {p : PrD} {l : List Int} (h : lateChk p l = true) {i : Nat} {f : FlD} {r : Rf} (hi : p.flows[i]? = some f) (hr : r ∈ gthE [] 0 f.body) : ageP p l i r = (l.getD i 0 - leastA l (askOf p i f r), 0) := by
  unfold ageP
  rw [h, if_neg (by simp)]
  have hx : askOf p i f r ∈ asksP p := asksP_mem.2 ⟨i, f, r, hi, hr, rfl⟩
  cases e : (asksP p).find? (fun x => decide ((x.flow : Int) = (i : Int)) && decide (x.ref = r)) with
  | none =>
    have := List.find?_eq_none.1 e _ hx
    simp [askOf] at this
  | some x =>
    have h1 := List.find?_some e
    have h2 := List.mem_of_find?_eq_some e
    obtain ⟨k, f', r', hk, _, rfl⟩ := asksP_mem.1 h2
    simp only [askOf, Bool.and_eq_true] at h1
    obtain ⟨h1, h3⟩ := h1
    have h1 := of_decide_eq_true h1
    obtain rfl := of_decide_eq_true h3
    obtain rfl : k = i := by omega
    rw [hi] at hk
    simp only [Option.some.injEq] at hk
    subst hk
    rfl
theorem lateChk_iff {p : PrD} {l : List Int} : lateChk p l = true ↔ namesP p = 0 ∧ Fits p l := by
  unfold lateChk
  rw [Bool.and_eq_true, decide_eq_true_eq, fitsB_iff]
theorem age_ge {p : PrD} {l : List Int} (h : lateChk p l = true) {i : Nat} {f : FlD} {r : Rf} (hi : p.flows[i]? = some f) (hr : r ∈ gthE [] 0 f.body) : 0 ≤ l.getD i 0 - leastA l (askOf p i f r) := by
  have := (lateChk_iff.1 h).2.2.2 _ (asksP_mem.2 ⟨i, f, r, hi, hr, rfl⟩)
  have e : (askOf p i f r).flow = i := rfl
  rw [e] at this
  omega
/-- None may be less late, with all others as they are, or later. -/
theorem less_not {p : PrD} {l o : List Int} (h : Least p l) {i : Nat} (hi : i < l.length) (ho : o.getD i 0 = l.getD i 0 - 1) : lateChk p o = false := by
  cases e : lateChk p o
  · rfl
  · have := h.2 o (lateChk_iff.1 e).2 i
    omega
end Go.Proofs.Ytjdficgejjkaoaa
