/- Programs with other bodies: the plain law of beginnings. -/
import Derived.Test.YtcbdeoekehkbiaaStNms
import Derived.Test.YtcbdeoekehkbiaaStSml
namespace Go.Proofs.Ytcbdeoekehkbiaa
open Go.RowKit
set_option linter.unusedVariables false
set_option linter.unusedSimpArgs false

def headF (x : FlD) : ByteArray × Int × Int × Int := (x.name, x.ty, x.st, x.df)
/-- With other bodies, that may be and ask for what is there, a program whose names are fine stays so. -/
theorem names_bodies {p q : PrD} (h : namesP p = 0) (h1 : q.st = p.st) (h2 : q.ins = p.ins) (h3 : q.flows.map headF = p.flows.map headF) (h4 : q.outs = p.outs) (h5 : ∀ x, x ∈ q.flows → okE 32 200 x.body = true ∧ ∀ s, s ∈ namesE x.body → s ∈ namesT p) : namesP q = 0 := by
  have hp : progP p = true ∧ okN p := by
    cases hp : progP p
    · rw [names_1 hp] at h; cases h
    · refine ⟨rfl, Classical.byContradiction fun ho => ?_⟩
      rw [names_6 hp ho] at h
      cases h
  obtain ⟨k1, k2⟩ := hp
  obtain ⟨⟨a, b, c, d, e⟩, f, g, i⟩ := progP_parts.1 k1
  have hl : q.flows.length = p.flows.length := by have := congrArg List.length h3; simpa using this
  have hn : q.flows.map (·.name) = p.flows.map (·.name) := by
    have := congrArg (List.map (·.1)) h3
    simpa [List.map_map, Function.comp_def, headF] using this
  have ht : namesT q = namesT p := by rw [namesT_eq, namesT_eq, h2, hn]
  refine names_0 (progP_parts.2 ⟨⟨by rw [h1]; exact a, by rw [h1]; exact b, by rw [h2]; exact c, by rw [hl]; exact d, by rw [h4, h2, hl]; exact e⟩, by rw [h1, h2]; exact f, fun x hx => ?_, by rw [h4]; exact i⟩) ⟨by rw [ht]; exact k2.1, fun s hs => ?_, by rw [h4]; exact k2.2.2⟩
  · obtain ⟨j, hj, rfl⟩ := List.getElem_of_mem hx
    have hj' : j < p.flows.length := by omega
    have he : headF q.flows[j] = headF p.flows[j] := by
      have := congrArg (fun l => l[j]?) h3
      simpa [hj, hj'] using this
    have hb := g _ (List.getElem_mem hj')
    simp only [headF, Prod.mk.injEq] at he
    obtain ⟨e1, e2, e3, e4⟩ := he
    simp only [flBad, Bool.or_eq_false_iff] at hb ⊢
    rw [e1, e2, e3, e4, h1]
    exact ⟨hb.1, by rw [(h5 _ hx).1]; rfl⟩
  · rw [ht]
    simp only [askedL, List.mem_append] at hs
    rcases hs with hs | hs
    · have : ∀ (l : List FlD), (∀ x, x ∈ l → ∀ s, s ∈ namesE x.body → s ∈ namesT p) → s ∈ namesF l → s ∈ namesT p := by
        intro l
        induction l with
        | nil => intro _ h; simp [namesF] at h
        | cons y r ih =>
          intro hl h
          simp only [namesF, List.mem_append] at h
          rcases h with h | h
          · exact hl y (by simp) s h
          · exact ih (fun x hx => hl x (List.mem_cons_of_mem _ hx)) h
      exact this _ (fun x hx => (h5 x hx).2) hs
    · rw [h4] at hs
      exact k2.2.1 s (List.mem_append.2 (.inr hs))
def begB (s : ByteArray) : Ex := opE 18 [noughtE, opE 19 [nmE s]]
def preB (s : ByteArray) : Ex := opE 19 [nmE s]
theorem pa19 : partsP 19 = 1 := by decide +kernel
theorem pa18 : partsP 18 = 2 := by decide +kernel
theorem pa1 : partsP 1 = 0 := by decide +kernel
theorem pa3 : partsP 3 = 0 := by decide +kernel
theorem ok_begB {s : ByteArray} (h : nameP s = true) : okE 32 200 (begB s) = true := by
  simp [okE, begB, opE, noughtE, nmE, wfE, wfL, nodesE, nodesL, headP, pa19, pa18, pa1, pa3, h, sNo, ByteArray.toList_eq]
theorem ok_preB {s : ByteArray} (h : nameP s = true) : okE 32 200 (preB s) = true := by
  simp [okE, preB, opE, nmE, wfE, wfL, nodesE, nodesL, headP, pa19, pa18, pa1, pa3, h, sNo, ByteArray.toList_eq]
theorem nms_begB (s : ByteArray) : namesE (begB s) = [s] := by simp [namesE, begB, opE, noughtE, nmE, gthE, gthL, stepR]
theorem nms_preB (s : ByteArray) : namesE (preB s) = [s] := by simp [namesE, preB, opE, nmE, gthE, gthL, stepR]
theorem of_begB (s : ByteArray) : ofE (begB s) = 0 := by simp [begB, opE, noughtE, nmE, ofE, ofL, ruleP, maxL, thenP]
theorem of_preB (s : ByteArray) : ofE (preB s) = 1 := by simp [preB, opE, nmE, ofE, ofL, ruleP, maxL]
theorem st_begB (q : PrD) (s : ByteArray) : (stP q (begB s)).1 ≤ 0 := by
  unfold stP
  split
  · simp
  · split
    · simp
    · simp [of_begB]
def begF (x : FlD) : FlD := ⟨x.name, x.ty, x.st, x.df, begB x.name⟩
def begP (p : PrD) : PrD := ⟨p.st, p.ins, p.flows.map begF, p.outs⟩
def lackP (p : PrD) (k : Nat) (x y : FlD) : PrD := ⟨p.st, p.ins, (p.flows.map begF).set k ⟨x.name, x.ty, x.st, x.df, preB y.name⟩, p.outs⟩
theorem name_of {p : PrD} (h : namesP p = 0) {x : FlD} (hx : x ∈ p.flows) : nameP x.name = true ∧ x.name ∈ namesT p := by
  have hp : progP p = true := by
    cases hp : progP p
    · rw [names_1 hp] at h; cases h
    · rfl
  have := (progP_parts.1 hp).2.2.1 x hx
  simp only [flBad, mayP, Bool.or_eq_false_iff, Bool.not_eq_false', Bool.and_eq_true] at this
  exact ⟨this.1.1.1.1.1, by rw [namesT_eq]; exact List.mem_append.2 (.inr (List.mem_map.2 ⟨x, hx, rfl⟩))⟩
theorem beg_names {p : PrD} (h : namesP p = 0) : namesP (begP p) = 0 := by
  refine names_bodies h rfl rfl (by simp [begP, List.map_map, Function.comp_def, begF, headF]) rfl (fun x hx => ?_)
  simp only [begP, List.mem_map] at hx
  obtain ⟨y, hy, rfl⟩ := hx
  obtain ⟨k1, k2⟩ := name_of h hy
  exact ⟨ok_begB k1, fun s hs => by simp only [begF, nms_begB, List.mem_singleton] at hs; subst hs; exact k2⟩
theorem beg_starts {p : PrD} (h : namesP p = 0) : startsP (begP p) = 0 := by
  unfold startsP
  rw [if_pos (beg_names h), if_pos]
  unfold begunL
  rw [List.all_eq_true]
  intro x hx
  simp only [begP, List.mem_map] at hx
  obtain ⟨y, hy, rfl⟩ := hx
  simp only [decide_eq_true_eq]
  exact st_begB _ _
theorem lack_names {p : PrD} (h : namesP p = 0) {k : Nat} {x y : FlD} (hx : p.flows[k]? = some x) (hy : y ∈ p.flows) : namesP (lackP p k x y) = 0 := by
  refine names_bodies h rfl rfl ?_ rfl (fun z hz => ?_)
  · simp only [lackP, List.map_set, List.map_map]
    apply List.ext_getElem?
    intro j
    by_cases hj : k = j
    · subst hj
      have hl := (List.getElem?_eq_some_iff.1 hx).1
      rw [List.getElem?_set_self (by simpa using hl), List.getElem?_map, hx]
      rfl
    · rw [List.getElem?_set_ne hj, List.getElem?_map, List.getElem?_map]
      rfl
  · simp only [lackP] at hz
    rcases List.mem_or_eq_of_mem_set hz with hz | rfl
    · simp only [List.mem_map] at hz
      obtain ⟨u, hu, rfl⟩ := hz
      obtain ⟨k1, k2⟩ := name_of h hu
      exact ⟨ok_begB k1, fun s hs => by simp only [begF, nms_begB, List.mem_singleton] at hs; subst hs; exact k2⟩
    · obtain ⟨k1, k2⟩ := name_of h hy
      exact ⟨ok_preB k1, fun s hs => by simp only [nms_preB, List.mem_singleton] at hs; subst hs; exact k2⟩
theorem lack_starts {p : PrD} (h : namesP p = 0) {k : Nat} {x y : FlD} (hx : p.flows[k]? = some x) (hy : y ∈ p.flows) : startsP (lackP p k x y) = 9 := by
  unfold startsP
  rw [if_pos (lack_names h hx hy), if_neg]
  unfold begunL
  rw [List.all_eq_true]
  intro hall
  have hl := (List.getElem?_eq_some_iff.1 hx).1
  have := hall ⟨x.name, x.ty, x.st, x.df, preB y.name⟩ (by
    refine List.mem_of_getElem? (i := k) ?_
    simp only [lackP]
    rw [List.getElem?_set_self (by simpa using hl)])
  obtain ⟨k1, k2⟩ := name_of h hy
  have hst : stP (lackP p k x y) (preB y.name) = (ofE (preB y.name), 0) := by
    refine st_of (ok_preB k1) (fun s hs => ?_)
    have hs2 : s = y.name := by simpa [preB, opE, nmE, nmsE, nmsL] using hs
    subst hs2
    rw [find_there, namesT_eq]
    rw [namesT_eq] at k2
    simp only [lackP]
    rcases List.mem_append.1 k2 with h' | h'
    · exact List.mem_append.2 (.inl h')
    · refine List.mem_append.2 (.inr ?_)
      obtain ⟨z, hz, e⟩ := List.mem_map.1 h'
      obtain ⟨j, hj, rfl⟩ := List.getElem_of_mem hz
      by_cases hjk : j = k
      · subst hjk
        refine List.mem_map.2 ⟨⟨x.name, x.ty, x.st, x.df, preB y.name⟩, List.mem_of_getElem? (i := j) (by rw [List.getElem?_set_self (by simpa using hl)]), ?_⟩
        rw [List.getElem?_eq_getElem hj] at hx
        simp only [Option.some.injEq] at hx
        rw [← e, hx]
      · refine List.mem_map.2 ⟨begF p.flows[j], List.mem_of_getElem? (i := j) (by rw [List.getElem?_set_ne (fun e => hjk e.symm), List.getElem?_map, List.getElem?_eq_getElem hj]; rfl), e⟩
  simp only [hst, of_preB, decide_eq_true_eq] at this
  omega
end Go.Proofs.Ytcbdeoekehkbiaa
