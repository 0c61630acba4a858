/- A program without its outs, without a flow, with one twice: the plain law. -/
import Derived.Test.YtgdlocjocjamgaaFoundW
namespace Go.Proofs.Ytgdlocjocjamgaa
open Go.RowKit
set_option linter.unusedVariables false
set_option linter.unusedSimpArgs false

theorem namesF_iff {l : List FlD} {s : ByteArray} : s ∈ namesF l ↔ ∃ x, x ∈ l ∧ s ∈ namesE x.body := by
  induction l with
  | nil => simp [namesF]
  | cons y r ih =>
    simp only [namesF, List.mem_append, ih, List.mem_cons]
    constructor
    · rintro (h | ⟨x, hx, h⟩)
      · exact ⟨y, .inl rfl, h⟩
      · exact ⟨x, .inr hx, h⟩
    · rintro ⟨x, rfl | hx, h⟩
      · exact .inl h
      · exact .inr ⟨x, hx, h⟩
def lessO (p : PrD) : PrD := ⟨p.st, p.ins, p.flows, []⟩
def lessF (p : PrD) (k : Nat) : PrD := ⟨p.st, p.ins, p.flows.eraseIdx k, []⟩
def twiceF (p : PrD) (x : FlD) : PrD := ⟨p.st, p.ins, p.flows ++ [x], p.outs⟩
theorem names_zero_iff {p : PrD} : namesP p = 0 ↔ progP p = true ∧ okN p := by
  constructor
  · exact okN_of
  · rintro ⟨h1, h2⟩
    exact names_0 h1 h2
theorem lessO_ok {p : PrD} (h : namesP p = 0) : namesP (lessO p) = 0 := by
  obtain ⟨h1, h2⟩ := okN_of h
  obtain ⟨⟨a, b, c, d, e⟩, f, g, i⟩ := progP_parts.1 h1
  refine names_0 (progP_parts.2 ⟨⟨a, b, c, d, Nat.zero_le _⟩, f, g, fun s hs => by simp [lessO] at hs⟩) ⟨?_, ?_, by simp [lessO]⟩
  · rw [namesT_eq]; have := h2.1; rw [namesT_eq] at this; exact this
  · intro s hs
    rw [namesT_eq]
    have := h2.2.1 s (by
      simp only [askedL, lessO, List.append_nil] at hs
      exact List.mem_append.2 (.inl hs))
    rw [namesT_eq] at this
    exact this
/-- Does one of the other flows ask for a name? -/
def asksBut (p : PrD) (k : Nat) (s : ByteArray) : Bool := (p.flows.eraseIdx k).any fun x => (namesE x.body).any fun r => decide (r = s)
theorem asksBut_iff {p : PrD} {k : Nat} {s : ByteArray} : asksBut p k s = true ↔ s ∈ namesF (p.flows.eraseIdx k) := by
  unfold asksBut
  rw [namesF_iff, List.any_eq_true]
  constructor
  · rintro ⟨x, hx, h⟩
    rw [List.any_eq_true] at h
    obtain ⟨r, hr, e⟩ := h
    have e : r = s := by simpa using e
    subst e
    exact ⟨x, hx, hr⟩
  · rintro ⟨x, hx, h⟩
    exact ⟨x, hx, List.any_eq_true.2 ⟨s, h, by simp⟩⟩
/-- Does one of these ask for a name? -/
def askL (l : List FlD) (s : ByteArray) : Bool := l.any fun x => (namesE x.body).any fun r => decide (r = s)
theorem askL_but (p : PrD) (k : Nat) (s : ByteArray) : askL (p.flows.eraseIdx k) s = asksBut p k s := rfl
theorem askL_snoc (l : List FlD) (x : FlD) (s : ByteArray) : askL (l ++ [x]) s = (askL l s || (gthE [] 0 x.body).any fun r => decide (r.1 = s)) := by
  unfold askL namesE
  rw [List.any_append]
  simp only [List.any_cons, List.any_nil, Bool.or_false, List.any_map, Function.comp_def]
theorem erase_same {l : List FlD} {k i : Nat} (h : i = k) : (l.take (i + 1)).eraseIdx k = (l.take i).eraseIdx k := by
  subst h
  apply List.ext_getElem?
  intro j
  rw [List.getElem?_eraseIdx, List.getElem?_eraseIdx, List.getElem?_take, List.getElem?_take, List.getElem?_take, List.getElem?_take]
  by_cases hj : j < i
  · rw [if_pos hj, if_pos hj, if_pos hj, if_pos (by omega)]
  · rw [if_neg hj, if_neg hj, if_neg (by omega), if_neg (by omega)]
theorem erase_more {l : List FlD} {k i : Nat} {x : FlD} (hx : l[i]? = some x) (h : i ≠ k) : (l.take (i + 1)).eraseIdx k = (l.take i).eraseIdx k ++ [x] := by
  have hi := (List.getElem?_eq_some_iff.1 hx).1
  have e : l.take (i + 1) = l.take i ++ [x] := by rw [List.take_add_one, hx]; rfl
  rw [e]
  by_cases hk : k < i
  · rw [List.eraseIdx_append_of_lt_length (by rw [List.length_take]; omega)]
  · rw [List.eraseIdx_of_length_le (by rw [List.length_append, List.length_take]; simp; omega), List.eraseIdx_of_length_le (by rw [List.length_take]; omega)]
theorem mem_erase {α : Type} {l : List α} {k : Nat} {y : α} (h : y ∈ l.eraseIdx k) : y ∈ l := (List.eraseIdx_sublist l k).subset h
theorem perm_erase {α : Type} : ∀ {l : List α} {k : Nat} {x : α}, l[k]? = some x → l.Perm (x :: l.eraseIdx k)
  | y :: r, 0, x, h => by
    simp only [List.getElem?_cons_zero, Option.some.injEq] at h
    subst h
    exact List.Perm.refl _
  | y :: r, k + 1, x, h => by
    have := perm_erase (l := r) (k := k) (by simpa using h)
    simp only [List.eraseIdx_cons_succ]
    exact (List.Perm.cons y this).trans (List.Perm.swap x y _)
theorem lessF_ok {p : PrD} {k : Nat} {x : FlD} (h : namesP p = 0) (hx : p.flows[k]? = some x) : namesP (lessF p k) = 0 ↔ asksBut p k x.name = false := by
  obtain ⟨h1, h2⟩ := okN_of h
  obtain ⟨⟨a, b, c, d, e⟩, f, g, i⟩ := progP_parts.1 h1
  have hp := perm_erase hx
  have hn := h2.1
  rw [namesT_eq] at hn
  have hpm : (p.ins.map (·.name) ++ p.flows.map (·.name)).Perm (x.name :: (p.ins.map (·.name) ++ (p.flows.eraseIdx k).map (·.name))) :=
    (List.Perm.append_left _ (hp.map (·.name))).trans (by rw [List.map_cons]; exact List.perm_middle)
  rw [hpm.nodup_iff, List.nodup_cons] at hn
  have hle : (p.flows.eraseIdx k).length ≤ p.flows.length := List.length_eraseIdx_le _ _
  have hpr : progP (lessF p k) = true := progP_parts.2 ⟨⟨a, b, c, by simp only [lessF]; omega, Nat.zero_le _⟩, f, fun y hy => g y (mem_erase hy), fun s hs => by simp [lessF] at hs⟩
  rw [names_zero_iff]
  constructor
  · rintro ⟨_, hok⟩
    by_cases hq : asksBut p k x.name = true
    · have := hok.2.1 x.name (by simp only [askedL, lessF, List.append_nil]; exact asksBut_iff.1 hq)
      rw [namesT_eq] at this
      exact absurd this hn.1
    · simpa using hq
  · intro hq
    refine ⟨hpr, by rw [namesT_eq]; exact hn.2, fun s hs => ?_, by simp [lessF]⟩
    simp only [askedL, lessF, List.append_nil] at hs
    rw [namesT_eq]
    obtain ⟨y, hy, hys⟩ := namesF_iff.1 hs
    have hall := h2.2.1 s (List.mem_append.2 (.inl (namesF_iff.2 ⟨y, mem_erase hy, hys⟩)))
    rw [namesT_eq, hpm.mem_iff, List.mem_cons] at hall
    rcases hall with rfl | hall
    · rw [asksBut_iff.2 hs] at hq; cases hq
    · exact hall
theorem twiceF_no {p : PrD} {k : Nat} {x : FlD} (h : namesP p = 0) (hx : p.flows[k]? = some x) : namesP (twiceF p x) = 6 ∨ namesP (twiceF p x) = 1 ∧ 128 < (twiceF p x).flows.length := by
  obtain ⟨h1, h2⟩ := okN_of h
  obtain ⟨⟨a, b, c, d, e⟩, f, g, i⟩ := progP_parts.1 h1
  have hxm := List.mem_of_getElem? hx
  by_cases hl : p.flows.length + 1 ≤ 128
  · refine .inl (names_6 (progP_parts.2 ⟨⟨a, b, c, by simp [twiceF]; omega, by simp [twiceF]; omega⟩, f, fun y hy => ?_, i⟩) (fun ho => ?_))
    · simp only [twiceF, List.mem_append, List.mem_singleton] at hy
      rcases hy with hy | rfl
      · exact g y hy
      · exact g _ hxm
    · have := ho.1
      rw [namesT_eq] at this
      simp only [twiceF, List.map_append, List.map_cons, List.map_nil] at this
      rw [← List.append_assoc, nodup_snoc] at this
      exact this.2 (List.mem_append.2 (.inr (List.mem_map.2 ⟨x, hxm, rfl⟩)))
  · refine .inr ⟨names_1 ?_, by simp [twiceF]; omega⟩
    cases hp : progP (twiceF p x)
    · rfl
    · have := (progP_parts.1 hp).1.2.2.2.1
      simp [twiceF] at this
      omega
end Go.Proofs.Ytgdlocjocjamgaa
