/- The names in what is worked out; parts; the plain law of beginnings by parts. -/
import Derived.Test.YtcbdeoekehkbiaaStChk
namespace Go.Proofs.Ytcbdeoekehkbiaa
open Go.RowKit
set_option linter.unusedVariables false
set_option linter.unusedSimpArgs false

mutual
/-- The names that stand in it. -/
def nmsE : Ex → List ByteArray
  | .mk op _ nm args => (if op = 3 then [nm] else []) ++ nmsL args
def nmsL : List Ex → List ByteArray
  | [] => []
  | x :: r => nmsE x ++ nmsL r
end
theorem step_names (l : List Rf) (op : Int) (nm : ByteArray) (ago : Int) (s : ByteArray) : s ∈ (stepR l op nm ago).map (·.1) ↔ s ∈ l.map (·.1) ∨ s ∈ (if op = 3 then [nm] else []) := by
  unfold stepR
  by_cases h : op = 3
  · by_cases h2 : (l.any fun r => decide (r = (nm, ago))) = false
    · rw [if_pos ⟨h, h2⟩, if_pos h]
      simp
    · rw [if_neg (fun h' => h2 h'.2), if_pos h]
      have h3 : (l.any fun r => decide (r = (nm, ago))) = true := by simpa using h2
      obtain ⟨r, hr, e⟩ := List.any_eq_true.1 h3
      have e : r = (nm, ago) := by simpa using e
      subst e
      constructor
      · exact .inl
      · rintro (h | h)
        · exact h
        · simp only [List.mem_singleton] at h
          subst h
          exact List.mem_map.2 ⟨_, hr, rfl⟩
  · rw [if_neg (fun h' => h h'.1), if_neg h]
    simp
mutual
theorem gth_nms : ∀ (x : Ex) (l : List Rf) (ago : Int) (s : ByteArray), s ∈ (gthE l ago x).map (·.1) ↔ s ∈ l.map (·.1) ∨ s ∈ nmsE x
  | .mk op n nm args, l, ago, s => by
    simp only [gthE, nmsE]
    rw [gthL_nms args (stepR l op nm ago) (agoP op ago) s, step_names, List.mem_append, or_assoc]
theorem gthL_nms : ∀ (xs : List Ex) (l : List Rf) (ago : Int) (s : ByteArray), s ∈ (gthL l ago xs).map (·.1) ↔ s ∈ l.map (·.1) ∨ s ∈ nmsL xs
  | [], l, ago, s => by simp only [gthL, nmsL, List.not_mem_nil, or_false]
  | x :: r, l, ago, s => by
    simp only [gthL, nmsL]
    rw [gthL_nms r (gthE l ago x) ago s, gth_nms x l ago s, List.mem_append, or_assoc]
end
theorem there_iff {p : PrD} {x : Ex} : thereP p (gthE [] 0 x) = true ↔ ∀ s, s ∈ nmsE x → (findP s p.flows p.ins).2.2.2 = true := by
  unfold thereP
  rw [List.all_eq_true]
  constructor
  · intro h s hs
    obtain ⟨r, hr, rfl⟩ := List.mem_map.1 ((gth_nms x [] 0 s).2 (.inr hs))
    exact h r hr
  · intro h r hr
    rcases (gth_nms x [] 0 r.1).1 (List.mem_map.2 ⟨r, hr, rfl⟩) with h' | h'
    · simp at h'
    · exact h _ h'
theorem nms_part {l : List Ex} {x : Ex} (h : x ∈ l) : ∀ s, s ∈ nmsE x → s ∈ nmsL l := by
  induction l with
  | nil => simp at h
  | cons y r ih =>
    intro s hs
    simp only [nmsL, List.mem_append]
    rcases List.mem_cons.1 h with rfl | h
    · exact .inl hs
    · exact .inr (ih h s hs)
mutual
theorem wf_more : ∀ (d : Nat) (x : Ex), wfE d x = true → wfE (d + 1) x = true
  | 0, .mk op n nm l, h => by simp [wfE] at h
  | d + 1, .mk op n nm l, h => by
    simp only [wfE, Bool.and_eq_true] at h ⊢
    exact ⟨h.1, wfL_more d l h.2⟩
theorem wfL_more : ∀ (d : Nat) (l : List Ex), wfL d l = true → wfL (d + 1) l = true
  | _, [], _ => by simp [wfL]
  | d, x :: r, h => by
    simp only [wfL, Bool.and_eq_true] at h ⊢
    exact ⟨wf_more d x h.1, wfL_more d r h.2⟩
end
theorem wfL_mem {d : Nat} {l : List Ex} {x : Ex} (h : wfL d l = true) (hx : x ∈ l) : wfE d x = true := by
  induction l with
  | nil => simp at hx
  | cons y r ih =>
    simp only [wfL, Bool.and_eq_true] at h
    rcases List.mem_cons.1 hx with rfl | hx
    · exact h.1
    · exact ih h.2 hx
theorem nodes_mem {l : List Ex} {x : Ex} (hx : x ∈ l) : nodesE x ≤ nodesL l := by
  induction l with
  | nil => simp at hx
  | cons y r ih =>
    simp only [nodesL]
    rcases List.mem_cons.1 hx with rfl | hx
    · omega
    · have := ih hx; omega
/-- A part of what may be may be. -/
theorem ok_part {op n : Int} {nm : ByteArray} {args : List Ex} {y : Ex} (h : okE 32 200 (.mk op n nm args) = true) (hy : y ∈ args) : okE 32 200 y = true := by
  obtain ⟨h1, h2⟩ := okE_iff.1 h
  simp only [wfE, nodesE, Bool.and_eq_true] at h1 h2
  have := nodes_mem hy
  exact okE_iff.2 ⟨wf_more 31 y (wfL_mem h1.2 hy), by omega⟩
theorem ok_len {op n : Int} {nm : ByteArray} {args : List Ex} (h : okE 32 200 (.mk op n nm args) = true) : partsP op = (args.length : Int) := by
  have := (okE_iff.1 h).1
  simp only [wfE, Bool.and_eq_true, decide_eq_true_eq] at this
  exact this.1.1
/-- What is answered without an error. -/
theorem st_ok {p : PrD} {x : Ex} (h : (stP p x).2 = 0) : okE 32 200 x = true ∧ (∀ s, s ∈ nmsE x → (findP s p.flows p.ins).2.2.2 = true) ∧ stP p x = (ofE x, 0) := by
  unfold stP at h ⊢
  by_cases h1 : okE 32 200 x = false
  · rw [if_pos h1] at h; cases h
  · rw [if_neg h1] at h
    by_cases h2 : thereP p (gthE [] 0 x) = false
    · rw [if_pos h2] at h; cases h
    · rw [if_neg h1, if_neg h2]
      exact ⟨by simpa using h1, there_iff.1 (by simpa using h2), rfl⟩
theorem st_of {p : PrD} {x : Ex} (h1 : okE 32 200 x = true) (h2 : ∀ s, s ∈ nmsE x → (findP s p.flows p.ins).2.2.2 = true) : stP p x = (ofE x, 0) := by
  unfold stP
  rw [if_neg (by rw [h1]; simp), if_neg (by rw [there_iff.2 h2]; simp)]
theorem st_no {p : PrD} {x : Ex} (h : (stP p x).2 ≠ 0) : (stP p x).1 = 0 ∧ (((stP p x).2 == 1) = !okE 32 200 x) := by
  unfold stP at h ⊢
  by_cases h1 : okE 32 200 x = false
  · rw [if_pos h1, h1]; exact ⟨rfl, rfl⟩
  · have h1' : okE 32 200 x = true := by simpa using h1
    rw [if_neg h1] at h
    rw [if_neg h1, h1']
    by_cases h2 : thereP p (gthE [] 0 x) = false
    · rw [if_pos h2]; exact ⟨rfl, rfl⟩
    · rw [if_neg h2] at h; exact absurd rfl h
theorem st_part {p : PrD} {op n : Int} {nm : ByteArray} {args : List Ex} {y : Ex} (h : (stP p (.mk op n nm args)).2 = 0) (hy : y ∈ args) : stP p y = (ofE y, 0) := by
  obtain ⟨h1, h2, _⟩ := st_ok h
  exact st_of (ok_part h1 hy) (fun s hs => h2 s (by simp only [nmsE, List.mem_append]; exact .inr (nms_part hy s hs)))
theorem max_ite (a b : Int) : (if a < b then b else a) = max a b := by rw [Int.max_def]; split <;> split <;> omega
theorem maxL_snoc (l : List Int) (k : Int) : maxL (l ++ [k]) = max (maxL l) k := by simp [maxL, List.foldl_append]
theorem maxL_one {k : Int} (h : 0 ≤ k) : maxL [k] = k := by simp [maxL]; omega
def lastL (l : List Int) : Int := l.getLastD 0
theorem lastL_snoc (l : List Int) (k : Int) : lastL (l ++ [k]) = k := by simp [lastL]
def firstL (l : List Int) : Int := l.getD 0 0
theorem firstL_snoc (l : List Int) (k : Int) : firstL (l ++ [k]) = if l.length = 0 then k else firstL l := by
  cases l with
  | nil => simp [firstL]
  | cons a r => simp [firstL]
theorem of_take {l : List Ex} {i : Nat} {y : Ex} (h : l[i]? = some y) : (ofL l).take (i + 1) = (ofL l).take i ++ [ofE y] := by
  rw [List.take_add_one, ofL_get, h]; rfl
end Go.Proofs.Ytcbdeoekehkbiaa
