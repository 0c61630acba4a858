/- A part exchanged for a number: the plain law. -/
import Derived.Test.YtcbdeoekehkbiaaStNms
import Derived.Test.YtcbdeoekehkbiaaStSml
namespace Go.Proofs.Ytcbdeoekehkbiaa
open Go.RowKit
set_option linter.unusedVariables false
set_option linter.unusedSimpArgs false

/-- With a number in the place of a part. -/
def chgE : Nat → Ex → Nat → Ex
  | 0, _, _ => noughtE
  | f + 1, .mk op n nm args, way => if args.length = 0 ∨ way = 0 then noughtE else .mk op n nm (args.set (way % args.length) (chgE f (args.getD (way % args.length) noughtE) (way / 2)))
theorem nodes_set : ∀ {l : List Ex} {k : Nat} {y : Ex}, (∀ x, l[k]? = some x → nodesE y ≤ nodesE x) → nodesL (l.set k y) ≤ nodesL l
  | [], _, _, _ => by simp
  | x :: r, 0, y, h => by
    simp only [List.set_cons_zero, nodesL]
    have := h x rfl
    omega
  | x :: r, k + 1, y, h => by
    simp only [List.set_cons_succ, nodesL]
    have := nodes_set (l := r) (k := k) (y := y) (fun z hz => h z (by simpa using hz))
    omega
theorem wfL_set : ∀ {d : Nat} {l : List Ex} {k : Nat} {y : Ex}, wfL d l = true → wfE d y = true → wfL d (l.set k y) = true
  | _, [], _, _, h, _ => by simpa using h
  | d, x :: r, 0, y, h, hy => by
    simp only [wfL, Bool.and_eq_true] at h
    simp only [List.set_cons_zero, wfL, Bool.and_eq_true]
    exact ⟨hy, h.2⟩
  | d, x :: r, k + 1, y, h, hy => by
    simp only [wfL, Bool.and_eq_true] at h
    simp only [List.set_cons_succ, wfL, Bool.and_eq_true]
    exact ⟨h.1, wfL_set h.2 hy⟩
theorem nms_set {l : List Ex} {k : Nat} {y : Ex} {s : ByteArray} (hs : s ∈ nmsL (l.set k y)) : s ∈ nmsL l ∨ s ∈ nmsE y := by
  induction l generalizing k with
  | nil => simp [nmsL] at hs
  | cons x r ih =>
    cases k with
    | zero =>
      simp only [List.set_cons_zero, nmsL, List.mem_append] at hs
      rcases hs with h | h
      · exact .inr h
      · exact .inl (by simp only [nmsL, List.mem_append]; exact .inr h)
    | succ k =>
      simp only [List.set_cons_succ, nmsL, List.mem_append] at hs
      rcases hs with h | h
      · exact .inl (by simp only [nmsL, List.mem_append]; exact .inl h)
      · rcases ih h with h | h
        · exact .inl (by simp only [nmsL, List.mem_append]; exact .inr h)
        · exact .inr h
theorem wf_nought (d : Nat) : wfE (d + 1) noughtE = true := by simp [wfE, noughtE, partsP, headP, wfL, sNo, ByteArray.toList_eq]
theorem wf_pos {d : Nat} {x : Ex} (h : wfE d x = true) : ∃ e, d = e + 1 := by
  cases d with
  | zero => rw [wfE_zero rfl] at h; cases h
  | succ d => exact ⟨d, rfl⟩
theorem nodes_pos (x : Ex) : 1 ≤ nodesE x := by cases x; simp [nodesE]
theorem part_of {args : List Ex} {way : Nat} (h : ¬ (args.length = 0 ∨ way = 0)) : ∃ y, args[way % args.length]? = some y ∧ y ∈ args ∧ args.getD (way % args.length) noughtE = y := by
  have hl : way % args.length < args.length := Nat.mod_lt _ (by omega)
  exact ⟨_, List.getElem?_eq_getElem hl, List.getElem_mem hl, by simp [List.getD, hl]⟩
/-- What may be stays so, gets no greater, and asks for no more. -/
theorem chg_fine : ∀ (f : Nat) (x : Ex) (way d : Nat), wfE d x = true → wfE d (chgE f x way) = true ∧ nodesE (chgE f x way) ≤ nodesE x ∧ ∀ s, s ∈ nmsE (chgE f x way) → s ∈ nmsE x
  | 0, x, way, d, h => by
    obtain ⟨e, rfl⟩ := wf_pos h
    exact ⟨wf_nought e, nodes_pos x, fun s hs => by simp [chgE, noughtE, nmsE, nmsL] at hs⟩
  | f + 1, .mk op n nm args, way, d, h => by
    obtain ⟨e, rfl⟩ := wf_pos h
    unfold chgE
    by_cases hz : args.length = 0 ∨ way = 0
    · rw [if_pos hz]
      exact ⟨wf_nought e, nodes_pos _, fun s hs => by simp [noughtE, nmsE, nmsL] at hs⟩
    · rw [if_neg hz]
      obtain ⟨y, hy, hm, hg⟩ := part_of hz
      rw [hg]
      simp only [wfE, Bool.and_eq_true, decide_eq_true_eq] at h
      obtain ⟨k1, k2, k3⟩ := chg_fine f y (way / 2) e (wfL_mem h.2 hm)
      refine ⟨?_, ?_, fun s hs => ?_⟩
      · simp only [wfE, Bool.and_eq_true, decide_eq_true_eq, List.length_set]
        exact ⟨h.1, wfL_set h.2 k1⟩
      · simp only [nodesE]
        have := nodes_set (l := args) (k := way % args.length) (y := chgE f y (way / 2)) (fun x hx => by rw [hy] at hx; simp only [Option.some.injEq] at hx; rw [← hx]; exact k2)
        omega
      · simp only [nmsE, List.mem_append] at hs ⊢
        rcases hs with hs | hs
        · exact .inl hs
        · rcases nms_set hs with hs | hs
          · exact .inr hs
          · exact .inr (nms_part hm s (k3 s hs))
/-- Lists, each element of the one at most that of the other. -/
def LeL (l m : List Int) : Prop := l.length = m.length ∧ ∀ i, l.getD i 0 ≤ m.getD i 0
theorem LeL.cons {a b : Int} {l m : List Int} (h : LeL (a :: l) (b :: m)) : a ≤ b ∧ LeL l m := ⟨by have := h.2 0; simpa using this, by have := h.1; simpa using this, fun i => by have := h.2 (i + 1); simpa using this⟩
theorem fold_mono : ∀ {l m : List Int} {a b : Int}, LeL l m → a ≤ b → l.foldl max a ≤ m.foldl max b
  | [], [], a, b, _, h => h
  | x :: l, y :: m, a, b, hl, h => by
    obtain ⟨h1, h2⟩ := hl.cons
    simp only [List.foldl_cons]
    exact fold_mono h2 (by omega)
  | [], _ :: _, _, _, hl, _ => by have := hl.1; simp at this
  | _ :: _, [], _, _, hl, _ => by have := hl.1; simp at this
theorem rule_mono {op : Int} {l m : List Int} (h : LeL l m) (h0 : ∀ i, 0 ≤ l.getD i 0) : ruleP op l ≤ ruleP op m := by
  unfold ruleP
  have a0 := h.2 0
  have a1 := h.2 1
  have b0 := h0 0
  have b1 := h0 1
  split
  · omega
  · split
    · unfold thenP
      split <;> split <;> omega
    · exact fold_mono h (Int.le_refl _)
theorem ofL_set : ∀ {l : List Ex} {k : Nat} {y : Ex}, (∀ x, l[k]? = some x → ofE y ≤ ofE x) → LeL (ofL (l.set k y)) (ofL l)
  | [], _, _, _ => by simp [LeL, ofL]
  | x :: r, 0, y, h => by
    simp only [List.set_cons_zero, ofL]
    refine ⟨by simp, fun i => ?_⟩
    cases i with
    | zero => simpa using h x rfl
    | succ i => simp
  | x :: r, k + 1, y, h => by
    simp only [List.set_cons_succ, ofL]
    have := ofL_set (l := r) (k := k) (y := y) (fun z hz => h z (by simpa using hz))
    refine ⟨by simp [this.1], fun i => ?_⟩
    cases i with
    | zero => simp
    | succ i => simpa using this.2 i
theorem ofD_pos (l : List Ex) (i : Nat) : 0 ≤ (ofL l).getD i 0 := by
  cases hg : (ofL l)[i]? with
  | none => simp [List.getD, hg]
  | some y => simp only [List.getD, hg, Option.getD_some]; exact (ofL_bound l y (List.mem_of_getElem? hg)).1
theorem chg_less : ∀ (f : Nat) (x : Ex) (way : Nat), ofE (chgE f x way) ≤ ofE x
  | 0, x, way => by have := (ofE_bound x).1; simpa [chgE, noughtE, ofE, ofL, ruleP, maxL] using this
  | f + 1, .mk op n nm args, way => by
    unfold chgE
    by_cases hz : args.length = 0 ∨ way = 0
    · rw [if_pos hz]
      have := (ofE_bound (.mk op n nm args)).1
      simpa [noughtE, ofE, ofL, ruleP, maxL] using this
    · rw [if_neg hz]
      obtain ⟨y, hy, hm, hg⟩ := part_of hz
      rw [hg]
      have := chg_less f y (way / 2)
      simp only [ofE]
      exact rule_mono (ofL_set (fun x hx => by rw [hy] at hx; simp only [Option.some.injEq] at hx; rw [← hx]; exact this)) (ofD_pos _)
theorem st_less {p : PrD} {x : Ex} (f way : Nat) (h : (stP p x).2 = 0) : (stP p (chgE f x way)).2 = 0 ∧ (stP p (chgE f x way)).1 ≤ (stP p x).1 ∧ 0 ≤ (stP p (chgE f x way)).1 := by
  obtain ⟨h1, h2, h3⟩ := st_ok h
  obtain ⟨k1, k2⟩ := okE_iff.1 h1
  obtain ⟨c1, c2, c3⟩ := chg_fine f x way 32 k1
  have := st_of (p := p) (okE_iff.2 ⟨c1, by omega⟩) (fun s hs => h2 s (c3 s hs))
  rw [this, h3]
  exact ⟨rfl, chg_less f x way, (ofE_bound _).1⟩
end Go.Proofs.Ytcbdeoekehkbiaa
