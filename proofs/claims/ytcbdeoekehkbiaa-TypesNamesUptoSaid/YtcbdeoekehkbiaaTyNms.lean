/- Types of parts: the plain law. -/
import Derived.Test.YtcbdeoekehkbiaaTyChk
import Derived.Test.YtcbdeoekehkbiaaStNms
namespace Go.Proofs.Ytcbdeoekehkbiaa
open Go.RowKit
set_option linter.unusedVariables false
set_option linter.unusedSimpArgs false

theorem ty_ok {p : PrD} {x : Ex} (h : (tyP p x).2 = 0) : okE 32 200 x = true ∧ (∀ s, s ∈ nmsE x → (findP s p.flows p.ins).2.2.2 = true) ∧ tyE p x ≠ 0 ∧ tyP p x = (tyE p x, 0) := by
  unfold tyP at h ⊢
  by_cases h1 : okE 32 200 x = false
  · rw [if_pos h1] at h; cases h
  · rw [if_neg h1] at h
    by_cases h2 : thereP p (gthE [] 0 x) = false
    · rw [if_pos h2] at h; cases h
    · rw [if_neg h2] at h
      by_cases h3 : tyE p x = 0
      · rw [if_pos h3] at h; cases h
      · rw [if_neg h1, if_neg h2, if_neg h3]
        exact ⟨by simpa using h1, there_iff.1 (by simpa using h2), h3, rfl⟩
theorem ty_of {p : PrD} {x : Ex} (h1 : okE 32 200 x = true) (h2 : ∀ s, s ∈ nmsE x → (findP s p.flows p.ins).2.2.2 = true) (h3 : tyE p x ≠ 0) : tyP p x = (tyE p x, 0) := by
  unfold tyP
  rw [if_neg (by rw [h1]; simp), if_neg (by rw [there_iff.2 h2]; simp), if_neg h3]
theorem ty_no {p : PrD} {x : Ex} (h : (tyP p x).2 ≠ 0) : (tyP p x).1 = 0 ∧ (((tyP p x).2 == 1) = !okE 32 200 x) := by
  unfold tyP at h ⊢
  by_cases h1 : okE 32 200 x = false
  · rw [if_pos h1, h1]; exact ⟨rfl, rfl⟩
  · have h1' : okE 32 200 x = true := by simpa using h1
    rw [if_neg h1] at h
    rw [if_neg h1, h1']
    by_cases h2 : thereP p (gthE [] 0 x) = false
    · rw [if_pos h2]; exact ⟨rfl, rfl⟩
    · rw [if_neg h2] at h
      rw [if_neg h2]
      by_cases h3 : tyE p x = 0
      · rw [if_pos h3]; exact ⟨rfl, rfl⟩
      · rw [if_neg h3] at h; exact absurd rfl h
theorem parts_ops : ∀ n : Nat, n < 256 → 0 ≤ partsP (n : Int) → 1 ≤ n ∧ n ≤ 19 := by decide +kernel
theorem ops_of {op n : Int} {nm : ByteArray} {args : List Ex} (h : okE 32 200 (.mk op n nm args) = true) (hu : isU8 op) : 1 ≤ op ∧ op ≤ 19 := by
  have hl := ok_len h
  obtain ⟨k, rfl⟩ := Int.eq_ofNat_of_zero_le hu.1
  have := parts_ops k (by have := hu.2; omega) (by rw [hl]; omega)
  omega
theorem each_allN {o w : Int} {l : List Int} (h : eachT o w l ≠ 0) : (∀ t, t ∈ l → t = o) ∧ eachT o w l = w := by
  unfold eachT at h ⊢
  by_cases hz : (l.any fun t => !decide (t = o)) = true
  · rw [if_pos hz] at h; exact absurd rfl h
  · rw [if_neg hz]
    refine ⟨fun t ht => ?_, rfl⟩
    have h0 : (l.any fun t => !decide (t = o)) = false := by simpa using hz
    have := List.any_eq_false.1 h0 t ht
    simpa using this
theorem alike_allN {l : List Int} (h : alikeT l = true) : ∀ t, t ∈ l → t = l.headD 0 ∧ t ≠ 0 := by
  intro t ht
  unfold alikeT at h
  simp only [Bool.not_eq_true', List.any_eq_false] at h
  have := h t ht
  simp only [Bool.or_eq_true, Bool.not_eq_true', decide_eq_false_iff_not, decide_eq_true_eq, not_or, Decidable.not_not] at this
  exact this
theorem same_allN {l : List Int} (h : sameT l ≠ 0) : alikeT l = true ∧ sameT l = l.headD 0 := by
  unfold sameT at h ⊢
  by_cases ha : alikeT l = true
  · rw [if_pos ha]; exact ⟨ha, rfl⟩
  · rw [if_neg ha] at h; exact absurd rfl h
theorem equal_allN {l : List Int} (h : equalT l ≠ 0) : alikeT l = true ∧ equalT l = 2 := by
  unfold equalT at h ⊢
  by_cases ha : alikeT l = true
  · rw [if_pos ha]; exact ⟨ha, rfl⟩
  · rw [if_neg ha] at h; exact absurd rfl h
theorem if_allN {l : List Int} (h : ifT l ≠ 0) : l.headD 0 = 2 ∧ alikeT l.tail = true ∧ ifT l = l.tail.headD 0 := by
  unfold ifT at h ⊢
  by_cases ha : l.headD 0 = 2
  · rw [if_pos ha] at h ⊢
    obtain ⟨h1, h2⟩ := same_allN h
    exact ⟨ha, h1, h2⟩
  · rw [if_neg ha] at h; exact absurd rfl h
theorem rule_parts {op : Int} {l : List Int} (h : ruleT op l ≠ 0) : ∀ t, t ∈ l → t ≠ 0 := by
  intro t ht
  unfold ruleT at h
  split at h
  · have := (each_allN h).1 t ht; omega
  · split at h
    · have := (each_allN h).1 t ht; omega
    · split at h
      · have := (each_allN h).1 t ht; omega
      · split at h
        · exact ((alike_allN (equal_allN h).1) t ht).2
        · split at h
          · exact ((alike_allN (same_allN h).1) t ht).2
          · split at h
            · obtain ⟨h1, h2, _⟩ := if_allN h
              cases l with
              | nil => simp at ht
              | cons a r =>
                rcases List.mem_cons.1 ht with rfl | ht
                · simp at h1; omega
                · exact ((alike_allN h2) t ht).2
            · exact absurd rfl h
theorem ty_part {p : PrD} {op n : Int} {nm : ByteArray} {args : List Ex} {y : Ex} (h : (tyP p (.mk op n nm args)).2 = 0) (hy : y ∈ args) : tyP p y = (tyE p y, 0) := by
  obtain ⟨h1, h2, h3, _⟩ := ty_ok h
  refine ty_of (ok_part h1 hy) (fun s hs => h2 s (by simp only [nmsE, List.mem_append]; exact .inr (nms_part hy s hs))) ?_
  have hlen := ok_len h1
  have hpos : 0 < args.length := List.length_pos_of_mem hy
  unfold tyE at h3
  by_cases a1 : op = 1
  · subst a1; rw [show partsP 1 = 0 by decide +kernel] at hlen; omega
  by_cases a2 : op = 2
  · subst a2; rw [show partsP 2 = 0 by decide +kernel] at hlen; omega
  by_cases a3 : op = 3
  · subst a3; rw [show partsP 3 = 0 by decide +kernel] at hlen; omega
  rw [if_neg a1, if_neg a2, if_neg a3] at h3
  obtain ⟨i, hi, rfl⟩ := List.getElem_of_mem hy
  refine rule_parts h3 _ (List.mem_of_getElem? (i := i) ?_)
  rw [tyL_get, List.getElem?_eq_getElem hi]
  rfl
theorem tyL_take {p : PrD} {l : List Ex} {i : Nat} {y : Ex} (h : l[i]? = some y) : (tyL p l).take (i + 1) = (tyL p l).take i ++ [tyE p y] := by
  rw [List.take_add_one, tyL_get, h]; rfl
/-- What an operator's type tells of its parts' ones. -/
def PartsT (op t : Int) (l : List Int) : Prop :=
  (op = 17 → ∃ b c, l = [2, b, c] ∧ b = t ∧ c = t) ∧ (op = 18 → l = [t, t]) ∧ (op = 19 → l = [t]) ∧ ((op = 11 ∨ op = 12) → t = 2 ∧ ∃ a, l = [a, a]) ∧
  ((op = 4 ∨ op = 6 ∨ op = 7 ∨ op = 8 ∨ op = 9 ∨ op = 10) → t = 1 ∧ ∀ u, u ∈ l → u = 1) ∧ ((op = 5 ∨ op = 15 ∨ op = 16) → t = 2 ∧ ∀ u, u ∈ l → u = 2) ∧ ((op = 13 ∨ op = 14) → t = 2 ∧ ∀ u, u ∈ l → u = 1)
theorem parts_rule {op : Int} {l : List Int} (hlen : partsP op = (l.length : Int)) (h : ruleT op l ≠ 0) : PartsT op (ruleT op l) l := by
  refine ⟨?_, ?_, ?_, ?_, ?_, ?_, ?_⟩
  · rintro rfl
    rw [show partsP 17 = 3 by decide +kernel] at hlen
    obtain ⟨a, b, c, rfl⟩ : ∃ a b c, l = [a, b, c] := by
      match l, hlen with
      | [a, b, c], _ => exact ⟨a, b, c, rfl⟩
      | [], h => simp at h
      | [_], h => simp at h
      | [_, _], h => simp at h
      | _ :: _ :: _ :: _ :: _, h => simp at h; omega
    have e : ruleT 17 [a, b, c] = ifT [a, b, c] := by simp [ruleT]
    rw [e] at h ⊢
    obtain ⟨h1, h2, h3⟩ := if_allN h
    have hc := (alike_allN h2 c (by simp)).1
    simp at h1 h3 hc
    subst h1
    exact ⟨b, c, rfl, h3.symm, by rw [h3, hc]⟩
  · rintro rfl
    rw [show partsP 18 = 2 by decide +kernel] at hlen
    obtain ⟨a, b, rfl⟩ : ∃ a b, l = [a, b] := by
      match l, hlen with
      | [a, b], _ => exact ⟨a, b, rfl⟩
      | [], h => simp at h
      | [_], h => simp at h
      | _ :: _ :: _ :: _, h => simp at h; omega
    have e : ruleT 18 [a, b] = sameT [a, b] := by simp [ruleT]
    rw [e] at h ⊢
    obtain ⟨h1, h2⟩ := same_allN h
    have hb := (alike_allN h1 b (by simp)).1
    simp at h2 hb
    rw [h2, hb]
  · rintro rfl
    rw [show partsP 19 = 1 by decide +kernel] at hlen
    obtain ⟨a, rfl⟩ : ∃ a, l = [a] := by
      match l, hlen with
      | [a], _ => exact ⟨a, rfl⟩
      | [], h => simp at h
      | _ :: _ :: _, h => simp at h; omega
    have e : ruleT 19 [a] = sameT [a] := by simp [ruleT]
    rw [e] at h ⊢
    obtain ⟨h1, h2⟩ := same_allN h
    simp at h2
    rw [h2]
  · intro ho
    have hl2 : partsP op = 2 := by rcases ho with rfl | rfl <;> decide +kernel
    rw [hl2] at hlen
    obtain ⟨a, b, rfl⟩ : ∃ a b, l = [a, b] := by
      match l, hlen with
      | [a, b], _ => exact ⟨a, b, rfl⟩
      | [], h => simp at h
      | [_], h => simp at h
      | _ :: _ :: _ :: _, h => simp at h; omega
    have e : ruleT op [a, b] = equalT [a, b] := by rcases ho with rfl | rfl <;> simp [ruleT]
    rw [e] at h ⊢
    obtain ⟨h1, h2⟩ := equal_allN h
    have hb := (alike_allN h1 b (by simp)).1
    simp at hb
    exact ⟨h2, a, by rw [hb]⟩
  · intro ho
    have e : ruleT op l = eachT 1 1 l := by unfold ruleT; rw [if_pos ho]
    rw [e] at h ⊢
    exact ⟨(each_allN h).2, (each_allN h).1⟩
  · intro ho
    have e : ruleT op l = eachT 2 2 l := by unfold ruleT; rw [if_neg (by omega), if_pos ho]
    rw [e] at h ⊢
    exact ⟨(each_allN h).2, (each_allN h).1⟩
  · intro ho
    have e : ruleT op l = eachT 1 2 l := by unfold ruleT; rw [if_neg (by omega), if_neg (by omega), if_pos ho]
    rw [e] at h ⊢
    exact ⟨(each_allN h).2, (each_allN h).1⟩
end Go.Proofs.Ytcbdeoekehkbiaa
