/- What the laws need besides. -/
import Derived.Test.YtgkbhonjodcakaaJ0
import Derived.Test.YtgkbhonjodcakaaJ1
import Derived.Test.YtgkbhonjodcakaaJ2
import Derived.Test.YtgkbhonjodcakaaJ3
import Derived.Test.YtgkbhonjodcakaaJ4
import Derived.Test.YtgkbhonjodcakaaJ5
import Derived.Test.YtgkbhonjodcakaaJ6
import Derived.Test.YtgkbhonjodcakaaJ7
import Derived.Test.YtgkbhonjodcakaaJ8
import Derived.Test.YtgkbhonjodcakaaJ9
import Derived.Test.YtgkbhonjodcakaaJ10
import Derived.Test.YtgkbhonjodcakaaJ11
import Derived.Test.YtgkbhonjodcakaaJ12
import Derived.Test.YtgkbhonjodcakaaJ13
import Derived.Test.YtgkbhonjodcakaaJ14
import Derived.Test.YtgkbhonjodcakaaJ15
import Derived.Test.YtgkbhonjodcakaaJ16
import Derived.Test.YtgkbhonjodcakaaJ17
namespace Go.Proofs.Ytgkbhonjodcakaa
open Go.RowKit
set_option linter.unusedVariables false
set_option linter.unusedSimpArgs false

theorem run_append (ps : List PlD) : ∀ (a b : List IsD) (pile : List Int), runP ps (a ++ b) pile = (runP ps a pile).bind (runP ps b)
  | [], b, pile => rfl
  | x :: a, b, pile => by
    rw [List.cons_append, run_cons, run_cons, Option.bind_assoc]
    congr 1
    funext q
    exact run_append ps a b q
theorem stepI_frame {ps : List PlD} {x : IsD} {pile : List Int} (base : List Int) (h : stepI ps x pile ≠ 0) : manyP x.op ≤ pile.length ∧ stepI ps x (base ++ pile) = stepI ps x pile := by
  unfold stepI at h ⊢
  by_cases h0 : manyP x.op = 0
  · rw [if_pos h0, if_pos h0]; exact ⟨by omega, rfl⟩
  · rw [if_neg h0] at h
    rw [if_neg h0, if_neg h0]
    by_cases hc : manyP x.op ≤ pile.length ∧ x.n = 0 ∧ 0 ≤ x.ago ∧ x.ago ≤ mostP x.op
    · rw [if_pos hc, if_pos ⟨by rw [List.length_append]; omega, hc.2⟩]
      refine ⟨hc.1, ?_⟩
      rw [List.length_append, List.drop_append, show base.drop (base.length + pile.length - manyP x.op) = [] from List.drop_eq_nil_of_le (by omega), List.nil_append, show base.length + pile.length - manyP x.op - base.length = pile.length - manyP x.op from by omega]
    · rw [if_neg hc] at h; exact absurd rfl h
theorem step_frame {ps : List PlD} {x : IsD} {pile q : List Int} (base : List Int) (h : stepJ ps x pile = some q) : stepJ ps x (base ++ pile) = some (base ++ q) := by
  unfold stepJ at h ⊢
  by_cases h0 : stepI ps x pile = 0
  · rw [if_pos h0] at h; cases h
  · rw [if_neg h0] at h
    obtain ⟨h1, h2⟩ := stepI_frame base h0
    rw [h2, if_neg h0, ← Option.some.inj h, List.length_append, List.take_append, List.take_of_length_le (show base.length ≤ base.length + pile.length - manyP x.op by omega), show base.length + pile.length - manyP x.op - base.length = pile.length - manyP x.op from by omega, List.append_assoc]
theorem run_frame {ps : List PlD} (base : List Int) : ∀ {l : List IsD} {pile q : List Int}, runP ps l pile = some q → runP ps l (base ++ pile) = some (base ++ q)
  | [], pile, q, h => by simp only [runP, Option.some.injEq] at h ⊢; rw [h]
  | x :: r, pile, q, h => by
    rw [run_cons] at h ⊢
    cases hs : stepJ ps x pile with
    | none => rw [hs] at h; cases h
    | some z =>
      rw [hs] at h
      rw [step_frame base hs]
      exact run_frame base (pile := z) h
theorem step_len {ps : List PlD} {x : IsD} {pile q : List Int} (h : stepJ ps x pile = some q) : q.length + manyP x.op = pile.length + 1 := by
  unfold stepJ at h
  by_cases h0 : stepI ps x pile = 0
  · rw [if_pos h0] at h; cases h
  · rw [if_neg h0] at h
    have := (stepI_frame [] h0).1
    rw [← Option.some.inj h, List.length_append, List.length_take]
    simp only [List.length_cons, List.length_nil]
    omega
def manyS (l : List IsD) : Nat := (l.map fun x => manyP x.op).sum
theorem run_len {ps : List PlD} : ∀ {l : List IsD} {pile q : List Int}, runP ps l pile = some q → q.length + manyS l = pile.length + l.length
  | [], pile, q, h => by simp only [runP, Option.some.injEq] at h; rw [h]; simp [manyS]
  | x :: r, pile, q, h => by
    rw [run_cons] at h
    cases hs : stepJ ps x pile with
    | none => rw [hs] at h; cases h
    | some z =>
      rw [hs] at h
      have h1 := step_len hs
      have h2 := run_len (pile := z) h
      simp only [manyS, List.map_cons, List.sum_cons, List.length_cons] at h2 ⊢
      omega
theorem end_true {o : Option (List Int)} {t : Int} (h : endP o = (t, true)) : o = some [t] := by
  unfold endP at h
  split at h
  · simp only [Prod.mk.injEq, and_true] at h; rw [h]
  · simp at h
theorem chk_true {ps : List PlD} {l : List IsD} {t : Int} (h : chkC ps l = (t, true)) : placesOk ps = true ∧ l.length ≤ 800 ∧ runP ps l [] = some [t] := by
  unfold chkC at h
  by_cases hc : placesOk ps = true ∧ l.length ≤ 800
  · rw [if_pos hc] at h; exact ⟨hc.1, hc.2, end_true h⟩
  · rw [if_neg hc] at h; simp at h
theorem chk_some {ps : List PlD} {l : List IsD} (h : (chkC ps l).2 = true) : ∃ t, chkC ps l = (t, true) := ⟨(chkC ps l).1, by rw [← h]⟩
theorem chk_false {ps : List PlD} {l : List IsD} (h : (chkC ps l).2 = false) : chkC ps l = (0, false) := by
  unfold chkC at h ⊢
  by_cases hc : placesOk ps = true ∧ l.length ≤ 800
  · rw [if_pos hc] at h ⊢
    unfold endP at h ⊢
    split
    · rename_i hh; rw [hh] at h; simp at h
    · rfl
  · rw [if_neg hc]
/-- Without one of them they may not be any more, but for an operator of one. -/
theorem spoilt_less {ps : List PlD} {l : List IsD} {t u : Int} (h : chkC ps l = (t, true)) {k : Nat} {x : IsD} (hk : l[k]? = some x) (h2 : chkC ps (l.take k ++ l.drop (k + 1)) = (u, true)) : x.op = 4 ∨ x.op = 5 := by
  obtain ⟨_, _, h3⟩ := chk_true h
  obtain ⟨_, _, h4⟩ := chk_true h2
  have e1 := run_len h3
  have e2 := run_len h4
  obtain ⟨hkl, rfl⟩ := List.getElem?_eq_some_iff.1 hk
  have e3 : manyS l = manyS (l.take k) + (manyP l[k].op + manyS (l.drop (k + 1))) := by
    have : l = l.take k ++ l[k] :: l.drop (k + 1) := by rw [← List.drop_eq_getElem_cons hkl, List.take_append_drop]
    have key : ∀ (a : List IsD) (y : IsD) (b : List IsD), manyS (a ++ y :: b) = manyS a + (manyP y.op + manyS b) := fun a y b => by simp [manyS]
    rw [← key]
    exact congrArg manyS this
  have e4 : manyS (l.take k ++ l.drop (k + 1)) = manyS (l.take k) + manyS (l.drop (k + 1)) := by simp [manyS]
  rw [e4, List.length_append, List.length_take, List.length_drop] at e2
  simp only [List.length_cons, List.length_nil] at e1 e2
  have : manyP l[k].op = 1 := by omega
  unfold manyP at this
  split at this
  · assumption
  · split at this
    · omega
    · split at this <;> omega
theorem spoilt_pos {ps : List PlD} {l : List IsD} {t : Int} (h : chkC ps l = (t, true)) : 0 < l.length := by
  have e1 := run_len (chk_true h).2.2
  simp only [List.length_cons, List.length_nil] at e1
  omega
/-- One more behind them: they may not be. -/
theorem spoilt_more {ps : List PlD} {l : List IsD} {t o : Int} (h : chkC ps l = (t, true)) (ho : o = 1 ∨ o = 6 ∨ o = 17 ∨ o = 19 ∨ o = 0 ∨ o = 18) : chkC ps (l ++ [⟨o, 0, 0⟩]) = (0, false) := by
  apply chk_false
  cases hb : (chkC ps (l ++ [⟨o, 0, 0⟩])).2 with
  | false => rfl
  | true =>
    exfalso
    obtain ⟨u, h2⟩ := chk_some hb
    obtain ⟨_, _, h3⟩ := chk_true h
    obtain ⟨_, _, h4⟩ := chk_true h2
    rw [run_append, h3, Option.bind_some, run_cons] at h4
    rcases ho with rfl | rfl | rfl | rfl | rfl | rfl <;> simp [stepJ, stepI, manyP, pushP, runP] at h4
theorem step_ty {ps : List PlD} {x : IsD} {pile q : List Int} (h : stepJ ps x pile = some q) : stepI ps x pile ≠ 0 := by
  intro h0
  unfold stepJ at h
  rw [if_pos h0] at h; cases h
/-- All that stands on the pile is a type. -/
theorem run_ne {ps : List PlD} : ∀ {l : List IsD} {pile q : List Int}, runP ps l pile = some q → (∀ t, t ∈ pile → t ≠ 0) → ∀ t, t ∈ q → t ≠ 0
  | [], pile, q, h, hp => by simp only [runP, Option.some.injEq] at h; rw [← h]; exact hp
  | x :: r, pile, q, h, hp => by
    rw [run_cons] at h
    cases hs : stepJ ps x pile with
    | none => rw [hs] at h; cases h
    | some z =>
      rw [hs] at h
      refine run_ne (pile := z) h (fun t ht => ?_)
      have hs0 := step_ty hs
      unfold stepJ at hs
      rw [if_neg hs0] at hs
      rw [← Option.some.inj hs] at ht
      rcases List.mem_append.1 ht with ht | ht
      · exact hp t (List.mem_of_mem_take ht)
      · rw [List.mem_singleton.1 ht]; exact hs0
/-- What an operator of two leaves of two types. -/
def joinT (o t u : Int) : Int := if t = u then (if o ≤ 10 then (if t = 1 then t else 0) else if o = 13 ∨ o = 14 then (if t = 1 then 2 else 0) else if o = 15 ∨ o = 16 then (if t = 2 then t else 0) else if o = 11 ∨ o = 12 then 2 else t) else 0
theorem leave_join {o t u : Int} (h1 : 6 ≤ o) (h2 : o ≤ 18) (h3 : o ≠ 17) (ht : t ≠ 0) : leaveT o [t, u] = joinT o t u := by
  have ho : o = 6 ∨ o = 7 ∨ o = 8 ∨ o = 9 ∨ o = 10 ∨ o = 11 ∨ o = 12 ∨ o = 13 ∨ o = 14 ∨ o = 15 ∨ o = 16 ∨ o = 18 := by omega
  by_cases e : t = u
  · subst e
    rcases ho with rfl | rfl | rfl | rfl | rfl | rfl | rfl | rfl | rfl | rfl | rfl | rfl <;> simp [leaveT, joinT, eachT, alikC, eqC, ht] <;> split <;> simp_all
  · have e' : ¬ u = t := fun h => e h.symm
    rcases ho with rfl | rfl | rfl | rfl | rfl | rfl | rfl | rfl | rfl | rfl | rfl | rfl <;> simp [leaveT, joinT, eachT, alikC, eqC, ht, e, e'] <;> omega
theorem joins_chk {ps : List PlD} {a b : List IsD} {t u o : Int} (ha : chkC ps a = (t, true)) (hb : chkC ps b = (u, true)) (hl : a.length + b.length < 800) (h1 : 6 ≤ o) (h2 : o ≤ 18) (h3 : o ≠ 17) :
    chkC ps (a ++ b ++ [⟨o, 0, 0⟩]) = (joinT o t u, decide (joinT o t u ≠ 0)) := by
  obtain ⟨hp, _, ra⟩ := chk_true ha
  obtain ⟨_, _, rb⟩ := chk_true hb
  have ht : t ≠ 0 := run_ne ra (fun t h => by cases h) t (by simp)
  have hr : runP ps (a ++ b) [] = some [t, u] := by
    rw [run_append, ra, Option.bind_some]
    exact run_frame [t] rb
  have hm : manyP o = 2 := by unfold manyP; rw [if_neg (by omega), if_neg h3, if_pos ⟨h1, h2⟩]
  have hs : stepI ps ⟨o, 0, 0⟩ [t, u] = joinT o t u := by
    unfold stepI
    simp only [hm]
    rw [if_neg (by omega), if_pos ⟨by simp, trivial, by omega, by unfold mostP; split <;> omega⟩, ← leave_join h1 h2 h3 ht]
    rfl
  unfold chkC
  rw [if_pos ⟨hp, by simp only [List.length_append, List.length_cons, List.length_nil]; omega⟩, run_append, hr, Option.bind_some, run_cons]
  unfold stepJ
  rw [hs]
  by_cases hz : joinT o t u = 0
  · rw [if_pos hz, hz]; rfl
  · rw [if_neg hz]
    simp [runP, endP, hm, hz]
end Go.Proofs.Ytgkbhonjodcakaa

namespace Go.Proofs.Ytgkbhonjodcakaa
open Go.RowKit Go.ChangeShapes Go.WideShapes Go.Deep
set_option linter.unusedVariables false
set_option maxRecDepth 100000
section
variable {H : Type} {enc : TypeId × Value → H} {w : World}
theorem len4 {α : Type} {l : List α} (h : l.length = 4) : ∃ a b c d, l = [a, b, c, d] := by
  match l, h with
  | [a, b, c, d], _ => exact ⟨a, b, c, d, rfl⟩
end
end Go.Proofs.Ytgkbhonjodcakaa

