/- More of rows: short of the mark; one more flow. -/
import Derived.Test.YtjdficgejjkaoaaRowF
namespace Go.Proofs.Ytjdficgejjkaoaa
open Go.RowKit
set_option linter.unusedVariables false
set_option linter.unusedSimpArgs false
theorem TwRow.short {w w1 : World} {E sz n : Nat} {css : List Value} {v : Value} (h : TwRow w E sz n css w1 v) : w1.ownsRow w.heap.size E sz v n (css.take (n * sz)) := by
  obtain ⟨g, rfl, hg, ho, he⟩ := h
  rcases ho with ⟨hl, h | ⟨g', cap', cur, hv, hb, hh, hc1, hc2, hsz, ht⟩⟩
  · cases h.1
  · simp only [Value.slice.injEq, Option.some.injEq, Addr.mk.injEq, and_true] at hv
    obtain ⟨rfl, _, rfl⟩ := hv
    have hm : n * sz ≤ (n + 1) * sz := Nat.mul_le_mul_right _ (Nat.le_succ n)
    refine ⟨by rw [List.length_take, hl]; omega, .inr ⟨g, n + 1, cur, rfl, hb, hh, Nat.le_succ _, hc2, hsz, ?_⟩⟩
    rw [← ht, List.take_take, Nat.min_eq_left hm]
theorem take_flat {α : Type} {f : α → List Value} {sz : Nat} (hf : ∀ x, (f x).length = sz) (l : List α) (r : List Value) : ((l.flatMap f) ++ r).take (l.length * sz) = l.flatMap f := by
  rw [List.take_append_of_le_length (by rw [flat_len hf]; exact Nat.le_refl _), List.take_of_length_le (by rw [flat_len hf]; exact Nat.le_refl _)]
theorem FlV.snoc {w0 w : World} {base : Nat} {l : List FlD} {ps : List (FlD × Value)} {x : FlD} {u v : Value} (hps : ps.map (·.1) = l) (hp : ∀ p, p ∈ ps → FlFine p.1 ∧ RdExV w0 0 false p.1.body.args p.2) (hx : FlFine x) (hv : RdExV w0 0 false x.body.args u)
    (h : w.ownsRow base 55 8 v (l.length + 1) (ps.flatMap flP ++ flP (x, u))) : FlV w0 w base (l ++ [x]) v := by
  refine ⟨ps ++ [(x, u)], by rw [List.map_append, hps]; rfl, by rw [List.length_append, List.flatMap_append]; simpa using h, fun q hq => ?_⟩
  rcases List.mem_append.1 hq with hq | hq
  · exact hp q hq
  · simp only [List.mem_singleton] at hq
    subst hq
    exact ⟨hx, hv⟩
theorem FlV.form1 {w0 w : World} {base : Nat} {l : List FlD} {x : FlD} {v : Value} (h : FlV w0 w base (l ++ [x]) v) : ∃ a cap, v = .slice a (l.length + 1) cap := by
  have := h.form
  simpa using this
end Go.Proofs.Ytjdficgejjkaoaa
