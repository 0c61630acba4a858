/- What is worked out, built of parts in new blocks. -/
import Derived.Test.YtjdficgejjkaoaaData
namespace Go.Proofs.Ytjdficgejjkaoaa
open Go.RowKit
set_option linter.unusedVariables false
set_option linter.unusedSimpArgs false

theorem RdEx.ext {w w1 : World} {lo : Nat} {t : Bool} {x : Ex} {cs : List Value} (h : RdEx w lo t x cs) (he : Ext w w1) : RdEx w1 lo t x cs := h.far he (fun _ h => h.elim)
/-- An expression's value. -/
def ExA (w : World) (x : Ex) (v : Value) : Prop := ∃ a, v = .agg #[.int .u8 x.op, .int .i64 x.n, .string x.name, a] ∧ isU8 x.op ∧ isI64 x.n ∧ x.name.size ≤ maxLen ∧ RdExV w 0 false x.args a
theorem ExA.ext {w w1 : World} {x : Ex} {v : Value} (h : ExA w x v) (he : Ext w w1) : ExA w1 x v := by
  obtain ⟨a, rfl, h1, h2, h3, h4⟩ := h
  exact ⟨a, rfl, h1, h2, h3, h4.ext he⟩
theorem rd_row {W : World} {B : Nat} {cur : Array Value} {xs : List Ex} (hb : W.heap[B]? = some (.cells cur 53 (0, 0))) (hn : xs.length ≤ 1000)
    (h : ∀ i x, xs[i]? = some x → ∃ a, cur[i * 4]? = some (.int .u8 x.op) ∧ cur[i * 4 + 1]? = some (.int .i64 x.n) ∧ cur[i * 4 + 2]? = some (.string x.name) ∧ cur[i * 4 + 3]? = some a ∧ isU8 x.op ∧ isI64 x.n ∧ x.name.size ≤ maxLen ∧ RdExV W 0 false x.args a) :
    RdExV W 0 false xs (.slice (some ⟨B, 0, none⟩) xs.length xs.length) := by
  have hl := lt_of_block hb
  refine ⟨_, _, rfl, by unfold fitsR; omega, Nat.le_refl _, by unfold maxLen; omega, RdExs.mk (fun {i x} hx => ?_), fun h => by cases h⟩
  obtain ⟨a, c0, c1, c2, c3, k0, k1, k2, k3⟩ := h i x hx
  obtain ⟨op, n, nm, args⟩ := x
  refine ⟨B, 0, _, _, _, _, rfl, Nat.zero_le _, hl, ?_, ?_, ?_, ?_, RdEx.shut k0 k1 k2 k3⟩
  · rw [blk_cell hb, Nat.zero_add, Nat.zero_add]; exact c0
  · rw [blk_cell hb, Nat.zero_add, Nat.zero_add]; exact c1
  · rw [blk_cell hb, Nat.zero_add, Nat.zero_add]; exact c2
  · rw [blk_cell hb, Nat.zero_add, Nat.zero_add]; exact c3
def leafP (op n : Int) (s : ByteArray) : Ex := .mk op n s []
theorem rd_none (W : World) : RdExV W 0 false [] (.slice none 0 0) := by
  refine ⟨none, 0, rfl, by simp [fitsR], Nat.le_refl _, Nat.zero_le _, ?_, fun h => by cases h⟩
  unfold RdExs
  trivial
theorem exa_leaf (W : World) (op n : Int) (s : ByteArray) (h1 : isU8 op) (h2 : isI64 n) (h3 : s.size ≤ maxLen) : ExA W (.mk op n s []) (.agg #[.int .u8 op, .int .i64 n, .string s, .slice none 0 0]) := ⟨_, rfl, h1, h2, h3, rd_none W⟩
theorem exa_mk {W : World} {op n : Int} {s : ByteArray} {l : List Ex} {v : Value} (h1 : isU8 op) (h2 : isI64 n) (h3 : s.size ≤ maxLen) (h : RdExV W 0 false l v) : ExA W (.mk op n s l) (.agg #[.int .u8 op, .int .i64 n, .string s, v]) := ⟨_, rfl, h1, h2, h3, h⟩
/-- One part in a block of its own. -/
theorem row1 {W : World} {B : Nat} {x : Ex} {a0 a1 a2 a3 : Value} (hb : W.heap[B]? = some (.cells #[a0, a1, a2, a3] 53 (0, 0))) (h : ExA W x (.agg #[a0, a1, a2, a3])) : RdExV W 0 false [x] (.slice (some ⟨B, 0, none⟩) 1 1) := by
  obtain ⟨a, e, h1, h2, h3, h4⟩ := h
  simp only [Value.agg.injEq, Array.mk.injEq, List.cons.injEq, and_true] at e
  obtain ⟨rfl, rfl, rfl, rfl⟩ := e
  refine rd_row (xs := [x]) hb (by simp) (fun i y hy => ?_)
  match i, hy with
  | 0, hy =>
    simp only [List.getElem?_cons_zero, Option.some.injEq] at hy
    subst hy
    exact ⟨a3, rfl, rfl, rfl, rfl, h1, h2, h3, h4⟩
  | n + 1, hy => simp at hy
/-- Two parts. -/
theorem row2 {W : World} {B : Nat} {x y : Ex} {a0 a1 a2 a3 b0 b1 b2 b3 : Value} (hb : W.heap[B]? = some (.cells #[a0, a1, a2, a3, b0, b1, b2, b3] 53 (0, 0))) (h : ExA W x (.agg #[a0, a1, a2, a3])) (k : ExA W y (.agg #[b0, b1, b2, b3])) :
    RdExV W 0 false [x, y] (.slice (some ⟨B, 0, none⟩) 2 2) := by
  obtain ⟨a, e, h1, h2, h3, h4⟩ := h
  simp only [Value.agg.injEq, Array.mk.injEq, List.cons.injEq, and_true] at e
  obtain ⟨rfl, rfl, rfl, rfl⟩ := e
  obtain ⟨b, e, k1, k2, k3, k4⟩ := k
  simp only [Value.agg.injEq, Array.mk.injEq, List.cons.injEq, and_true] at e
  obtain ⟨rfl, rfl, rfl, rfl⟩ := e
  refine rd_row (xs := [x, y]) hb (by simp) (fun i z hz => ?_)
  match i, hz with
  | 0, hz =>
    simp only [List.getElem?_cons_zero, Option.some.injEq] at hz
    subst hz
    exact ⟨a3, rfl, rfl, rfl, rfl, h1, h2, h3, h4⟩
  | 1, hz =>
    simp only [List.getElem?_cons_zero, List.getElem?_cons_succ, Option.some.injEq] at hz
    subst hz
    exact ⟨b3, rfl, rfl, rfl, rfl, k1, k2, k3, k4⟩
  | n + 2, hz => simp at hz
/-- Three parts. -/
theorem row3 {W : World} {B : Nat} {x y z : Ex} {a0 a1 a2 a3 b0 b1 b2 b3 c0 c1 c2 c3 : Value} (hb : W.heap[B]? = some (.cells #[a0, a1, a2, a3, b0, b1, b2, b3, c0, c1, c2, c3] 53 (0, 0))) (h : ExA W x (.agg #[a0, a1, a2, a3])) (k : ExA W y (.agg #[b0, b1, b2, b3]))
    (m : ExA W z (.agg #[c0, c1, c2, c3])) : RdExV W 0 false [x, y, z] (.slice (some ⟨B, 0, none⟩) 3 3) := by
  obtain ⟨a, e, h1, h2, h3, h4⟩ := h
  simp only [Value.agg.injEq, Array.mk.injEq, List.cons.injEq, and_true] at e
  obtain ⟨rfl, rfl, rfl, rfl⟩ := e
  obtain ⟨b, e, k1, k2, k3, k4⟩ := k
  simp only [Value.agg.injEq, Array.mk.injEq, List.cons.injEq, and_true] at e
  obtain ⟨rfl, rfl, rfl, rfl⟩ := e
  obtain ⟨c, e, m1, m2, m3, m4⟩ := m
  simp only [Value.agg.injEq, Array.mk.injEq, List.cons.injEq, and_true] at e
  obtain ⟨rfl, rfl, rfl, rfl⟩ := e
  refine rd_row (xs := [x, y, z]) hb (by simp) (fun i u hu => ?_)
  match i, hu with
  | 0, hu =>
    simp only [List.getElem?_cons_zero, Option.some.injEq] at hu
    subst hu
    exact ⟨a3, rfl, rfl, rfl, rfl, h1, h2, h3, h4⟩
  | 1, hu =>
    simp only [List.getElem?_cons_zero, List.getElem?_cons_succ, Option.some.injEq] at hu
    subst hu
    exact ⟨b3, rfl, rfl, rfl, rfl, k1, k2, k3, k4⟩
  | 2, hu =>
    simp only [List.getElem?_cons_zero, List.getElem?_cons_succ, Option.some.injEq] at hu
    subst hu
    exact ⟨c3, rfl, rfl, rfl, rfl, m1, m2, m3, m4⟩
  | n + 3, hu => simp at hu
end Go.Proofs.Ytjdficgejjkaoaa
