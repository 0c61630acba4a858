/- Lists of bytes, and of yes and no, that come in; numbers in a row of one's own. -/
import Derived.Test.YtjdficgejjkaoaaInts
import Derived.Test.YtjdficgejjkaoaaExOwn
namespace Go.Proofs.Ytjdficgejjkaoaa
open Go.RowKit
set_option linter.unusedVariables false
set_option linter.unusedSimpArgs false

def RdU8V (w : World) (l : List Int) (v : Value) : Prop := ∃ a cap, v = .slice a l.length cap ∧ fitsR l.length 1 ∧ l.length ≤ cap ∧ cap ≤ maxLen ∧ ∀ i x, l[i]? = some x → isU8 x ∧ ∃ b o, a = some ⟨b, o, none⟩ ∧ b < w.heap.size ∧ w.cell? ⟨b, o + i, none⟩ = some (.int .u8 x)
theorem RdU8V.ext {w w1 : World} {l : List Int} {v : Value} (h : RdU8V w l v) (he : Ext w w1) : RdU8V w1 l v := by
  obtain ⟨a, cap, rfl, h4, h5, h6, h7⟩ := h
  refine ⟨a, cap, rfl, h4, h5, h6, fun i x hx => ?_⟩
  obtain ⟨h1, b, o, ha, hb, k0⟩ := h7 i x hx
  exact ⟨h1, b, o, ha, by have := he.size; omega, he.cell k0⟩
theorem RdU8V.form {w : World} {l : List Int} {v : Value} (h : RdU8V w l v) : ∃ a cap, v = .slice a l.length cap ∧ fitsR l.length 1 := by
  obtain ⟨a, cap, rfl, h1, _⟩ := h
  exact ⟨a, cap, rfl, h1⟩
theorem RdU8V.get {w : World} {l : List Int} {a : Option Addr} {n cap : Nat} (h : RdU8V w l (.slice a n cap)) {i : Nat} {x : Int} (hx : l[i]? = some x) : isU8 x ∧ ∃ b o, a = some ⟨b, o, none⟩ ∧ b < w.heap.size ∧ w.cell? ⟨b, o + i, none⟩ = some (.int .u8 x) := by
  obtain ⟨a', cap', e, _, _, _, h7⟩ := h
  simp only [Value.slice.injEq] at e
  obtain ⟨rfl, _, _⟩ := e
  exact h7 i x hx
def RdBoV (w : World) (l : List Bool) (v : Value) : Prop := ∃ a cap, v = .slice a l.length cap ∧ fitsR l.length 1 ∧ l.length ≤ cap ∧ cap ≤ maxLen ∧ ∀ i x, l[i]? = some x → ∃ b o, a = some ⟨b, o, none⟩ ∧ b < w.heap.size ∧ w.cell? ⟨b, o + i, none⟩ = some (.bool x)
theorem RdBoV.ext {w w1 : World} {l : List Bool} {v : Value} (h : RdBoV w l v) (he : Ext w w1) : RdBoV w1 l v := by
  obtain ⟨a, cap, rfl, h4, h5, h6, h7⟩ := h
  refine ⟨a, cap, rfl, h4, h5, h6, fun i x hx => ?_⟩
  obtain ⟨b, o, ha, hb, k0⟩ := h7 i x hx
  exact ⟨b, o, ha, by have := he.size; omega, he.cell k0⟩
theorem RdBoV.form {w : World} {l : List Bool} {v : Value} (h : RdBoV w l v) : ∃ a cap, v = .slice a l.length cap ∧ fitsR l.length 1 := by
  obtain ⟨a, cap, rfl, h1, _⟩ := h
  exact ⟨a, cap, rfl, h1⟩
theorem RdBoV.get {w : World} {l : List Bool} {a : Option Addr} {n cap : Nat} (h : RdBoV w l (.slice a n cap)) {i : Nat} {x : Bool} (hx : l[i]? = some x) : ∃ b o, a = some ⟨b, o, none⟩ ∧ b < w.heap.size ∧ w.cell? ⟨b, o + i, none⟩ = some (.bool x) := by
  obtain ⟨a', cap', e, _, _, _, h7⟩ := h
  simp only [Value.slice.injEq] at e
  obtain ⟨rfl, _, _⟩ := e
  exact h7 i x hx
/-- Numbers at the head of a block of one's own. -/
def OwnI (w : World) (g cap : Nat) (l : List Int) : Prop := ∃ cur, w.heap[g]? = some (.cells cur 3 (0, 0)) ∧ cur.size = cap ∧ l.length ≤ cap ∧ cap ≤ maxLen ∧ ∀ (i : Nat) (x : Int), l[i]? = some x → cur[i]? = some (Value.int .i64 x)
theorem OwnI.of {w : World} {base g n cap : Nat} {l : List Int} (h : w.ownsRow base 3 1 (.slice (some ⟨g, 0, none⟩) n cap) n (l.map (Value.int .i64))) (hn : n = l.length) : OwnI w g cap l := by
  rcases h.2 with ⟨e, _⟩ | ⟨g', cap', cur, e, hb, hg, h1, h2, h3, h4⟩
  · cases e
  · simp only [Value.slice.injEq, Option.some.injEq, Addr.mk.injEq, and_true, true_and] at e
    obtain ⟨rfl, rfl⟩ := e
    refine ⟨cur, hg, by rw [h3, Nat.mul_one], by omega, h2, fun i x hx => ?_⟩
    have hi := (List.getElem?_eq_some_iff.1 hx).1
    have := congrArg (fun q : List Value => q[i]?) h4
    simp only [List.getElem?_take, List.getElem?_map, hx, Option.map_some] at this
    simpa [show i < n by omega] using this
theorem OwnI.ext {w w1 : World} {g cap : Nat} {l : List Int} (h : OwnI w g cap l) (he : Ext w w1) : OwnI w1 g cap l := by
  obtain ⟨cur, h0, h1⟩ := h
  exact ⟨cur, Ext.heap he h0, h1⟩
theorem OwnI.set {w : World} {g cap : Nat} {l : List Int} (h : OwnI w g cap l) {k : Nat} (hk : k < l.length) (n : Int) : OwnI (w.setCell ⟨g, k, none⟩ (.int .i64 n)) g cap (l.set k n) := by
  obtain ⟨cur, h0, h1, h2, h3, h4⟩ := h
  refine ⟨_, blk_set h0 k (.int .i64 n), by simpa using h1, by simpa using h2, h3, fun i x hx => ?_⟩
  rw [Array.getElem?_setIfInBounds]
  rw [List.getElem?_set] at hx
  by_cases hki : k = i
  · rw [if_pos hki] at hx ⊢
    rw [if_pos (by omega)] at hx
    rw [if_pos (by omega)]
    simpa using hx
  · rw [if_neg hki] at hx ⊢
    exact h4 i x hx
theorem OwnI.rd {w : World} {g cap : Nat} {l : List Int} (h : OwnI w g cap l) (hr : ∀ n, n ∈ l → isI64 n) (hl : l.length ≤ 1000000) : RdIntV w 0 false l (.slice (some ⟨g, 0, none⟩) l.length cap) := by
  obtain ⟨cur, h0, h1, h2, h3, h4⟩ := h
  refine ⟨_, _, rfl, by unfold fitsR; omega, h2, h3, fun i x hx => ⟨hr x (List.mem_of_getElem? hx), g, 0, rfl, Nat.zero_le _, lt_of_block h0, ?_⟩, fun h => by cases h⟩
  rw [Nat.zero_add, blk_cell h0]
  exact h4 i x hx
theorem OwnI.cell {w : World} {g cap : Nat} {l : List Int} (h : OwnI w g cap l) {i : Nat} {x : Int} (hx : l[i]? = some x) : w.cell? ⟨g, i, none⟩ = some (.int .i64 x) ∧ w.frozen? ⟨g, i, none⟩ = false := by
  obtain ⟨cur, h0, h1, h2, h3, h4⟩ := h
  exact ⟨(blk_cell h0 i).trans (h4 i x hx), blk_free h0 i⟩
end Go.Proofs.Ytjdficgejjkaoaa
