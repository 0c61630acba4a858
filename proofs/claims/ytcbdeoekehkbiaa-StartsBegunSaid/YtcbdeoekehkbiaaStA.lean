/- What reads the same whatever is written to some blocks. -/
import Derived.Test.YtcbdeoekehkbiaaStSml
import Derived.Test.YtcbdeoekehkbiaaTwinP
namespace Go.Proofs.Ytcbdeoekehkbiaa
open Go.RowKit
set_option linter.unusedVariables false
set_option linter.unusedSimpArgs false

/-- Whatever is written to S's blocks, it reads so. -/
def StA (S : Nat → Prop) (w : World) (x : Ex) (v : Value) : Prop := ∀ X, Chg S w X → ExA X x v
theorem StA.go {S : Nat → Prop} {w w' : World} {x : Ex} {v : Value} (h : StA S w x v) (c : Chg S w w') : StA S w' x v := fun X hX => h X (c.trans hX)
theorem StA.here {S : Nat → Prop} {w : World} {x : Ex} {v : Value} (h : StA S w x v) : ExA w x v := h w (Chg.refl _ _)
theorem StA.ext {S : Nat → Prop} {w w' : World} {x : Ex} {v : Value} (h : StA S w x v) (c : Ext w w') : StA S w' x v := h.go (c.mono (fun _ _ h => h.elim))
theorem StA.op1 {S : Nat → Prop} {w : World} {B : Nat} {o : Int} {x : Ex} {a0 a1 a2 a3 : Value} (ho : isU8 o) (hb : w.heap[B]? = some (.cells #[a0, a1, a2, a3] 25 (0, 0))) (hS : ¬ S B) (h : StA S w x (.agg #[a0, a1, a2, a3])) :
    StA S w (opE o [x]) (.agg #[.int .u8 o, .int .i64 0, .string ⟨#[]⟩, .slice (some ⟨B, 0, none⟩) 1 1]) := fun X hX => exa_op ho (row1 (hX.heap hb hS) (h X hX))
theorem StA.op2 {S : Nat → Prop} {w : World} {B : Nat} {o : Int} {x y : Ex} {a0 a1 a2 a3 b0 b1 b2 b3 : Value} (ho : isU8 o) (hb : w.heap[B]? = some (.cells #[a0, a1, a2, a3, b0, b1, b2, b3] 25 (0, 0))) (hS : ¬ S B) (h : StA S w x (.agg #[a0, a1, a2, a3])) (k : StA S w y (.agg #[b0, b1, b2, b3])) :
    StA S w (opE o [x, y]) (.agg #[.int .u8 o, .int .i64 0, .string ⟨#[]⟩, .slice (some ⟨B, 0, none⟩) 2 2]) := fun X hX => exa_op ho (row2 (hX.heap hb hS) (h X hX) (k X hX))
theorem StA.args {S : Nat → Prop} {w : World} {x : Ex} {c0 c1 c2 c3 : Value} (h : StA S w x (.agg #[c0, c1, c2, c3])) : ∀ X, Chg S w X → RdExV X 0 false x.args c3 := fun X hX => by
  obtain ⟨a, e, _, _, _, h4⟩ := h X hX
  simp only [Value.agg.injEq, Array.mk.injEq, List.cons.injEq, and_true] at e
  obtain ⟨_, _, _, rfl⟩ := e
  exact h4
/-- A flow's body written: four cells. -/
def setB (cur : Array Value) (o : Nat) (v0 v1 v2 v3 : Value) : Array Value := (((cur.setIfInBounds (o + 4) v0).setIfInBounds (o + 4 + 1) v1).setIfInBounds (o + 4 + 2) v2).setIfInBounds (o + 4 + 3) v3
theorem setB_size (cur : Array Value) (o : Nat) (v0 v1 v2 v3 : Value) : (setB cur o v0 v1 v2 v3).size = cur.size := by simp [setB]
theorem RowOf.setB {cur : Array Value} {ps : List (FlD × Value)} (h : RowOf flP 8 cur ps) {k : Nat} {x : FlD} {u u' : Value} {b : Ex} (hk : ps[k]? = some (x, u)) (hs : k * 8 + 8 ≤ cur.size) :
    RowOf flP 8 (setB cur (k * 8) (.int .u8 b.op) (.int .i64 b.n) (.string b.name) u') (ps.set k (⟨x.name, x.ty, x.st, x.df, b⟩, u')) := by
  intro i y hy c hc
  have hl := (List.getElem?_eq_some_iff.1 hk).1
  by_cases hik : i = k
  · subst hik
    rw [List.getElem?_set_self hl] at hy
    simp only [Option.some.injEq] at hy
    subst hy
    have h0 := h i _ hk c hc
    unfold Go.Proofs.Ytcbdeoekehkbiaa.setB
    match c, hc with
    | 0, _ =>
      simp only [Array.getElem?_setIfInBounds]
      rw [if_neg (by omega), if_neg (by omega), if_neg (by omega), if_neg (by omega)]
      exact h0
    | 1, _ =>
      simp only [Array.getElem?_setIfInBounds]
      rw [if_neg (by omega), if_neg (by omega), if_neg (by omega), if_neg (by omega)]
      exact h0
    | 2, _ =>
      simp only [Array.getElem?_setIfInBounds]
      rw [if_neg (by omega), if_neg (by omega), if_neg (by omega), if_neg (by omega)]
      exact h0
    | 3, _ =>
      simp only [Array.getElem?_setIfInBounds]
      rw [if_neg (by omega), if_neg (by omega), if_neg (by omega), if_neg (by omega)]
      exact h0
    | 4, _ => simp [Array.getElem?_setIfInBounds, flP, flC]; omega
    | 5, _ => simp [Array.getElem?_setIfInBounds, flP, flC]; omega
    | 6, _ => simp [Array.getElem?_setIfInBounds, flP, flC]; omega
    | 7, _ => simp [Array.getElem?_setIfInBounds, flP, flC]; omega
    | c + 8, hc => omega
  · rw [List.getElem?_set_ne (fun e => hik e.symm)] at hy
    unfold Go.Proofs.Ytcbdeoekehkbiaa.setB
    simp only [Array.getElem?_setIfInBounds]
    rw [if_neg (by omega), if_neg (by omega), if_neg (by omega), if_neg (by omega)]
    exact h i y hy c hc
theorem blk_setB {w : World} {b : Nat} {cs : Array Value} {t : TypeId} (h : w.heap[b]? = some (.cells cs t (0, 0))) (o : Nat) (v0 v1 v2 v3 : Value) :
    ((((w.setCell ⟨b, o + 4, none⟩ v0).setCell ⟨b, o + 4 + 1, none⟩ v1).setCell ⟨b, o + 4 + 2, none⟩ v2).setCell ⟨b, o + 4 + 3, none⟩ v3).heap[b]? = some (.cells (setB cs o v0 v1 v2 v3) t (0, 0)) :=
  blk_set (blk_set (blk_set (blk_set h _ _) _ _) _ _) _ _
theorem chg_setB (w : World) (b o : Nat) (v0 v1 v2 v3 : Value) : Chg (fun q => q = b) w ((((w.setCell ⟨b, o + 4, none⟩ v0).setCell ⟨b, o + 4 + 1, none⟩ v1).setCell ⟨b, o + 4 + 2, none⟩ v2).setCell ⟨b, o + 4 + 3, none⟩ v3) := by
  iterate 4 (refine Chg.setCell ?_ _ _ (.inl (Eq.refl b)))
  exact Chg.refl _ _
end Go.Proofs.Ytcbdeoekehkbiaa
