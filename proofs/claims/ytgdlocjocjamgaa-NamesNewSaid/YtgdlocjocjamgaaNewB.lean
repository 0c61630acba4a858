/- A flow's body written anew; rows of texts. -/
import Derived.Test.YtgdlocjocjamgaaRowF2
namespace Go.Proofs.Ytgdlocjocjamgaa
open Go.RowKit
set_option linter.unusedVariables false
set_option linter.unusedSimpArgs false
def setB (cur : Array Value) (o : Nat) (v0 v1 v2 v3 : Value) : Array Value := (((cur.setIfInBounds (o + 4) v0).setIfInBounds (o + 4 + 1) v1).setIfInBounds (o + 4 + 2) v2).setIfInBounds (o + 4 + 3) v3
theorem setB_size (cur : Array Value) (o : Nat) (v0 v1 v2 v3 : Value) : (setB cur o v0 v1 v2 v3).size = cur.size := by simp [setB]
theorem RowOf.setB {cur : Array Value} {ps : List (FlD × Value)} (h : RowOf flP 8 cur ps) {k : Nat} {x : FlD} {u u' : Value} {b : Ex} (hk : ps[k]? = some (x, u)) (hs : k * 8 + 8 ≤ cur.size) :
    RowOf flP 8 (setB cur (k * 8) (.int .u8 b.op) (.int .i64 b.n) (.string b.name) u') (ps.set k (⟨x.name, x.ty, x.st, x.df, b⟩, u')) := by
  intro i y hy c hc
  have hl := (List.getElem?_eq_some_iff.1 hk).1
  by_cases hik : i = k
  · subst hik
    rw [List.getElem?_set_self hl] at hy
    simp only [Option.some.injEq] at hy
    subst hy
    have h0 := h i _ hk c hc
    unfold Go.Proofs.Ytgdlocjocjamgaa.setB
    match c, hc with
    | 0, _ =>
      simp only [Array.getElem?_setIfInBounds]
      rw [if_neg (by omega), if_neg (by omega), if_neg (by omega), if_neg (by omega)]
      exact h0
    | 1, _ =>
      simp only [Array.getElem?_setIfInBounds]
      rw [if_neg (by omega), if_neg (by omega), if_neg (by omega), if_neg (by omega)]
      exact h0
    | 2, _ =>
      simp only [Array.getElem?_setIfInBounds]
      rw [if_neg (by omega), if_neg (by omega), if_neg (by omega), if_neg (by omega)]
      exact h0
    | 3, _ =>
      simp only [Array.getElem?_setIfInBounds]
      rw [if_neg (by omega), if_neg (by omega), if_neg (by omega), if_neg (by omega)]
      exact h0
    | 4, _ => simp [Array.getElem?_setIfInBounds, flP, flC]; omega
    | 5, _ => simp [Array.getElem?_setIfInBounds, flP, flC]; omega
    | 6, _ => simp [Array.getElem?_setIfInBounds, flP, flC]; omega
    | 7, _ => simp [Array.getElem?_setIfInBounds, flP, flC]; omega
    | c + 8, hc => omega
  · rw [List.getElem?_set_ne (fun e => hik e.symm)] at hy
    unfold Go.Proofs.Ytgdlocjocjamgaa.setB
    simp only [Array.getElem?_setIfInBounds]
    rw [if_neg (by omega), if_neg (by omega), if_neg (by omega), if_neg (by omega)]
    exact h i y hy c hc
theorem blk_setB {w : World} {b : Nat} {cs : Array Value} {t : TypeId} (h : w.heap[b]? = some (.cells cs t (0, 0))) (o : Nat) (v0 v1 v2 v3 : Value) :
    ((((w.setCell ⟨b, o + 4, none⟩ v0).setCell ⟨b, o + 4 + 1, none⟩ v1).setCell ⟨b, o + 4 + 2, none⟩ v2).setCell ⟨b, o + 4 + 3, none⟩ v3).heap[b]? = some (.cells (setB cs o v0 v1 v2 v3) t (0, 0)) :=
  blk_set (blk_set (blk_set (blk_set h _ _) _ _) _ _) _ _
theorem chg_setB (w : World) (b o : Nat) (v0 v1 v2 v3 : Value) : Chg (fun q => q = b) w ((((w.setCell ⟨b, o + 4, none⟩ v0).setCell ⟨b, o + 4 + 1, none⟩ v1).setCell ⟨b, o + 4 + 2, none⟩ v2).setCell ⟨b, o + 4 + 3, none⟩ v3) := by
  iterate 4 (refine Chg.setCell ?_ _ _ (.inl (Eq.refl b)))
  exact Chg.refl _ _
def stC (s : ByteArray) : List Value := [.string s]
theorem stC_len (s : ByteArray) : (stC s).length = 1 := rfl
theorem st_flat : ∀ l : List ByteArray, l.map Value.string = l.flatMap stC
  | [] => rfl
  | x :: r => by rw [List.map_cons, List.flatMap_cons, st_flat r]; rfl
/-- Texts, in a row. -/
theorem RowOf.rdStr {w : World} {g cap : Nat} {cur : Array Value} {l : List ByteArray} (hr : RowOf stC 1 cur l) (hg : w.heap[g]? = some (.cells cur 9 (0, 0)))
    (hps : ∀ x, x ∈ l → x.size ≤ maxLen) (h1 : l.length ≤ cap) (h2 : cap ≤ maxLen) (h3 : fitsR l.length 16) : RdStrV w 0 false l (.slice (some ⟨g, 0, none⟩) l.length cap) := by
  have hlt := lt_of_block hg
  refine ⟨_, _, rfl, h3, h1, h2, fun i x hx => ⟨hps x (List.mem_of_getElem? hx), g, 0, rfl, Nat.zero_le _, hlt, ?_⟩, fun h => by cases h⟩
  have := hr i x hx 0 (by omega)
  rw [Nat.mul_one, Nat.add_zero] at this
  rw [Nat.zero_add, blk_cell hg, this]
  rfl
end Go.Proofs.Ytgdlocjocjamgaa
