/- Lists of what is worked out, of one's own: copied, and written to. -/
import Derived.Test.YtjdficgejjkaoaaRowF
import Derived.Test.YtjdficgejjkaoaaTree
import Derived.Maps.AppendAt
namespace Go.Proofs.Ytjdficgejjkaoaa
open Go.RowKit
set_option linter.unusedVariables false
set_option linter.unusedSimpArgs false

/-- One element's cells may stand in memory. -/
def ExFine (x : Ex) : Prop := isU8 x.op ∧ isI64 x.n ∧ x.name.size ≤ maxLen
/-- A list, as pairs of what its elements are and their parts' slices, cell by cell. -/
theorem RdExV.pairs {w : World} {lo : Nat} {t : Bool} {l : List Ex} {a : Option Addr} {n cap : Nat} (h : RdExV w lo t l (.slice a n cap)) : ∃ ps : List (Ex × Value), ps.map (·.1) = l ∧ (∀ p, p ∈ ps → ExFine p.1 ∧ RdExV w lo t p.1.args p.2) ∧
    ∀ b o, a = some ⟨b, o, none⟩ → ∀ (i : Nat) (p : Ex × Value), ps[i]? = some p → ∀ c, c < 4 → w.cell? ⟨b, o + i * 4 + c, none⟩ = (exP p)[c]? := by
  have key : ∀ (m : List Ex) (k : Nat), (∀ i x, m[i]? = some x → l[k + i]? = some x) → ∃ ps : List (Ex × Value), ps.map (·.1) = m ∧ (∀ p, p ∈ ps → ExFine p.1 ∧ RdExV w lo t p.1.args p.2) ∧
      ∀ b o, a = some ⟨b, o, none⟩ → ∀ (i : Nat) (p : Ex × Value), ps[i]? = some p → ∀ c, c < 4 → w.cell? ⟨b, o + (k + i) * 4 + c, none⟩ = (exP p)[c]? := by
    intro m
    induction m with
    | nil => intro k _; exact ⟨[], rfl, fun p hp => by simp at hp, fun _ _ _ i p hp => by simp at hp⟩
    | cons y r ih =>
      intro k hm
      obtain ⟨ps, h1, h2, h3⟩ := ih (k + 1) (fun i x hx => by rw [show k + 1 + i = k + (i + 1) from by omega]; exact hm (i + 1) x (by simpa using hx))
      obtain ⟨b, o, v, hbo, _, _, c0, c1, c2, c3, f1, f2, f3, hv⟩ := h.get (hm 0 y rfl)
      refine ⟨(y, v) :: ps, by simp [h1], fun p hp => ?_, fun b' o' hb i p hp c hc => ?_⟩
      · rcases List.mem_cons.1 hp with rfl | hp
        · exact ⟨⟨f1, f2, f3⟩, hv⟩
        · exact h2 p hp
      · cases i with
        | zero =>
          simp only [List.getElem?_cons_zero, Option.some.injEq] at hp
          subst hp
          rw [hbo] at hb
          simp only [Option.some.injEq, Addr.mk.injEq, and_true] at hb
          obtain ⟨rfl, rfl⟩ := hb
          rw [Nat.add_zero] at c0 c1 c2 c3 ⊢
          match c, hc with
          | 0, _ => exact c0
          | 1, _ => exact c1
          | 2, _ => exact c2
          | 3, _ => exact c3
          | c + 4, hc => omega
        | succ i =>
          have := h3 b' o' hb i p (by simpa using hp) c hc
          rw [show k + 1 + i = k + (i + 1) from by omega] at this
          exact this
  obtain ⟨ps, h1, h2, h3⟩ := key l 0 (fun i x hx => by rw [Nat.zero_add]; exact hx)
  exact ⟨ps, h1, h2, fun b o hb i p hp c hc => by have := h3 b o hb i p hp c hc; rwa [Nat.zero_add] at this⟩
/-- All the cells of such a list, from its address on. -/
theorem flat_cells {w : World} {b o : Nat} {ps : List (Ex × Value)} (h : ∀ (i : Nat) (p : Ex × Value), ps[i]? = some p → ∀ c, c < 4 → w.cell? ⟨b, o + i * 4 + c, none⟩ = (exP p)[c]?) :
    ∀ j u, (ps.flatMap exP)[j]? = some u → w.cell? ((⟨b, o, none⟩ : Addr).add j) = some u := by
  intro j u hj
  have hlt : j < (ps.flatMap exP).length := (List.getElem?_eq_some_iff.1 hj).1
  rw [flat_len exP_len] at hlt
  have hi : j / 4 < ps.length := by omega
  have hp := List.getElem?_eq_getElem hi
  have h1 := flat_at exP_len [] hp (j := j % 4) (by omega)
  rw [List.append_nil, show j / 4 * 4 + j % 4 = j from by omega, hj] at h1
  have h2 := h _ _ hp (j % 4) (by omega)
  rw [show o + j / 4 * 4 + j % 4 = o + j from by omega, ← h1] at h2
  unfold Addr.add
  split
  · rename_i h0; subst h0; simpa using h2
  · simpa using h2
theorem exP_one (p : Ex × Value) (hp : p.2.oneCell' = true) : ∀ u, u ∈ exP p → u.oneCell' = true := by
  intro u hu
  simp only [exP, List.mem_cons, List.not_mem_nil, or_false] at hu
  rcases hu with rfl | rfl | rfl | rfl
  · rfl
  · rfl
  · rfl
  · exact hp
theorem slice_one {w : World} {lo : Nat} {t : Bool} {l : List Ex} {v : Value} (h : RdExV w lo t l v) : v.oneCell' = true := by
  obtain ⟨a, cap, rfl, _⟩ := h
  rfl
theorem flat_one {w : World} {lo : Nat} {t : Bool} {ps : List (Ex × Value)} (h : ∀ p, p ∈ ps → ExFine p.1 ∧ RdExV w lo t p.1.args p.2) : ∀ u ∈ ps.flatMap exP, u.oneCell' = true := by
  intro u hu
  obtain ⟨p, hp, hu⟩ := List.mem_flatMap.1 hu
  exact exP_one p (slice_one (h p hp).2) u hu
/-- Rows of what is worked out read as lists. -/
theorem RowOf.rdEx {w : World} {g cap : Nat} {cur : Array Value} {ps : List (Ex × Value)} (hr : RowOf exP 4 cur ps) (hg : w.heap[g]? = some (.cells cur 53 (0, 0)))
    (hps : ∀ p, p ∈ ps → ExFine p.1 ∧ RdExV w 0 false p.1.args p.2) (h1 : ps.length ≤ cap) (h2 : cap ≤ maxLen) (h3 : fitsR ps.length 56) : RdExV w 0 false (ps.map (·.1)) (.slice (some ⟨g, 0, none⟩) ps.length cap) := by
  have hlt := lt_of_block hg
  refine ⟨_, _, by rw [List.length_map], by rw [List.length_map]; exact h3, by rw [List.length_map]; exact h1, h2, RdExs.mk (fun {i x} hx => ?_), fun h => by cases h⟩
  rw [List.getElem?_map] at hx
  obtain ⟨p, hp, rfl⟩ := Option.map_eq_some_iff.1 hx
  obtain ⟨⟨k1, k2, k3⟩, hv⟩ := hps p (List.mem_of_getElem? hp)
  have hc : ∀ c u, c < 4 → (exP p)[c]? = some u → w.cell? ⟨g, 0 + (0 + i) * 4 + c, none⟩ = some u := fun c u hc hu => by rw [blk_cell hg, Nat.zero_add, Nat.zero_add, hr i p hp c hc]; exact hu
  obtain ⟨⟨op, n, nm, args⟩, u⟩ := p
  exact ⟨g, 0, _, _, _, _, rfl, Nat.zero_le _, hlt, hc 0 _ (by omega) rfl, hc 1 _ (by omega) rfl, hc 2 _ (by omega) rfl, hc 3 _ (by omega) rfl, RdEx.shut k1 k2 k3 hv⟩
/-- What an append behind nothing leaves. -/
theorem own_copy {W w : World} {base e sz m : Nat} {xs : List Value} {v : Value} (h : w.ownsRow base e sz v (0 + m) ([] ++ xs)) (hg : W.grownBy w (Value.slice none 0 0).ownBlock) (hm : 0 < m) :
    ∃ g cap, v = .slice (some ⟨g, 0, none⟩) m cap ∧ w.ownsRow base e sz (.slice (some ⟨g, 0, none⟩) m cap) m xs ∧ Ext W w := by
  rw [Nat.zero_add, List.nil_append] at h
  have hE : Ext W w := ⟨hg.os, hg.tape, hg.output, hg.size, fun k hk _ => hg.block k hk (by simp [Value.ownBlock])⟩
  rcases h.2 with ⟨_, h0⟩ | ⟨g, cap, cur, rfl, h2⟩
  · omega
  · exact ⟨g, cap, rfl, h, hE⟩
/-- Four cells written: another element. -/
def set4 (cur : Array Value) (o : Nat) (v0 v1 v2 v3 : Value) : Array Value := (((cur.setIfInBounds o v0).setIfInBounds (o + 1) v1).setIfInBounds (o + 2) v2).setIfInBounds (o + 3) v3
theorem set4_size (cur : Array Value) (o : Nat) (v0 v1 v2 v3 : Value) : (set4 cur o v0 v1 v2 v3).size = cur.size := by simp [set4]
theorem RowOf.set4 {cur : Array Value} {ps : List (Ex × Value)} (h : RowOf exP 4 cur ps) {k : Nat} {q : Ex × Value} {v0 v1 v2 v3 : Value} (hk : k < ps.length) (hs : k * 4 + 4 ≤ cur.size) (hq : exP q = [v0, v1, v2, v3]) :
    RowOf exP 4 (set4 cur (k * 4) v0 v1 v2 v3) (ps.set k q) := by
  intro i y hy c hc
  by_cases hik : i = k
  · subst hik
    rw [List.getElem?_set_self hk] at hy
    simp only [Option.some.injEq] at hy
    subst hy
    rw [hq]
    unfold Go.Proofs.Ytjdficgejjkaoaa.set4
    match c, hc with
    | 0, _ => simp [Array.getElem?_setIfInBounds]; omega
    | 1, _ => simp [Array.getElem?_setIfInBounds]; omega
    | 2, _ => simp [Array.getElem?_setIfInBounds]; omega
    | 3, _ => simp [Array.getElem?_setIfInBounds]; omega
    | c + 4, hc => omega
  · rw [List.getElem?_set_ne (fun e => hik e.symm)] at hy
    unfold Go.Proofs.Ytjdficgejjkaoaa.set4
    simp only [Array.getElem?_setIfInBounds]
    rw [if_neg (by omega), if_neg (by omega), if_neg (by omega), if_neg (by omega)]
    exact h i y hy c hc
theorem blk_set4 {w : World} {b : Nat} {cs : Array Value} {t : TypeId} (h : w.heap[b]? = some (.cells cs t (0, 0))) (o : Nat) (v0 v1 v2 v3 : Value) :
    ((((w.setCell ⟨b, o, none⟩ v0).setCell ⟨b, o + 1, none⟩ v1).setCell ⟨b, o + 2, none⟩ v2).setCell ⟨b, o + 3, none⟩ v3).heap[b]? = some (.cells (set4 cs o v0 v1 v2 v3) t (0, 0)) :=
  blk_set (blk_set (blk_set (blk_set h _ _) _ _) _ _) _ _
theorem chg_set4 (w : World) (b o : Nat) (v0 v1 v2 v3 : Value) : Chg (fun q => q = b) w ((((w.setCell ⟨b, o, none⟩ v0).setCell ⟨b, o + 1, none⟩ v1).setCell ⟨b, o + 2, none⟩ v2).setCell ⟨b, o + 3, none⟩ v3) := by
  iterate 4 (refine Chg.setCell ?_ _ _ (.inl (Eq.refl b)))
  exact Chg.refl _ _
end Go.Proofs.Ytjdficgejjkaoaa
