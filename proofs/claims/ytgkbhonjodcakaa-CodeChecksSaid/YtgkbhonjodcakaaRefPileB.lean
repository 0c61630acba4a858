/- A pile that is copied, and one more upon it. -/
import Derived.Test.YtgkbhonjodcakaaRefOneB
import Derived.Test.YtgkbhonjodcakaaJ17
import Derived.Test.YtgkbhonjodcakaaJF
import Derived.Maps.AppendAt
namespace Go.Proofs.Ytgkbhonjodcakaa
open Go.RowKit
set_option linter.unusedVariables false
set_option linter.unusedSimpArgs false

def TyO (w : World) (base : Nat) (l : List Int) (v : Value) : Prop := w.ownsRow base 27 1 v l.length (l.map (Value.int .u8))
theorem tyO_one {l : List Int} : ∀ u ∈ l.map (Value.int .u8), u.oneCell' = true := by
  intro u hu
  obtain ⟨x, _, rfl⟩ := List.mem_map.1 hu
  rfl
theorem tyApp {w : World} {base : Nat} {l m : List Int} {v : Value} {b n c : Nat} (hO : TyO w base l v) (hb : base ≤ w.heap.size) (hR : ∀ i x, m[i]? = some x → w.cell? ⟨b, i, none⟩ = some (.int .u8 x)) (hn : n = m.length) (hl : l.length + m.length ≤ 1000000) (ty : TypeId) :
    ∃ v' w', (Builtin.append_ #[58, 58] ty #[v, .slice (some ⟨b, 0, none⟩) n c]).run Try.prog w = .ok v' w' ∧ TyO w' base (l ++ m) v' ∧ Chg (fun q => v.ownBlock = some q) w w' := by
  subst hn
  obtain ⟨ti, hinf, hz0, hz1, hz2⟩ := info_parts infoTy
  obtain ⟨v', w', hr, h2, h3, _, _⟩ := run_append_own_at (P := Try.prog) (w := w) base 58 ty 27 ti _ 1 1 Try.underlying58 hinf hz0 hz1 hz2 rfl (by decide) v l.length (l.map (Value.int .u8)) hO ⟨b, 0, none⟩ m.length c (m.map (Value.int .u8)) (by simp) (fun j u hj => by
    rw [is_add, Nat.zero_add]
    rw [List.getElem?_map] at hj
    cases hx : m[j]? with
    | none => rw [hx] at hj; cases hj
    | some x =>
      rw [hx] at hj
      simp only [Option.map_some, Option.some.injEq] at hj
      subst hj
      exact hR j x hx) tyO_one (by unfold maxLen; omega) (by omega) hb
  refine ⟨v', w', hr, ?_, Chg.of_grownBy h3⟩
  unfold TyO
  rw [List.length_append, List.map_append]
  exact h2
theorem TyO.ext {w w' : World} {base : Nat} {l : List Int} {v : Value} (h : TyO w base l v) (he : Ext w w') : TyO w' base l v := by
  refine ⟨h.1, ?_⟩
  rcases h.2 with ⟨h0, h1⟩ | ⟨g, cap, cur, h1, h2, h3, h4⟩
  · exact .inl ⟨h0, h1⟩
  · exact .inr ⟨g, cap, cur, h1, h2, (he.block g (lt_of_block h3) (fun h => h)).trans h3, h4⟩
theorem TyO.form {w : World} {base : Nat} {l : List Int} {v : Value} (h : TyO w base l v) : ∃ a cap, v = .slice a l.length cap := by
  rcases h.2 with ⟨h0, h1⟩ | ⟨g, cap, cur, h1, _⟩
  · exact ⟨none, 0, by rw [h0, h1]⟩
  · exact ⟨_, _, h1⟩
theorem TyO.pile {w : World} {base : Nat} {l : List Int} {v : Value} (h : TyO w base l v) (h0 : 0 < l.length) : ∃ g c, v = .slice (some ⟨g, 0, none⟩) l.length c ∧ PileV w l v := by
  have hown := h
  rcases h.2 with ⟨h1, h2⟩ | ⟨g, cap, cur, rfl, _, hcur, h2, _⟩
  · omega
  · refine ⟨g, cap, rfl, .inr ⟨g, cap, rfl, h2, lt_of_block hcur, fun i x hx => ?_⟩⟩
    have hil : i < l.length := (List.getElem?_eq_some_iff.1 hx).1
    have c0 := World.ownsRow.cellAt hown i (by omega)
    rw [c0, List.getElem?_map, hx]
    rfl
theorem ty_append_none {t e : TypeId} {i : TypeInfo} (ht : Try.prog.underlying t = some (.slice e)) (hi : Try.prog.info? e = some i) (a : Option Addr) (cap : Nat) (ty : TypeId) (w : World) : (Builtin.append_ #[t, t] ty #[.slice none 0 0, .slice a 0 cap]).run Try.prog w = .ok (.slice none 0 0) w := by
  cases a <;> simp [Builtin.append_, run_underlying ht, sizeOf, typeInfo, hi, Builtin.lenOf, Builtin.firstCells, storeCells, loadCells, loadCellsFrom]
theorem pile_copy {w : World} {l : List Int} {a : Option Addr} {n cap k : Nat} (h : PileV w l (.slice a n cap)) (hn : n = l.length) (hk : k ≤ l.length) (hl : l.length ≤ 100000) (c : Nat) (t : Int) (ty1 ty2 : TypeId) :
    ∃ a1 c1 w1, (Builtin.append_ #[58, 58] ty1 #[.slice none 0 0, .slice a k c]).run Try.prog w = .ok (.slice a1 k c1) w1 ∧
      ∃ g c3 w3, (Builtin.append_ #[58, 58] ty2 #[.slice a1 k c1, .slice (some ⟨w1.heap.size, 0, none⟩) 1 1]).run Try.prog (w1.alloc (.cells #[.int .u8 t] 27)) = .ok (.slice (some ⟨g, 0, none⟩) (k + 1) c3) w3 ∧ PileV w3 (l.take k ++ [t]) (.slice (some ⟨g, 0, none⟩) (k + 1) c3) ∧ Ext w w3 := by
  subst hn
  have hlt : (l.take k).length = k := by rw [List.length_take]; omega
  have key : ∃ v1 w1, (Builtin.append_ #[58, 58] ty1 #[.slice none 0 0, .slice a k c]).run Try.prog w = .ok v1 w1 ∧ TyO w1 w.heap.size (l.take k) v1 ∧ Ext w w1 := by
    cases a with
    | none =>
      obtain ⟨_, _, e, _, hno, _⟩ := h.form
      simp only [Value.slice.injEq] at e
      obtain ⟨rfl, _, rfl⟩ := e
      obtain rfl : k = 0 := by have := (hno rfl).1; omega
      obtain ⟨ti, hinf, _⟩ := info_parts infoTy
      refine ⟨_, w, ty_append_none Try.underlying58 hinf _ _ _ _, ?_, Chg.refl _ _⟩
      rw [List.take_zero]
      exact World.ownsRow_nil _ _ _ _
    | some ad =>
      obtain ⟨_, _, e, _, _, hso⟩ := h.form
      simp only [Value.slice.injEq] at e
      obtain ⟨rfl, _, rfl⟩ := e
      obtain ⟨g, rfl⟩ := hso ad rfl
      obtain ⟨v1, w1, h1, h2, h3⟩ := tyApp (w := w) (base := w.heap.size) (l := []) (m := l.take k) (v := .slice none 0 0) (b := g) (n := k) (c := c) (World.ownsRow_nil _ _ _ _) (Nat.le_refl _) (fun i x hx => by
        rw [List.getElem?_take] at hx
        split at hx
        · exact h.get hx
        · cases hx) hlt.symm (by simp [hlt]; omega) ty1
      exact ⟨v1, w1, h1, h2, h3.mono (fun q _ h => by cases h)⟩
  obtain ⟨v1, w1, hr1, hO1, hE1⟩ := key
  obtain ⟨a1, c1, rfl⟩ := hO1.form
  rw [hlt] at hr1
  refine ⟨a1, c1, w1, hr1, ?_⟩
  have ea : Ext w1 (w1.alloc (.cells #[.int .u8 t] 27)) := (Chg.refl _ _).alloc _
  have hO2 : TyO (w1.alloc (.cells #[.int .u8 t] 27)) w.heap.size (l.take k) (.slice a1 (l.take k).length c1) := hO1.ext ea
  obtain ⟨v3, w3, hr3, hO3, hC3⟩ := tyApp (m := [t]) (b := w1.heap.size) (n := 1) (c := 1) hO2 (by have := hE1.size; simp; omega) (fun i x hx => by
    cases i with
    | zero =>
      simp only [List.getElem?_cons_zero, Option.some.injEq] at hx
      subst hx
      exact World.cell?_alloc_new _ _ _ _
    | succ j => simp at hx) rfl (by simp [hlt]; omega) ty2
  have hlen : (l.take k ++ [t]).length = k + 1 := by rw [List.length_append, hlt]; rfl
  obtain ⟨g, c3, rfl, hpv⟩ := hO3.pile (by omega)
  rw [hlt] at hr3
  rw [hlen] at hr3 hpv
  refine ⟨g, c3, w3, hr3, hpv, Ext.then (hE1.trans ea) hC3 (fun q hq => ?_)⟩
  have := (World.ownsRow.lt hO1 q (by simpa [Value.ownBlock] using hq)).1
  omega
end Go.Proofs.Ytgkbhonjodcakaa
