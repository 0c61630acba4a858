/- Names and what is an instant ago, whatever is written elsewhere. -/
import Derived.Test.YtjdficgejjkaoaaLives
namespace Go.Proofs.Ytjdficgejjkaoaa
open Go.RowKit
set_option linter.unusedVariables false
set_option linter.unusedSimpArgs false

/-- It holds whatever is written into the blocks of S. -/
def StS (S : Nat → Prop) (R : World → Prop) (W : World) : Prop := ∀ X, Chg S W X → R X
theorem StS.ext {S : Nat → Prop} {R : World → Prop} {W Y : World} (h : StS S R W) (he : Ext W Y) : StS S R Y := fun X hX => h X ((he.mono (fun _ _ h => h.elim)).trans hX)
theorem StS.at {S : Nat → Prop} {R : World → Prop} {W : World} (h : StS S R W) : R W := h W (Chg.refl _ _)
theorem two14_S (S : Nat → Prop) (o : Int) (x y : Ex) (u v : Value) (w : World) (ho : isU8 o) (hB : ∀ q, S q → q < w.heap.size) (hx : StS S (fun X => ExA X x u) w) (hy : StS S (fun X => ExA X y v) w) : Calls Try.prog 51 #[.int .u8 o, u, v] w fun e w' => ∃ r, e = .returned r ∧ StS S (fun X => ExA X (opE o [x, y]) r) w' ∧ Ext w w' := by
  have HX := Lib.hid hx
  have HY := Lib.hid hy
  obtain ⟨a, rfl, _, _, _, hav⟩ := hx.at
  obtain ⟨b, rfl, _, _, _, hbv⟩ := hy.at
  obtain ⟨aa, ac, rfl, _⟩ := hav.form
  obtain ⟨ba, bc, rfl, _⟩ := hbv.form
  clear hav hbv hx hy
  go_enter Try.func51, Try.ntmps51
  go_wp2_with fail
  generalize hw1 : w.alloc _ = w1
  obtain ⟨s1, b1, e1⟩ := chain1 hw1
  generalize hw2 : w1.alloc _ = w2
  obtain ⟨s2, b2, e2⟩ := chain1 hw2
  generalize hw3 : w2.alloc _ = w3
  obtain ⟨s3, b3, e3⟩ := chain1 hw3
  generalize hw4 : w3.alloc _ = w4
  obtain ⟨s4, b4, e4⟩ := chain1 hw4
  have E := ((e1.trans e2).trans e3).trans e4
  have B3 := Ext.heap e4 b3
  rw [s2, s1] at B3
  have c0 := (blk_cell B3 0).trans rfl
  have c1 := (blk_cell B3 1).trans rfl
  have c2 := (blk_cell B3 2).trans rfl
  have c3 := (blk_cell B3 3).trans rfl
  simp only [List.getElem?_toArray, List.getElem?_cons_zero, List.getElem?_cons_succ] at c0 c1 c2 c3
  rw [show w3.heap.size = w.heap.size + 1 + 1 + 1 from by omega] at b4
  refine bodyPost_ret (v := .agg #[.int .u8 o, .int .i64 0, .string ⟨#[]⟩, .slice (some ⟨w.heap.size + 1 + 1 + 1, 0, none⟩) 2 2]) ?_ rfl ⟨_, rfl, fun X hX => ?_, E⟩
  · simp [results, Try.results51, go_sem, c0, c1, c2, c3]
  · have b5 := hX.heap b4 (fun h => by have := hB _ h; omega)
    exact exa_op ho (row2 b5 ((HX.out.ext E) X hX) ((HY.out.ext E) X hX))
theorem pre14_S (S : Nat → Prop) (x : Ex) (u : Value) (w : World) (hB0 : ∀ q, S q → q < w.heap.size) (hx : StS S (fun X => ExA X x u) w) : Calls Try.prog 23 #[u] w fun e w' => ∃ r, e = .returned r ∧ StS S (fun X => ExA X (thenE noughtE (preE x)) r) w' ∧ Ext w w' := by
  have HX := Lib.hid hx
  obtain ⟨a, rfl, _, _, _, hav⟩ := hx.at
  obtain ⟨aa, ac, rfl, _⟩ := hav.form
  clear hav
  go_enter Try.func23, Try.ntmps23
  go_wp2_with fail
  generalize hw1 : w.alloc _ = w1
  obtain ⟨s1, b1, e1⟩ := chain1 hw1
  generalize hw2 : w1.alloc _ = w2
  obtain ⟨s2, b2, e2⟩ := chain1 hw2
  generalize hw3 : w2.alloc _ = w3
  obtain ⟨s3, b3, e3⟩ := chain1 hw3
  have E := (e1.trans e2).trans e3
  rw [s1] at b2
  have hB : ∀ q, (S q ∨ q = w.heap.size + 1) → q < w3.heap.size := fun q h => by
    rcases h with h | h
    · have := hB0 q h; omega
    · omega
  have hst : StS (fun q => S q ∨ q = w.heap.size + 1) (fun X => ExA X (preE x) (.agg #[.int .u8 19, .int .i64 0, .string ⟨#[]⟩, .slice (some ⟨w2.heap.size, 0, none⟩) 1 1])) w3 := fun X hX =>
    exa_op (by unfold isU8; omega) (row1 (hX.heap b3 (fun h => by
      rcases h with h | h
      · have := hB0 _ h; omega
      · omega)) (HX.out X (((E.mono (fun _ _ h => h.elim)).trans hX).mono (fun q hq h => by
        rcases h with h | h
        · exact h
        · omega))))
  rw [show w2.heap.size = w.heap.size + 1 + 1 from by omega] at hst
  have B2 := Ext.heap e3 b2
  clear hw1 hw2 hw3
  refine (two14_S (fun q => S q ∨ q = w.heap.size + 1) 18 _ _ _ _ w3 (by unfold isU8; omega) hB (fun X _ => exa_nought X) hst).mono ?_
  rintro e w4 ⟨r, rfl, hr, E4⟩
  obtain ⟨ra, rfl, _, _, _, hrv⟩ := hr.at
  obtain ⟨rb, rc, rfl, _⟩ := hrv.form
  have B4 := Ext.heap E4 B2
  have c0 := (blk_cell B4 0).trans rfl
  have c1 := (blk_cell B4 1).trans rfl
  have c2 := (blk_cell B4 2).trans rfl
  have c3 := (blk_cell B4 3).trans rfl
  simp only [List.getElem?_toArray, List.getElem?_cons_zero, List.getElem?_cons_succ] at c0 c1 c2 c3
  have f0 := blk_free B4 0
  have f1 := blk_free B4 1
  have f2 := blk_free B4 2
  have f3 := blk_free B4 3
  have HR := Lib.hid hr
  clear hr hrv hst
  generalize hy : opE 18 [noughtE, preE x] = y at *
  have C5 := chg_sets4 w4 (w.heap.size + 1) (.int .u8 y.op) (.int .i64 y.n) (.string y.name) (.slice rb y.args.length rc)
  have B5 := blk_set (blk_set (blk_set (blk_set B4 0 (.int .u8 y.op)) 1 (.int .i64 y.n)) 2 (.string y.name)) 3 (.slice rb y.args.length rc)
  have k0 := blk_cell B5 0
  have k1 := blk_cell B5 1
  have k2 := blk_cell B5 2
  have k3 := blk_cell B5 3
  simp at k0 k1 k2 k3
  go_wp2_with fail
  refine bodyPost_ret (v := .agg #[.int .u8 y.op, .int .i64 y.n, .string y.name, .slice rb y.args.length rc]) ?_ rfl ⟨_, rfl, ?_, Ext.then (E.trans E4) C5 (fun b hb => by omega)⟩
  · simp [results, Try.results23, go_sem, k0, k1, k2, k3]
  · rw [show thenE noughtE (preE x) = y from hy]
    exact fun X hX => HR.out X ((C5.mono (fun _ _ h => .inr h)).trans (hX.mono (fun _ _ h => .inl h)))
end Go.Proofs.Ytjdficgejjkaoaa
