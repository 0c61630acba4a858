/- The chapter's program. -/
import Derived.Test.YtjdficgejjkaoaaLin
import Derived.Test.YtjdficgejjkaoaaTree
import Derived.Test.YtjdficgejjkaoaaRowF
import Derived.Test.YtjdficgejjkaoaaNChk
import Derived.Deep.Cut
namespace Go.Proofs.Ytjdficgejjkaoaa
open Go.RowKit
set_option linter.unusedVariables false
set_option linter.unusedSimpArgs false

theorem chain1 {w w0 : World} {o : Obj} (h : w.alloc o = w0) : w0.heap.size = w.heap.size + 1 ∧ w0.heap[w.heap.size]? = some o ∧ Ext w w0 := by
  subst h
  exact ⟨by simp, World.alloc_heap_new w o, (Chg.refl _ _).alloc _⟩
def sS : ByteArray := ⟨#[115]⟩
def sT : ByteArray := ⟨#[116]⟩
def sU : ByteArray := ⟨#[117]⟩
def sX : ByteArray := ⟨#[120]⟩
def sNo : ByteArray := ⟨#[]⟩
def nmE (s : ByteArray) : Ex := .mk 3 0 s []
def opE (o : Int) (l : List Ex) : Ex := .mk o 0 sNo l
def noughtE : Ex := .mk 1 0 sNo []
def addE (x y : Ex) : Ex := opE 6 [x, y]
def preE (x : Ex) : Ex := opE 19 [x]
def thenE (x y : Ex) : Ex := opE 18 [x, y]
def bodyS : Ex := thenE noughtE (addE (preE (nmE sS)) (nmE sX))
def flowS : FlD := ⟨sS, 1, 1, 0, bodyS⟩
def flowT : FlD := ⟨sT, 1, 2, 0, nmE sS⟩
def flowU : FlD := ⟨sU, 1, 1, 0, addE (nmE sT) (nmE sX)⟩
def knownP : PrD := ⟨2, [⟨sX, 1, 1⟩], [flowS, flowT, flowU], [sU]⟩
theorem exa_nm (W : World) (s : ByteArray) (hs : s.size ≤ maxLen) : ExA W (nmE s) (.agg #[.int .u8 3, .int .i64 0, .string s, .slice none 0 0]) := exa_leaf W 3 0 s (by unfold isU8; omega) (by unfold isI64; omega) hs
theorem sz1 (c : UInt8) : (⟨#[c]⟩ : ByteArray).size ≤ maxLen := by unfold maxLen; simp [ByteArray.size]
theorem exa_nought (W : World) : ExA W noughtE (.agg #[.int .u8 1, .int .i64 0, .string ⟨#[]⟩, .slice none 0 0]) := exa_leaf W 1 0 sNo (by unfold isU8; omega) (by unfold isI64; omega) (by unfold sNo maxLen; simp [ByteArray.size])
theorem exa_op {W : World} {o : Int} {l : List Ex} {v : Value} (h1 : isU8 o) (h : RdExV W 0 false l v) : ExA W (opE o l) (.agg #[.int .u8 o, .int .i64 0, .string ⟨#[]⟩, v]) := exa_mk (s := sNo) h1 (by unfold isI64; omega) (by unfold sNo maxLen; simp [ByteArray.size]) h
def RetA (x : Ex) (w : World) (e : Ending) (w' : World) : Prop := ∃ u, e = .returned u ∧ ExA w' x u ∧ Ext w w'
theorem name14_any (s : ByteArray) (w : World) : Calls Try.prog 22 #[.string s] w fun e w' => e = .returned (.agg #[.int .u8 3, .int .i64 0, .string s, .slice none 0 0]) ∧ Ext w w' := by
  have e0 : ∀ o, Ext w (w.alloc o) := fun o => (Chg.refl _ _).alloc _
  go_enter Try.func22, Try.ntmps22
  go_wp2_with fail
  refine bodyPost_ret (v := .agg #[.int .u8 3, .int .i64 0, .string s, .slice none 0 0]) ?_ rfl ⟨rfl, e0 _⟩
  simp [results, Try.results22, go_sem]
theorem two14_any (o : Int) (x y : Ex) (u v : Value) (w : World) (ho : isU8 o) (hx : ExA w x u) (hy : ExA w y v) : Calls Try.prog 51 #[.int .u8 o, u, v] w (RetA (opE o [x, y]) w) := by
  have HX := Lib.hid hx
  have HY := Lib.hid hy
  obtain ⟨a, rfl, _, _, _, hav⟩ := hx
  obtain ⟨b, rfl, _, _, _, hbv⟩ := hy
  obtain ⟨aa, ac, rfl, _⟩ := hav.form
  obtain ⟨ba, bc, rfl, _⟩ := hbv.form
  clear hav hbv
  go_enter Try.func51, Try.ntmps51
  go_wp2_with fail
  generalize hw1 : w.alloc _ = w1
  obtain ⟨s1, b1, e1⟩ := chain1 hw1
  generalize hw2 : w1.alloc _ = w2
  obtain ⟨s2, b2, e2⟩ := chain1 hw2
  generalize hw3 : w2.alloc _ = w3
  obtain ⟨s3, b3, e3⟩ := chain1 hw3
  generalize hw4 : w3.alloc _ = w4
  obtain ⟨s4, b4, e4⟩ := chain1 hw4
  have E := ((e1.trans e2).trans e3).trans e4
  have B3 := Ext.heap e4 b3
  rw [s2, s1] at B3
  have c0 := (blk_cell B3 0).trans rfl
  have c1 := (blk_cell B3 1).trans rfl
  have c2 := (blk_cell B3 2).trans rfl
  have c3 := (blk_cell B3 3).trans rfl
  simp only [List.getElem?_toArray, List.getElem?_cons_zero, List.getElem?_cons_succ] at c0 c1 c2 c3
  rw [show w3.heap.size = w.heap.size + 1 + 1 + 1 from by omega] at b4
  have hrow := row2 b4 (HX.out.ext E) (HY.out.ext E)
  refine bodyPost_ret (v := .agg #[.int .u8 o, .int .i64 0, .string ⟨#[]⟩, .slice (some ⟨w.heap.size + 1 + 1 + 1, 0, none⟩) 2 2]) ?_ rfl ⟨_, rfl, exa_op ho hrow, E⟩
  simp [results, Try.results51, go_sem, c0, c1, c2, c3]
theorem fl_rd {W : World} {b : Nat} {cur : Array Value} {ps : List (FlD × Value)} (hb : W.heap[b]? = some (.cells cur 55 (0, 0))) (hr : RowOf flP 8 cur ps) (hn : ps.length ≤ 1000) (hp : ∀ p, p ∈ ps → FlFine p.1 ∧ RdExV W 0 false p.1.body.args p.2) : RdFlV W 0 false (ps.map (·.1)) (.slice (some ⟨b, 0, none⟩) ps.length ps.length) :=
  RowOf.rdFl hr hb (Chg.refl _ _) hp (Nat.le_refl _) (by unfold maxLen; omega) (by unfold fitsR; omega)
theorem in1_rd {W : World} {b : Nat} (h : W.heap[b]? = some (.cells #[.string ⟨#[120]⟩, .int .u8 1, .int .i64 1] 59 (0, 0))) : RdInV W 0 false [(⟨sX, 1, 1⟩ : InD)] (.slice (some ⟨b, 0, none⟩) 1 1) := by
  have hl := lt_of_block h
  refine ⟨some ⟨b, 0, none⟩, 1, rfl, by simp [fitsR], Nat.le_refl _, by decide, fun i x hx' => ?_, fun h => by cases h⟩
  match i, hx' with
  | 0, hx' =>
    simp only [List.getElem?_cons_zero, Option.some.injEq] at hx'
    subst hx'
    exact ⟨sz1 _, by unfold isU8; simp, by unfold isI64; simp, b, 0, rfl, Nat.zero_le _, hl, (blk_cell h 0).trans rfl, (blk_cell h 1).trans rfl, (blk_cell h 2).trans rfl⟩
  | n + 1, hx' => simp at hx'
theorem str1_rd {W : World} {b : Nat} {s : ByteArray} (hs : s.size ≤ maxLen) (h : W.heap[b]? = some (.cells #[.string s] 9 (0, 0))) : RdStrV W 0 false [s] (.slice (some ⟨b, 0, none⟩) 1 1) := by
  have hl := lt_of_block h
  refine ⟨some ⟨b, 0, none⟩, 1, rfl, by simp [fitsR], Nat.le_refl _, by decide, fun i x hx' => ?_, fun h => by cases h⟩
  match i, hx' with
  | 0, hx' =>
    simp only [List.getElem?_cons_zero, Option.some.injEq] at hx'
    subst hx'
    exact ⟨hs, b, 0, rfl, Nat.zero_le _, hl, (blk_cell h 0).trans rfl⟩
  | n + 1, hx' => simp at hx'
/-- A flow's value. -/
def FlA (W : World) (f : FlD) (v : Value) : Prop := ∃ u, v = .agg (flC f u).toArray ∧ RdExV W 0 false f.body.args u
theorem flA_mk {W : World} {s : ByteArray} {ty st : Int} {x : Ex} {a b c d : Value} (h : ExA W x (.agg #[a, b, c, d])) : FlA W ⟨s, ty, st, 0, x⟩ (.agg #[.string s, .int .u8 ty, .int .i64 st, .int .i64 0, a, b, c, d]) := by
  obtain ⟨u, e, _, _, _, hu⟩ := h
  simp only [Value.agg.injEq, Array.mk.injEq, List.cons.injEq, and_true] at e
  obtain ⟨rfl, rfl, rfl, rfl⟩ := e
  exact ⟨_, rfl, hu⟩
theorem fine_S : FlFine flowS := by refine ⟨sz1 _, ?_, ?_, ?_, ?_, ?_, ?_⟩ <;> simp [flowS, bodyS, thenE, opE, Ex.op, Ex.n, Ex.name, sNo, isU8, isI64, maxLen, ByteArray.size]
theorem fine_T : FlFine flowT := by refine ⟨sz1 _, ?_, ?_, ?_, ?_, ?_, sz1 _⟩ <;> simp [flowT, nmE, Ex.op, Ex.n, Ex.name, isU8, isI64]
theorem fine_U : FlFine flowU := by refine ⟨sz1 _, ?_, ?_, ?_, ?_, ?_, ?_⟩ <;> simp [flowU, addE, opE, Ex.op, Ex.n, Ex.name, sNo, isU8, isI64, maxLen, ByteArray.size]
def RetPr (p : PrD) (w : World) (e : Ending) (w' : World) : Prop := ∃ cs, e = .returned (.agg cs) ∧ RdPr w' 0 false p cs ∧ Ext w w'
/-- It holds whatever is written into block B. -/
def StB (B : Nat) (R : World → Prop) (W : World) : Prop := ∀ X, Chg (fun q => q = B) W X → R X
theorem StB.ext {B : Nat} {R : World → Prop} {W Y : World} (h : StB B R W) (he : Ext W Y) : StB B R Y := fun X hX => h X ((he.mono (fun _ _ h => h.elim)).trans hX)
theorem StB.at {B : Nat} {R : World → Prop} {W : World} (h : StB B R W) : R W := h W (Chg.refl _ _)
theorem two14_st (B : Nat) (o : Int) (x y : Ex) (u v : Value) (w : World) (ho : isU8 o) (hB : B < w.heap.size) (hx : StB B (fun X => ExA X x u) w) (hy : StB B (fun X => ExA X y v) w) : Calls Try.prog 51 #[.int .u8 o, u, v] w fun e w' => ∃ r, e = .returned r ∧ StB B (fun X => ExA X (opE o [x, y]) r) w' ∧ Ext w w' := by
  have HX := Lib.hid hx
  have HY := Lib.hid hy
  obtain ⟨a, rfl, _, _, _, hav⟩ := hx.at
  obtain ⟨b, rfl, _, _, _, hbv⟩ := hy.at
  obtain ⟨aa, ac, rfl, _⟩ := hav.form
  obtain ⟨ba, bc, rfl, _⟩ := hbv.form
  clear hav hbv hx hy
  go_enter Try.func51, Try.ntmps51
  go_wp2_with fail
  generalize hw1 : w.alloc _ = w1
  obtain ⟨s1, b1, e1⟩ := chain1 hw1
  generalize hw2 : w1.alloc _ = w2
  obtain ⟨s2, b2, e2⟩ := chain1 hw2
  generalize hw3 : w2.alloc _ = w3
  obtain ⟨s3, b3, e3⟩ := chain1 hw3
  generalize hw4 : w3.alloc _ = w4
  obtain ⟨s4, b4, e4⟩ := chain1 hw4
  have E := ((e1.trans e2).trans e3).trans e4
  have B3 := Ext.heap e4 b3
  rw [s2, s1] at B3
  have c0 := (blk_cell B3 0).trans rfl
  have c1 := (blk_cell B3 1).trans rfl
  have c2 := (blk_cell B3 2).trans rfl
  have c3 := (blk_cell B3 3).trans rfl
  simp only [List.getElem?_toArray, List.getElem?_cons_zero, List.getElem?_cons_succ] at c0 c1 c2 c3
  rw [show w3.heap.size = w.heap.size + 1 + 1 + 1 from by omega] at b4
  refine bodyPost_ret (v := .agg #[.int .u8 o, .int .i64 0, .string ⟨#[]⟩, .slice (some ⟨w.heap.size + 1 + 1 + 1, 0, none⟩) 2 2]) ?_ rfl ⟨_, rfl, fun X hX => ?_, E⟩
  · simp [results, Try.results51, go_sem, c0, c1, c2, c3]
  · have b5 := hX.heap b4 (by omega)
    exact exa_op ho (row2 b5 ((HX.out.ext E) X hX) ((HY.out.ext E) X hX))
/-- What each slot holds. -/
def KnΦ (B : Nat) (pv : Value) (i : Nat) (v : Value) (W : World) : Prop :=
  match i with
  | 0 => v = .agg #[.string ⟨#[120]⟩, .int .u8 1, .int .i64 1]
  | 1 => StB B (fun X => RdInV X 0 false knownP.ins v) W
  | 2 => v = .agg #[.int .u8 1, .int .i64 0, .string ⟨#[]⟩, .slice none 0 0]
  | 3 => v = pv ∧ StB B (fun X => ExA X (preE (nmE sS)) v) W
  | 4 => v = .agg #[.int .u8 3, .int .i64 0, .string ⟨#[120]⟩, .slice none 0 0]
  | 5 => StB B (fun X => ExA X (addE (preE (nmE sS)) (nmE sX)) v) W
  | 6 => StB B (fun X => ExA X bodyS v) W
  | 7 => StB B (fun X => FlA X flowS v) W
  | 8 => v = .agg #[.int .u8 3, .int .i64 0, .string ⟨#[115]⟩, .slice none 0 0]
  | 9 => v = .agg #[.string ⟨#[116]⟩, .int .u8 1, .int .i64 2, .int .i64 0, .int .u8 3, .int .i64 0, .string ⟨#[115]⟩, .slice none 0 0]
  | 10 => v = .agg #[.int .u8 3, .int .i64 0, .string ⟨#[116]⟩, .slice none 0 0]
  | 11 => v = .agg #[.int .u8 3, .int .i64 0, .string ⟨#[120]⟩, .slice none 0 0]
  | 12 => StB B (fun X => ExA X (addE (nmE sT) (nmE sX)) v) W
  | 13 => StB B (fun X => FlA X flowU v) W
  | 14 => StB B (fun X => RdFlV X 0 false knownP.flows v) W
  | 15 => StB B (fun X => RdStrV X 0 false knownP.outs v) W
  | 16 => ∃ cs, v = .agg cs ∧ StB B (fun X => RdPr X 0 false knownP cs) W
  | _ => True
theorem KnΦ.ext {B : Nat} {pv : Value} (i : Nat) (v : Value) (X Y : World) (h : KnΦ B pv i v X) (he : Ext X Y) : KnΦ B pv i v Y := by
  unfold KnΦ at h ⊢
  split at h
  · exact h
  · exact h.ext he
  · exact h
  · exact ⟨h.1, h.2.ext he⟩
  · exact h
  · exact h.ext he
  · exact h.ext he
  · exact h.ext he
  · exact h
  · exact h
  · exact h
  · exact h
  · exact h.ext he
  · exact h.ext he
  · exact h.ext he
  · exact h.ext he
  · obtain ⟨cs, h1, h2⟩ := h; exact ⟨cs, h1, h2.ext he⟩
  · trivial
theorem flA_st {B : Nat} {W : World} {f : FlD} {v u : Value} (h : StB B (fun X => FlA X f v) W) (e : v = .agg (flC f u).toArray) : StB B (fun X => RdExV X 0 false f.body.args u) W := fun X hX => by
  obtain ⟨u2, e2, hu⟩ := h X hX
  rw [e] at e2
  simp only [Value.agg.injEq, flC, List.toArray, Array.mk.injEq, List.cons.injEq, and_true, true_and] at e2
  rw [e2]; exact hu
theorem len22 {α : Type} {l : List α} (h : l.length = 22) : ∃ a0 a1 a2 a3 a4 a5 a6 a7 a8 a9 a10 a11 a12 a13 a14 a15 a16 a17 a18 a19 a20 a21, l = [a0, a1, a2, a3, a4, a5, a6, a7, a8, a9, a10, a11, a12, a13, a14, a15, a16, a17, a18, a19, a20, a21] := by
  match l, h with
  | [a0, a1, a2, a3, a4, a5, a6, a7, a8, a9, a10, a11, a12, a13, a14, a15, a16, a17, a18, a19, a20, a21], _ => exact ⟨_, _, _, _, _, _, _, _, _, _, _, _, _, _, _, _, _, _, _, _, _, _, rfl⟩
set_option maxRecDepth 100000 in
set_option maxHeartbeats 8000000 in
theorem known_any (w : World) : Calls Try.prog 31 #[] w (RetPr knownP w) := by
  go_enter Try.func31, Try.ntmps31
  go_wp2_with fail
  generalize hw1 : w.alloc _ = w1
  obtain ⟨s1, b1, e1⟩ := chain1 hw1
  clear hw1
  refine (name14_any _ w1).mono ?_
  rintro e w2 ⟨rfl, e2⟩
  go_upto_region 2 with (fail)
  generalize hw3 : w2.alloc _ = w3
  obtain ⟨s3, b3, e3⟩ := chain1 hw3
  clear hw3
  generalize hw4 : w3.alloc _ = w4
  obtain ⟨s4, b4, e4⟩ := chain1 hw4
  clear hw4
  have hE4 : Ext w w4 := (((e1.trans e2).trans e3).trans e4)
  have hBw : w.heap.size < w2.heap.size ∧ w.heap.size < w4.heap.size := by have := e2.size; have := e3.size; have := e4.size; omega
  have hpre : StB w.heap.size (fun X => ExA X (preE (nmE sS)) (.agg #[.int .u8 19, .int .i64 0, .string ⟨#[]⟩, .slice (some ⟨w2.heap.size, 0, none⟩) 1 1])) w4 := fun X hX => exa_op (by unfold isU8; omega) (row1 (hX.heap (Ext.heap e4 b3) (by omega)) (exa_nm X sS (sz1 _)))
  have HB1 := Lib.hid (Ext.heap ((e2.trans e3).trans e4) b1)
  rw [s3] at b4
  have x1 : ∀ X, Ext w4 X → X.cell? ⟨w2.heap.size + 1, 0, none⟩ = some (.int .u8 19) := fun X hX => (blk_cell (Ext.heap hX b4) 0).trans rfl
  have x2 : ∀ X, Ext w4 X → X.cell? ⟨w2.heap.size + 1, 1, none⟩ = some (.int .i64 0) := fun X hX => (blk_cell (Ext.heap hX b4) 1).trans rfl
  have x3 : ∀ X, Ext w4 X → X.cell? ⟨w2.heap.size + 1, 2, none⟩ = some (.string ⟨#[]⟩) := fun X hX => (blk_cell (Ext.heap hX b4) 2).trans rfl
  have x4 : ∀ X, Ext w4 X → X.cell? ⟨w2.heap.size + 1, 3, none⟩ = some (.slice (some ⟨w2.heap.size, 0, none⟩) 1 1) := fun X hX => (blk_cell (Ext.heap hX b4) 3).trans rfl
  clear b1 b3 b4
  refine region_lin' (n := 17) (m := 5) (Φ := KnΦ w.heap.size (.agg #[.int .u8 19, .int .i64 0, .string ⟨#[]⟩, .slice (some ⟨w2.heap.size, 0, none⟩) 1 1])) [[], [0], [], [], [], [3, 4], [2, 5], [6], [], [8], [], [], [10, 11], [12], [7, 9, 13], [], [1, 14, 15]] (by kernel_rfl) rfl (by simp) (by kernel_rfl) KnΦ.ext ?step ?last
  case step =>
    intro i hi a W hE hs hdf hr hv
    obtain ⟨⟨l⟩, df⟩ := a
    obtain ⟨a0, a1, a2, a3, a4, a5, a6, a7, a8, a9, a10, a11, a12, a13, a14, a15, a16, a17, a18, a19, a20, a21, rfl⟩ := len22 (l := l) (by simpa using hs)
    have h0 := hr 0 (by omega)
    have h1 := hr 1 (by omega)
    have h2 := hr 2 (by omega)
    have h3 := hr 3 (by omega)
    have h4 := hr 4 (by omega)
    simp only [List.getElem?_toArray, List.getElem?_cons_zero, List.getElem?_cons_succ, Option.some.injEq] at h0 h1 h2 h3 h4
    subst h0 h1 h2 h3 h4
    clear hr hs hdf
    have er : Ext W W := Chg.refl _ _
    have hBW : w.heap.size < W.heap.size := by have := hE.size; omega
    match i, hi with
    | 0, _ =>
      clear hv
      refine wpOp_step (o := _) rfl (fun K' hK => ?_)
      go_simp
      exact hK _ _ ⟨.agg #[.string ⟨#[120]⟩, .int .u8 1, .int .i64 1], rfl, rfl, er⟩
    | 1, _ =>
      have d0 : a5 = .agg #[.string ⟨#[120]⟩, .int .u8 1, .int .i64 1] := hv 0 (by simp)
      clear hv
      subst d0
      refine wpOp_step (o := _) rfl (fun K' hK => ?_)
      go_simp
      have E := er.alloc (.cells #[.string ⟨#[120]⟩, .int .u8 1, .int .i64 1] 59)
      exact hK _ _ ⟨.slice (some ⟨W.heap.size, 0, none⟩) 1 1, rfl, fun X hX => in1_rd (hX.heap (heap_alloc_new W _) (by omega)), E⟩
    | 2, _ =>
      clear hv
      refine wpOp_step (o := _) rfl (fun K' hK => ?_)
      go_simp
      exact hK _ _ ⟨(.agg #[.int .u8 1, .int .i64 0, .string ⟨#[]⟩, .slice none 0 0]), rfl, rfl, er⟩
    | 3, _ =>
      clear hv
      have z1 := x1 _ hE
      have z2 := x2 _ hE
      have z3 := x3 _ hE
      have z4 := x4 _ hE
      refine wpOp_step (o := _) rfl (fun K' hK => ?_)
      go_simp
      exact hK _ _ ⟨(.agg #[.int .u8 19, .int .i64 0, .string ⟨#[]⟩, .slice (some ⟨w2.heap.size, 0, none⟩) 1 1]), rfl, ⟨rfl, hpre.ext hE⟩, er⟩
    | 4, _ =>
      clear hv
      refine wpOp_step (o := _) rfl (fun K' hK => ?_)
      go_simp
      refine (name14_any _ W).mono ?_
      rintro e w5 ⟨rfl, E5⟩
      exact hK _ _ ⟨(.agg #[.int .u8 3, .int .i64 0, .string ⟨#[120]⟩, .slice none 0 0]), rfl, rfl, E5⟩
    | 5, _ =>
      have d3 : a8 = (.agg #[.int .u8 19, .int .i64 0, .string ⟨#[]⟩, .slice (some ⟨w2.heap.size, 0, none⟩) 1 1]) ∧ StB w.heap.size (fun X => ExA X (preE (nmE sS)) a8) W := hv 3 (by simp)
      have d4 : a9 = (.agg #[.int .u8 3, .int .i64 0, .string ⟨#[120]⟩, .slice none 0 0]) := hv 4 (by simp)
      clear hv
      obtain ⟨d3, d3x⟩ := d3
      subst d3 d4
      refine wpOp_step (o := _) rfl (fun K' hK => ?_)
      go_simp
      refine (two14_st w.heap.size 6 _ _ _ _ W (by unfold isU8; omega) hBW d3x (fun X _ => exa_nm X sX (sz1 _))).mono ?_
      rintro e w5 ⟨u, rfl, hu, E5⟩
      exact hK _ _ ⟨u, rfl, hu, E5⟩
    | 6, _ =>
      have d2 : a7 = (.agg #[.int .u8 1, .int .i64 0, .string ⟨#[]⟩, .slice none 0 0]) := hv 2 (by simp)
      have d5 : StB w.heap.size (fun X => ExA X (addE (preE (nmE sS)) (nmE sX)) a10) W := hv 5 (by simp)
      clear hv
      subst d2
      refine wpOp_step (o := _) rfl (fun K' hK => ?_)
      go_simp
      refine (two14_st w.heap.size 18 _ _ _ _ W (by unfold isU8; omega) hBW (fun X _ => exa_nought X) d5).mono ?_
      rintro e w5 ⟨u, rfl, hu, E5⟩
      exact hK _ _ ⟨u, rfl, hu, E5⟩
    | 7, _ =>
      have d6 : StB w.heap.size (fun X => ExA X (bodyS) a11) W := hv 6 (by simp)
      clear hv
      have dd := d6
      obtain ⟨u, e, _, _, _, hu⟩ := d6.at
      have hsu : StB w.heap.size (fun X => RdExV X 0 false (bodyS).args u) W := fun X hX => by obtain ⟨u2, e2_, _, _, _, hu2⟩ := d6 X hX; rw [e] at e2_; simp only [Value.agg.injEq, Array.mk.injEq, List.cons.injEq, and_true, true_and] at e2_; rw [e2_]; exact hu2
      subst e
      refine wpOp_step (o := _) rfl (fun K' hK => ?_)
      go_simp
      exact hK _ _ ⟨.agg #[.string ⟨#[115]⟩, .int .u8 1, .int .i64 1, .int .i64 0, .int .u8 (bodyS).op, .int .i64 (bodyS).n, .string (bodyS).name, u], rfl, fun X hX => ⟨u, rfl, hsu X hX⟩, er⟩
    | 8, _ =>
      clear hv
      refine wpOp_step (o := _) rfl (fun K' hK => ?_)
      go_simp
      refine (name14_any _ W).mono ?_
      rintro e w5 ⟨rfl, E5⟩
      exact hK _ _ ⟨(.agg #[.int .u8 3, .int .i64 0, .string ⟨#[115]⟩, .slice none 0 0]), rfl, rfl, E5⟩
    | 9, _ =>
      have d8 : a13 = (.agg #[.int .u8 3, .int .i64 0, .string ⟨#[115]⟩, .slice none 0 0]) := hv 8 (by simp)
      clear hv
      subst d8
      refine wpOp_step (o := _) rfl (fun K' hK => ?_)
      go_simp
      exact hK _ _ ⟨.agg #[.string ⟨#[116]⟩, .int .u8 1, .int .i64 2, .int .i64 0, .int .u8 3, .int .i64 0, .string ⟨#[115]⟩, .slice none 0 0], rfl, rfl, er⟩
    | 10, _ =>
      clear hv
      refine wpOp_step (o := _) rfl (fun K' hK => ?_)
      go_simp
      refine (name14_any _ W).mono ?_
      rintro e w5 ⟨rfl, E5⟩
      exact hK _ _ ⟨(.agg #[.int .u8 3, .int .i64 0, .string ⟨#[116]⟩, .slice none 0 0]), rfl, rfl, E5⟩
    | 11, _ =>
      clear hv
      refine wpOp_step (o := _) rfl (fun K' hK => ?_)
      go_simp
      refine (name14_any _ W).mono ?_
      rintro e w5 ⟨rfl, E5⟩
      exact hK _ _ ⟨(.agg #[.int .u8 3, .int .i64 0, .string ⟨#[120]⟩, .slice none 0 0]), rfl, rfl, E5⟩
    | 12, _ =>
      have d10 : a15 = (.agg #[.int .u8 3, .int .i64 0, .string ⟨#[116]⟩, .slice none 0 0]) := hv 10 (by simp)
      have d11 : a16 = (.agg #[.int .u8 3, .int .i64 0, .string ⟨#[120]⟩, .slice none 0 0]) := hv 11 (by simp)
      clear hv
      subst d10 d11
      refine wpOp_step (o := _) rfl (fun K' hK => ?_)
      go_simp
      refine (two14_st w.heap.size 6 _ _ _ _ W (by unfold isU8; omega) hBW (fun X _ => exa_nm X sT (sz1 _)) (fun X _ => exa_nm X sX (sz1 _))).mono ?_
      rintro e w5 ⟨u, rfl, hu, E5⟩
      exact hK _ _ ⟨u, rfl, hu, E5⟩
    | 13, _ =>
      have d12 : StB w.heap.size (fun X => ExA X (addE (nmE sT) (nmE sX)) a17) W := hv 12 (by simp)
      clear hv
      have dd := d12
      obtain ⟨u, e, _, _, _, hu⟩ := d12.at
      have hsu : StB w.heap.size (fun X => RdExV X 0 false (addE (nmE sT) (nmE sX)).args u) W := fun X hX => by obtain ⟨u2, e2_, _, _, _, hu2⟩ := d12 X hX; rw [e] at e2_; simp only [Value.agg.injEq, Array.mk.injEq, List.cons.injEq, and_true, true_and] at e2_; rw [e2_]; exact hu2
      subst e
      refine wpOp_step (o := _) rfl (fun K' hK => ?_)
      go_simp
      exact hK _ _ ⟨.agg #[.string ⟨#[117]⟩, .int .u8 1, .int .i64 1, .int .i64 0, .int .u8 (addE (nmE sT) (nmE sX)).op, .int .i64 (addE (nmE sT) (nmE sX)).n, .string (addE (nmE sT) (nmE sX)).name, u], rfl, fun X hX => ⟨u, rfl, hsu X hX⟩, er⟩
    | 14, _ =>
      have d7 : StB w.heap.size (fun X => FlA X flowS a12) W := hv 7 (by simp)
      have d9 : a14 = .agg #[.string ⟨#[116]⟩, .int .u8 1, .int .i64 2, .int .i64 0, .int .u8 3, .int .i64 0, .string ⟨#[115]⟩, .slice none 0 0] := hv 9 (by simp)
      have d13 : StB w.heap.size (fun X => FlA X flowU a18) W := hv 13 (by simp)
      clear hv
      obtain ⟨u1, e1_, _⟩ := d7.at
      obtain ⟨u3, e3_, _⟩ := d13.at
      have hu1 := flA_st d7 e1_
      have hu3 := flA_st d13 e3_
      simp only [flC, flowS, flowT, flowU, bodyS, thenE, addE, preE, opE, nmE, Ex.op, Ex.n, Ex.name, List.toArray] at e1_ e3_
      subst e1_ d9 e3_
      refine wpOp_step (o := _) rfl (fun K' hK => ?_)
      go_simp
      have E := er.alloc (.cells ([(flowS, u1), (flowT, .slice none 0 0), (flowU, u3)].flatMap flP).toArray 55)
      have hrd := fun (X : World) (hX : Chg (fun q => q = w.heap.size) _ X) => fl_rd (ps := [(flowS, u1), (flowT, .slice none 0 0), (flowU, u3)]) (hX.heap (S := fun q => q = w.heap.size) (w1 := X) (heap_alloc_new W (.cells ([(flowS, u1), (flowT, .slice none 0 0), (flowU, u3)].flatMap flP).toArray 55)) (by omega)) (fun i x hx c hc => by have := flat_at flP_len [] hx hc; simpa using this) (by simp) (fun q hq => by
        simp only [List.mem_cons, List.not_mem_nil, or_false] at hq
        rcases hq with rfl | rfl | rfl
        · exact ⟨fine_S, (hu1.ext E) X hX⟩
        · exact ⟨fine_T, rd_none X⟩
        · exact ⟨fine_U, (hu3.ext E) X hX⟩)
      exact hK _ _ ⟨.slice (some ⟨W.heap.size, 0, none⟩) 3 3, rfl, hrd, E⟩
    | 15, _ =>
      clear hv
      refine wpOp_step (o := _) rfl (fun K' hK => ?_)
      go_simp
      have E := er.alloc (.cells #[.string ⟨#[117]⟩] 9)
      exact hK _ _ ⟨.slice (some ⟨W.heap.size, 0, none⟩) 1 1, rfl, fun X hX => str1_rd (sz1 _) (hX.heap (heap_alloc_new W _) (by omega)), E⟩
    | 16, _ =>
      have d1 : StB w.heap.size (fun X => RdInV X 0 false knownP.ins a6) W := hv 1 (by simp)
      have d14 : StB w.heap.size (fun X => RdFlV X 0 false knownP.flows a19) W := hv 14 (by simp)
      have d15 : StB w.heap.size (fun X => RdStrV X 0 false knownP.outs a20) W := hv 15 (by simp)
      clear hv
      have HD : Hid (StB w.heap.size (fun X => RdPr X 0 false knownP #[.int .i64 2, a6, a19, a20]) W) := fun X hX => ⟨_, _, _, rfl, by unfold knownP isI64; simp, d1 X hX, d14 X hX, d15 X hX⟩
      obtain ⟨_, _, rfl, _⟩ := d1.at.form
      obtain ⟨_, _, rfl, _⟩ := d14.at.form
      obtain ⟨_, _, rfl, _⟩ := d15.at.form
      refine wpOp_step (o := _) rfl (fun K' hK => ?_)
      go_simp
      exact hK _ _ ⟨_, rfl, ⟨_, rfl, HD.out⟩, er⟩
    | n + 17, hi => omega
  case last =>
    intro a W hE hs hdf hr hv
    obtain ⟨⟨l⟩, df⟩ := a
    obtain ⟨a0, a1, a2, a3, a4, a5, a6, a7, a8, a9, a10, a11, a12, a13, a14, a15, a16, a17, a18, a19, a20, a21, rfl⟩ := len22 (l := l) (by simpa using hs)
    have h0 := hr 0 (by omega)
    simp only [List.getElem?_toArray, List.getElem?_cons_zero, List.getElem?_cons_succ, Option.some.injEq] at h0
    subst h0
    obtain rfl : df = [] := hdf
    have d16 : ∃ cs, a21 = .agg cs ∧ StB w.heap.size (fun X => RdPr X 0 false knownP cs) W := hv 16 (by omega)
    obtain ⟨cs, rfl, hpr⟩ := d16
    have HPR := Lib.hid hpr
    obtain ⟨vi, vf, vo, rfl, _, hi, hf, ho⟩ := hpr.at
    clear hpr
    obtain ⟨ai, ci, rfl, _⟩ := hi
    obtain ⟨af, cf, rfl, _⟩ := hf
    obtain ⟨ao, co, rfl, _⟩ := ho
    have B1 := Ext.heap hE HB1.out
    have c0 := (blk_cell B1 0).trans rfl
    have c1 := (blk_cell B1 1).trans rfl
    have c2 := (blk_cell B1 2).trans rfl
    have c3 := (blk_cell B1 3).trans rfl
    simp only [List.getElem?_toArray, List.getElem?_cons_zero, List.getElem?_cons_succ] at c0 c1 c2 c3
    have f0 := blk_free B1 0
    have f1 := blk_free B1 1
    have f2 := blk_free B1 2
    have f3 := blk_free B1 3
    clear hr hs hv
    refine wpOp_step (o := _) rfl (fun K' hK => ?_)
    go_simp
    refine hK _ _ ?_
    have C4 := chg_sets4 W w.heap.size (.int .i64 knownP.st) (.slice ai knownP.ins.length ci) (.slice af knownP.flows.length cf) (.slice ao knownP.outs.length co)
    have B4 := blk_set (blk_set (blk_set (blk_set B1 0 (.int .i64 knownP.st)) 1 (.slice ai knownP.ins.length ci)) 2 (.slice af knownP.flows.length cf)) 3 (.slice ao knownP.outs.length co)
    have k0 := blk_cell B4 0
    have k1 := blk_cell B4 1
    have k2 := blk_cell B4 2
    have k3 := blk_cell B4 3
    simp at k0 k1 k2 k3
    have HR := Lib.hid (HPR.out _ C4)
    have HF := Lib.hid (Ext.then (hE4.trans hE) C4 (fun b hb => by omega))
    clear c0 c1 c2 c3 f0 f1 f2 f3 B1 C4 B4 hE x1 x2 x3 x4
    generalize ((((W.setCell ⟨w.heap.size, 0, none⟩ (.int .i64 knownP.st)).setCell ⟨w.heap.size, 1, none⟩ (.slice ai knownP.ins.length ci)).setCell ⟨w.heap.size, 2, none⟩ (.slice af knownP.flows.length cf)).setCell ⟨w.heap.size, 3, none⟩ (.slice ao knownP.outs.length co)) = W9 at *
    go_wp2_with fail
    refine bodyPost_ret (v := .agg #[.int .i64 knownP.st, .slice ai knownP.ins.length ci, .slice af knownP.flows.length cf, .slice ao knownP.outs.length co]) ?_ rfl ⟨_, rfl, HR.out, HF.out⟩
    simp [results, Try.results31, go_sem, k0, k1, k2, k3]
end Go.Proofs.Ytjdficgejjkaoaa
