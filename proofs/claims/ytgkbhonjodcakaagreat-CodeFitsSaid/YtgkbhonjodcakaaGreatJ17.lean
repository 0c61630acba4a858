/- What stands in this text: Known, KnownP, AskCol, LateOf, Lives15, Lives17, OpenP, CodeO. -/
import Derived.Test.YtgkbhonjodcakaaGreatJ0
import Derived.Test.YtgkbhonjodcakaaGreatJ4
import Derived.Test.YtgkbhonjodcakaaGreatJ6
import Derived.Test.YtgkbhonjodcakaaGreatJ7
import Derived.Test.YtgkbhonjodcakaaGreatJ9
import Derived.Test.YtgkbhonjodcakaaGreatJ10
import Derived.Test.YtgkbhonjodcakaaGreatJ13
import Derived.Test.YtgkbhonjodcakaaGreatJ14
import Derived.Test.YtgkbhonjodcakaaGreatJ16
import Derived.Deep.Cut
import Derived.RangeFuncBox
import Derived.Maps.AppendAt
import Derived.Deep.RegionHeld3
import Derived.Deep.LoopGhost
import Derived.Deep.CutRange
import Derived.Deep.Slices
import Derived.Deep.Fields
import Derived.ChangeSame
import Derived.SizedLaws
import Derived.Test.YtgkbhonjodcakaaGreatRows
namespace Go.Proofs.YtgkbhonjodcakaaGreat
open Go.RowKit
set_option linter.unusedVariables false
set_option linter.unusedSimpArgs false

def sS : ByteArray := ⟨#[115]⟩
def sT : ByteArray := ⟨#[116]⟩
def sU : ByteArray := ⟨#[117]⟩
def sX : ByteArray := ⟨#[120]⟩
def sNo : ByteArray := ⟨#[]⟩
def nmE (s : ByteArray) : Ex := .mk 3 0 s []
def opE (o : Int) (l : List Ex) : Ex := .mk o 0 sNo l
def noughtE : Ex := .mk 1 0 sNo []
def addE (x y : Ex) : Ex := opE 6 [x, y]
def preE (x : Ex) : Ex := opE 19 [x]
def thenE (x y : Ex) : Ex := opE 18 [x, y]
def bodyS : Ex := thenE noughtE (addE (preE (nmE sS)) (nmE sX))
def flowS : FlD := ⟨sS, 1, 1, 0, bodyS⟩
def flowT : FlD := ⟨sT, 1, 2, 0, nmE sS⟩
def flowU : FlD := ⟨sU, 1, 1, 0, addE (nmE sT) (nmE sX)⟩
def knownP : PrD := ⟨2, [⟨sX, 1, 1⟩], [flowS, flowT, flowU], [sU]⟩
theorem exa_nm (W : World) (s : ByteArray) (hs : s.size ≤ maxLen) : ExA W (nmE s) (.agg #[.int .u8 3, .int .i64 0, .string s, .slice none 0 0]) := exa_leaf W 3 0 s (by unfold isU8; omega) (by unfold isI64; omega) hs
theorem sz1 (c : UInt8) : (⟨#[c]⟩ : ByteArray).size ≤ maxLen := by unfold maxLen; simp [ByteArray.size]
theorem exa_nought (W : World) : ExA W noughtE (.agg #[.int .u8 1, .int .i64 0, .string ⟨#[]⟩, .slice none 0 0]) := exa_leaf W 1 0 sNo (by unfold isU8; omega) (by unfold isI64; omega) (by unfold sNo maxLen; simp [ByteArray.size])
theorem exa_op {W : World} {o : Int} {l : List Ex} {v : Value} (h1 : isU8 o) (h : RdExV W 0 false l v) : ExA W (opE o l) (.agg #[.int .u8 o, .int .i64 0, .string ⟨#[]⟩, v]) := exa_mk (s := sNo) h1 (by unfold isI64; omega) (by unfold sNo maxLen; simp [ByteArray.size]) h
theorem name14_any (s : ByteArray) (w : World) : Calls Tryz.prog 62 #[.string s] w fun e w' => e = .returned (.agg #[.int .u8 3, .int .i64 0, .string s, .slice none 0 0]) ∧ Ext w w' := by
  have e0 : ∀ o, Ext w (w.alloc o) := fun o => (Chg.refl _ _).alloc _
  go_enter Tryz.func62, Tryz.ntmps62
  go_wp2_with fail
  refine bodyPost_ret (v := .agg #[.int .u8 3, .int .i64 0, .string s, .slice none 0 0]) ?_ rfl ⟨rfl, e0 _⟩
  simp [results, Tryz.results62, go_sem]
theorem fl_rd {W : World} {b : Nat} {cur : Array Value} {ps : List (FlD × Value)} (hb : W.heap[b]? = some (.cells cur 43 (0, 0))) (hr : RowOf flP 8 cur ps) (hn : ps.length ≤ 1000) (hp : ∀ p, p ∈ ps → FlFine p.1 ∧ RdExV W 0 false p.1.body.args p.2) : RdFlV W 0 false (ps.map (·.1)) (.slice (some ⟨b, 0, none⟩) ps.length ps.length) :=
  RowOf.rdFl hr hb (Chg.refl _ _) hp (Nat.le_refl _) (by unfold maxLen; omega) (by unfold fitsR; omega)
theorem in1_rd {W : World} {b : Nat} (h : W.heap[b]? = some (.cells #[.string ⟨#[120]⟩, .int .u8 1, .int .i64 1] 147 (0, 0))) : RdInV W 0 false [(⟨sX, 1, 1⟩ : InD)] (.slice (some ⟨b, 0, none⟩) 1 1) := by
  have hl := lt_of_block h
  refine ⟨some ⟨b, 0, none⟩, 1, rfl, by simp [fitsR], Nat.le_refl _, by decide, fun i x hx' => ?_, fun h => by cases h⟩
  match i, hx' with
  | 0, hx' =>
    simp only [List.getElem?_cons_zero, Option.some.injEq] at hx'
    subst hx'
    exact ⟨sz1 _, by unfold isU8; simp, by unfold isI64; simp, b, 0, rfl, Nat.zero_le _, hl, (blk_cell h 0).trans rfl, (blk_cell h 1).trans rfl, (blk_cell h 2).trans rfl⟩
  | n + 1, hx' => simp at hx'
theorem str1_rd {W : World} {b : Nat} {s : ByteArray} (hs : s.size ≤ maxLen) (h : W.heap[b]? = some (.cells #[.string s] 9 (0, 0))) : RdStrV W 0 false [s] (.slice (some ⟨b, 0, none⟩) 1 1) := by
  have hl := lt_of_block h
  refine ⟨some ⟨b, 0, none⟩, 1, rfl, by simp [fitsR], Nat.le_refl _, by decide, fun i x hx' => ?_, fun h => by cases h⟩
  match i, hx' with
  | 0, hx' =>
    simp only [List.getElem?_cons_zero, Option.some.injEq] at hx'
    subst hx'
    exact ⟨hs, b, 0, rfl, Nat.zero_le _, hl, (blk_cell h 0).trans rfl⟩
  | n + 1, hx' => simp at hx'
/-- A flow's value. -/
def FlA (W : World) (f : FlD) (v : Value) : Prop := ∃ u, v = .agg (flC f u).toArray ∧ RdExV W 0 false f.body.args u
theorem fine_S : FlFine flowS := by refine ⟨sz1 _, ?_, ?_, ?_, ?_, ?_, ?_⟩ <;> simp [flowS, bodyS, thenE, opE, Ex.op, Ex.n, Ex.name, sNo, isU8, isI64, maxLen, ByteArray.size]
theorem fine_T : FlFine flowT := by refine ⟨sz1 _, ?_, ?_, ?_, ?_, ?_, sz1 _⟩ <;> simp [flowT, nmE, Ex.op, Ex.n, Ex.name, isU8, isI64]
theorem fine_U : FlFine flowU := by refine ⟨sz1 _, ?_, ?_, ?_, ?_, ?_, ?_⟩ <;> simp [flowU, addE, opE, Ex.op, Ex.n, Ex.name, sNo, isU8, isI64, maxLen, ByteArray.size]
def RetPr (p : PrD) (w : World) (e : Ending) (w' : World) : Prop := ∃ cs, e = .returned (.agg cs) ∧ RdPr w' 0 false p cs ∧ Ext w w'
/-- It holds whatever is written into block B. -/
def StB (B : Nat) (R : World → Prop) (W : World) : Prop := ∀ X, Chg (fun q => q = B) W X → R X
theorem StB.ext {B : Nat} {R : World → Prop} {W Y : World} (h : StB B R W) (he : Ext W Y) : StB B R Y := fun X hX => h X ((he.mono (fun _ _ h => h.elim)).trans hX)
theorem StB.at {B : Nat} {R : World → Prop} {W : World} (h : StB B R W) : R W := h W (Chg.refl _ _)
theorem two14_st (B : Nat) (o : Int) (x y : Ex) (u v : Value) (w : World) (ho : isU8 o) (hB : B < w.heap.size) (hx : StB B (fun X => ExA X x u) w) (hy : StB B (fun X => ExA X y v) w) : Calls Tryz.prog 63 #[.int .u8 o, u, v] w fun e w' => ∃ r, e = .returned r ∧ StB B (fun X => ExA X (opE o [x, y]) r) w' ∧ Ext w w' := by
  have HX := Lib.hid hx
  have HY := Lib.hid hy
  obtain ⟨a, rfl, _, _, _, hav⟩ := hx.at
  obtain ⟨b, rfl, _, _, _, hbv⟩ := hy.at
  obtain ⟨aa, ac, rfl, _⟩ := hav.form
  obtain ⟨ba, bc, rfl, _⟩ := hbv.form
  clear hav hbv hx hy
  go_enter Tryz.func63, Tryz.ntmps63
  go_wp2_with fail
  generalize hw1 : w.alloc _ = w1
  obtain ⟨s1, b1, e1⟩ := chain1 hw1
  generalize hw2 : w1.alloc _ = w2
  obtain ⟨s2, b2, e2⟩ := chain1 hw2
  generalize hw3 : w2.alloc _ = w3
  obtain ⟨s3, b3, e3⟩ := chain1 hw3
  generalize hw4 : w3.alloc _ = w4
  obtain ⟨s4, b4, e4⟩ := chain1 hw4
  have E := ((e1.trans e2).trans e3).trans e4
  have B3 := Ext.heap e4 b3
  rw [s2, s1] at B3
  have c0 := (blk_cell B3 0).trans rfl
  have c1 := (blk_cell B3 1).trans rfl
  have c2 := (blk_cell B3 2).trans rfl
  have c3 := (blk_cell B3 3).trans rfl
  simp only [List.getElem?_toArray, List.getElem?_cons_zero, List.getElem?_cons_succ] at c0 c1 c2 c3
  rw [show w3.heap.size = w.heap.size + 1 + 1 + 1 from by omega] at b4
  refine bodyPost_ret (v := .agg #[.int .u8 o, .int .i64 0, .string ⟨#[]⟩, .slice (some ⟨w.heap.size + 1 + 1 + 1, 0, none⟩) 2 2]) ?_ rfl ⟨_, rfl, fun X hX => ?_, E⟩
  · simp [results, Tryz.results63, go_sem, c0, c1, c2, c3]
  · have b5 := hX.heap b4 (by omega)
    exact exa_op ho (row2 b5 ((HX.out.ext E) X hX) ((HY.out.ext E) X hX))
/-- What each slot holds. -/
def KnΦ (B : Nat) (pv : Value) (i : Nat) (v : Value) (W : World) : Prop :=
  match i with
  | 0 => v = .agg #[.string ⟨#[120]⟩, .int .u8 1, .int .i64 1]
  | 1 => StB B (fun X => RdInV X 0 false knownP.ins v) W
  | 2 => v = .agg #[.int .u8 1, .int .i64 0, .string ⟨#[]⟩, .slice none 0 0]
  | 3 => v = pv ∧ StB B (fun X => ExA X (preE (nmE sS)) v) W
  | 4 => v = .agg #[.int .u8 3, .int .i64 0, .string ⟨#[120]⟩, .slice none 0 0]
  | 5 => StB B (fun X => ExA X (addE (preE (nmE sS)) (nmE sX)) v) W
  | 6 => StB B (fun X => ExA X bodyS v) W
  | 7 => StB B (fun X => FlA X flowS v) W
  | 8 => v = .agg #[.int .u8 3, .int .i64 0, .string ⟨#[115]⟩, .slice none 0 0]
  | 9 => v = .agg #[.string ⟨#[116]⟩, .int .u8 1, .int .i64 2, .int .i64 0, .int .u8 3, .int .i64 0, .string ⟨#[115]⟩, .slice none 0 0]
  | 10 => v = .agg #[.int .u8 3, .int .i64 0, .string ⟨#[116]⟩, .slice none 0 0]
  | 11 => v = .agg #[.int .u8 3, .int .i64 0, .string ⟨#[120]⟩, .slice none 0 0]
  | 12 => StB B (fun X => ExA X (addE (nmE sT) (nmE sX)) v) W
  | 13 => StB B (fun X => FlA X flowU v) W
  | 14 => StB B (fun X => RdFlV X 0 false knownP.flows v) W
  | 15 => StB B (fun X => RdStrV X 0 false knownP.outs v) W
  | 16 => ∃ cs, v = .agg cs ∧ StB B (fun X => RdPr X 0 false knownP cs) W
  | _ => True
theorem KnΦ.ext {B : Nat} {pv : Value} (i : Nat) (v : Value) (X Y : World) (h : KnΦ B pv i v X) (he : Ext X Y) : KnΦ B pv i v Y := by
  unfold KnΦ at h ⊢
  split at h
  · exact h
  · exact h.ext he
  · exact h
  · exact ⟨h.1, h.2.ext he⟩
  · exact h
  · exact h.ext he
  · exact h.ext he
  · exact h.ext he
  · exact h
  · exact h
  · exact h
  · exact h
  · exact h.ext he
  · exact h.ext he
  · exact h.ext he
  · exact h.ext he
  · obtain ⟨cs, h1, h2⟩ := h; exact ⟨cs, h1, h2.ext he⟩
  · trivial
theorem flA_st {B : Nat} {W : World} {f : FlD} {v u : Value} (h : StB B (fun X => FlA X f v) W) (e : v = .agg (flC f u).toArray) : StB B (fun X => RdExV X 0 false f.body.args u) W := fun X hX => by
  obtain ⟨u2, e2, hu⟩ := h X hX
  rw [e] at e2
  simp only [Value.agg.injEq, flC, List.toArray, Array.mk.injEq, List.cons.injEq, and_true, true_and] at e2
  rw [e2]; exact hu
theorem len22 {α : Type} {l : List α} (h : l.length = 22) : ∃ a0 a1 a2 a3 a4 a5 a6 a7 a8 a9 a10 a11 a12 a13 a14 a15 a16 a17 a18 a19 a20 a21, l = [a0, a1, a2, a3, a4, a5, a6, a7, a8, a9, a10, a11, a12, a13, a14, a15, a16, a17, a18, a19, a20, a21] := by
  match l, h with
  | [a0, a1, a2, a3, a4, a5, a6, a7, a8, a9, a10, a11, a12, a13, a14, a15, a16, a17, a18, a19, a20, a21], _ => exact ⟨_, _, _, _, _, _, _, _, _, _, _, _, _, _, _, _, _, _, _, _, _, _, rfl⟩
set_option maxRecDepth 100000 in
set_option maxHeartbeats 8000000 in
theorem known_any (w : World) : Calls Tryz.prog 20 #[] w (RetPr knownP w) := by
  go_enter Tryz.func20, Tryz.ntmps20
  go_wp2_with fail
  generalize hw1 : w.alloc _ = w1
  obtain ⟨s1, b1, e1⟩ := chain1 hw1
  clear hw1
  refine (name14_any _ w1).mono ?_
  rintro e w2 ⟨rfl, e2⟩
  go_upto_region 2 with (fail)
  generalize hw3 : w2.alloc _ = w3
  obtain ⟨s3, b3, e3⟩ := chain1 hw3
  clear hw3
  generalize hw4 : w3.alloc _ = w4
  obtain ⟨s4, b4, e4⟩ := chain1 hw4
  clear hw4
  have hE4 : Ext w w4 := (((e1.trans e2).trans e3).trans e4)
  have hBw : w.heap.size < w2.heap.size ∧ w.heap.size < w4.heap.size := by have := e2.size; have := e3.size; have := e4.size; omega
  have hpre : StB w.heap.size (fun X => ExA X (preE (nmE sS)) (.agg #[.int .u8 19, .int .i64 0, .string ⟨#[]⟩, .slice (some ⟨w2.heap.size, 0, none⟩) 1 1])) w4 := fun X hX => exa_op (by unfold isU8; omega) (row1 (hX.heap (Ext.heap e4 b3) (by omega)) (exa_nm X sS (sz1 _)))
  have HB1 := Lib.hid (Ext.heap ((e2.trans e3).trans e4) b1)
  rw [s3] at b4
  have x1 : ∀ X, Ext w4 X → X.cell? ⟨w2.heap.size + 1, 0, none⟩ = some (.int .u8 19) := fun X hX => (blk_cell (Ext.heap hX b4) 0).trans rfl
  have x2 : ∀ X, Ext w4 X → X.cell? ⟨w2.heap.size + 1, 1, none⟩ = some (.int .i64 0) := fun X hX => (blk_cell (Ext.heap hX b4) 1).trans rfl
  have x3 : ∀ X, Ext w4 X → X.cell? ⟨w2.heap.size + 1, 2, none⟩ = some (.string ⟨#[]⟩) := fun X hX => (blk_cell (Ext.heap hX b4) 2).trans rfl
  have x4 : ∀ X, Ext w4 X → X.cell? ⟨w2.heap.size + 1, 3, none⟩ = some (.slice (some ⟨w2.heap.size, 0, none⟩) 1 1) := fun X hX => (blk_cell (Ext.heap hX b4) 3).trans rfl
  clear b1 b3 b4
  refine region_lin' (n := 17) (m := 5) (Φ := KnΦ w.heap.size (.agg #[.int .u8 19, .int .i64 0, .string ⟨#[]⟩, .slice (some ⟨w2.heap.size, 0, none⟩) 1 1])) [[], [0], [], [], [], [3, 4], [2, 5], [6], [], [8], [], [], [10, 11], [12], [7, 9, 13], [], [1, 14, 15]] (by kernel_rfl) rfl (by simp) (by kernel_rfl) KnΦ.ext ?step ?last
  case step =>
    intro i hi a W hE hs hdf hr hv
    obtain ⟨⟨l⟩, df⟩ := a
    obtain ⟨a0, a1, a2, a3, a4, a5, a6, a7, a8, a9, a10, a11, a12, a13, a14, a15, a16, a17, a18, a19, a20, a21, rfl⟩ := len22 (l := l) (by simpa using hs)
    have h0 := hr 0 (by omega)
    have h1 := hr 1 (by omega)
    have h2 := hr 2 (by omega)
    have h3 := hr 3 (by omega)
    have h4 := hr 4 (by omega)
    simp only [List.getElem?_toArray, List.getElem?_cons_zero, List.getElem?_cons_succ, Option.some.injEq] at h0 h1 h2 h3 h4
    subst h0 h1 h2 h3 h4
    clear hr hs hdf
    have er : Ext W W := Chg.refl _ _
    have hBW : w.heap.size < W.heap.size := by have := hE.size; omega
    match i, hi with
    | 0, _ =>
      clear hv
      refine wpOp_step (o := _) rfl (fun K' hK => ?_)
      go_simp
      exact hK _ _ ⟨.agg #[.string ⟨#[120]⟩, .int .u8 1, .int .i64 1], rfl, rfl, er⟩
    | 1, _ =>
      have d0 : a5 = .agg #[.string ⟨#[120]⟩, .int .u8 1, .int .i64 1] := hv 0 (by simp)
      clear hv
      subst d0
      refine wpOp_step (o := _) rfl (fun K' hK => ?_)
      go_simp
      have E := er.alloc (.cells #[.string ⟨#[120]⟩, .int .u8 1, .int .i64 1] 147)
      exact hK _ _ ⟨.slice (some ⟨W.heap.size, 0, none⟩) 1 1, rfl, fun X hX => in1_rd (hX.heap (heap_alloc_new W _) (by omega)), E⟩
    | 2, _ =>
      clear hv
      refine wpOp_step (o := _) rfl (fun K' hK => ?_)
      go_simp
      exact hK _ _ ⟨(.agg #[.int .u8 1, .int .i64 0, .string ⟨#[]⟩, .slice none 0 0]), rfl, rfl, er⟩
    | 3, _ =>
      clear hv
      have z1 := x1 _ hE
      have z2 := x2 _ hE
      have z3 := x3 _ hE
      have z4 := x4 _ hE
      refine wpOp_step (o := _) rfl (fun K' hK => ?_)
      go_simp
      exact hK _ _ ⟨(.agg #[.int .u8 19, .int .i64 0, .string ⟨#[]⟩, .slice (some ⟨w2.heap.size, 0, none⟩) 1 1]), rfl, ⟨rfl, hpre.ext hE⟩, er⟩
    | 4, _ =>
      clear hv
      refine wpOp_step (o := _) rfl (fun K' hK => ?_)
      go_simp
      refine (name14_any _ W).mono ?_
      rintro e w5 ⟨rfl, E5⟩
      exact hK _ _ ⟨(.agg #[.int .u8 3, .int .i64 0, .string ⟨#[120]⟩, .slice none 0 0]), rfl, rfl, E5⟩
    | 5, _ =>
      have d3 : a8 = (.agg #[.int .u8 19, .int .i64 0, .string ⟨#[]⟩, .slice (some ⟨w2.heap.size, 0, none⟩) 1 1]) ∧ StB w.heap.size (fun X => ExA X (preE (nmE sS)) a8) W := hv 3 (by simp)
      have d4 : a9 = (.agg #[.int .u8 3, .int .i64 0, .string ⟨#[120]⟩, .slice none 0 0]) := hv 4 (by simp)
      clear hv
      obtain ⟨d3, d3x⟩ := d3
      subst d3 d4
      refine wpOp_step (o := _) rfl (fun K' hK => ?_)
      go_simp
      refine (two14_st w.heap.size 6 _ _ _ _ W (by unfold isU8; omega) hBW d3x (fun X _ => exa_nm X sX (sz1 _))).mono ?_
      rintro e w5 ⟨u, rfl, hu, E5⟩
      exact hK _ _ ⟨u, rfl, hu, E5⟩
    | 6, _ =>
      have d2 : a7 = (.agg #[.int .u8 1, .int .i64 0, .string ⟨#[]⟩, .slice none 0 0]) := hv 2 (by simp)
      have d5 : StB w.heap.size (fun X => ExA X (addE (preE (nmE sS)) (nmE sX)) a10) W := hv 5 (by simp)
      clear hv
      subst d2
      refine wpOp_step (o := _) rfl (fun K' hK => ?_)
      go_simp
      refine (two14_st w.heap.size 18 _ _ _ _ W (by unfold isU8; omega) hBW (fun X _ => exa_nought X) d5).mono ?_
      rintro e w5 ⟨u, rfl, hu, E5⟩
      exact hK _ _ ⟨u, rfl, hu, E5⟩
    | 7, _ =>
      have d6 : StB w.heap.size (fun X => ExA X (bodyS) a11) W := hv 6 (by simp)
      clear hv
      have dd := d6
      obtain ⟨u, e, _, _, _, hu⟩ := d6.at
      have hsu : StB w.heap.size (fun X => RdExV X 0 false (bodyS).args u) W := fun X hX => by obtain ⟨u2, e2_, _, _, _, hu2⟩ := d6 X hX; rw [e] at e2_; simp only [Value.agg.injEq, Array.mk.injEq, List.cons.injEq, and_true, true_and] at e2_; rw [e2_]; exact hu2
      subst e
      refine wpOp_step (o := _) rfl (fun K' hK => ?_)
      go_simp
      exact hK _ _ ⟨.agg #[.string ⟨#[115]⟩, .int .u8 1, .int .i64 1, .int .i64 0, .int .u8 (bodyS).op, .int .i64 (bodyS).n, .string (bodyS).name, u], rfl, fun X hX => ⟨u, rfl, hsu X hX⟩, er⟩
    | 8, _ =>
      clear hv
      refine wpOp_step (o := _) rfl (fun K' hK => ?_)
      go_simp
      refine (name14_any _ W).mono ?_
      rintro e w5 ⟨rfl, E5⟩
      exact hK _ _ ⟨(.agg #[.int .u8 3, .int .i64 0, .string ⟨#[115]⟩, .slice none 0 0]), rfl, rfl, E5⟩
    | 9, _ =>
      have d8 : a13 = (.agg #[.int .u8 3, .int .i64 0, .string ⟨#[115]⟩, .slice none 0 0]) := hv 8 (by simp)
      clear hv
      subst d8
      refine wpOp_step (o := _) rfl (fun K' hK => ?_)
      go_simp
      exact hK _ _ ⟨.agg #[.string ⟨#[116]⟩, .int .u8 1, .int .i64 2, .int .i64 0, .int .u8 3, .int .i64 0, .string ⟨#[115]⟩, .slice none 0 0], rfl, rfl, er⟩
    | 10, _ =>
      clear hv
      refine wpOp_step (o := _) rfl (fun K' hK => ?_)
      go_simp
      refine (name14_any _ W).mono ?_
      rintro e w5 ⟨rfl, E5⟩
      exact hK _ _ ⟨(.agg #[.int .u8 3, .int .i64 0, .string ⟨#[116]⟩, .slice none 0 0]), rfl, rfl, E5⟩
    | 11, _ =>
      clear hv
      refine wpOp_step (o := _) rfl (fun K' hK => ?_)
      go_simp
      refine (name14_any _ W).mono ?_
      rintro e w5 ⟨rfl, E5⟩
      exact hK _ _ ⟨(.agg #[.int .u8 3, .int .i64 0, .string ⟨#[120]⟩, .slice none 0 0]), rfl, rfl, E5⟩
    | 12, _ =>
      have d10 : a15 = (.agg #[.int .u8 3, .int .i64 0, .string ⟨#[116]⟩, .slice none 0 0]) := hv 10 (by simp)
      have d11 : a16 = (.agg #[.int .u8 3, .int .i64 0, .string ⟨#[120]⟩, .slice none 0 0]) := hv 11 (by simp)
      clear hv
      subst d10 d11
      refine wpOp_step (o := _) rfl (fun K' hK => ?_)
      go_simp
      refine (two14_st w.heap.size 6 _ _ _ _ W (by unfold isU8; omega) hBW (fun X _ => exa_nm X sT (sz1 _)) (fun X _ => exa_nm X sX (sz1 _))).mono ?_
      rintro e w5 ⟨u, rfl, hu, E5⟩
      exact hK _ _ ⟨u, rfl, hu, E5⟩
    | 13, _ =>
      have d12 : StB w.heap.size (fun X => ExA X (addE (nmE sT) (nmE sX)) a17) W := hv 12 (by simp)
      clear hv
      have dd := d12
      obtain ⟨u, e, _, _, _, hu⟩ := d12.at
      have hsu : StB w.heap.size (fun X => RdExV X 0 false (addE (nmE sT) (nmE sX)).args u) W := fun X hX => by obtain ⟨u2, e2_, _, _, _, hu2⟩ := d12 X hX; rw [e] at e2_; simp only [Value.agg.injEq, Array.mk.injEq, List.cons.injEq, and_true, true_and] at e2_; rw [e2_]; exact hu2
      subst e
      refine wpOp_step (o := _) rfl (fun K' hK => ?_)
      go_simp
      exact hK _ _ ⟨.agg #[.string ⟨#[117]⟩, .int .u8 1, .int .i64 1, .int .i64 0, .int .u8 (addE (nmE sT) (nmE sX)).op, .int .i64 (addE (nmE sT) (nmE sX)).n, .string (addE (nmE sT) (nmE sX)).name, u], rfl, fun X hX => ⟨u, rfl, hsu X hX⟩, er⟩
    | 14, _ =>
      have d7 : StB w.heap.size (fun X => FlA X flowS a12) W := hv 7 (by simp)
      have d9 : a14 = .agg #[.string ⟨#[116]⟩, .int .u8 1, .int .i64 2, .int .i64 0, .int .u8 3, .int .i64 0, .string ⟨#[115]⟩, .slice none 0 0] := hv 9 (by simp)
      have d13 : StB w.heap.size (fun X => FlA X flowU a18) W := hv 13 (by simp)
      clear hv
      obtain ⟨u1, e1_, _⟩ := d7.at
      obtain ⟨u3, e3_, _⟩ := d13.at
      have hu1 := flA_st d7 e1_
      have hu3 := flA_st d13 e3_
      simp only [flC, flowS, flowT, flowU, bodyS, thenE, addE, preE, opE, nmE, Ex.op, Ex.n, Ex.name, List.toArray] at e1_ e3_
      subst e1_ d9 e3_
      refine wpOp_step (o := _) rfl (fun K' hK => ?_)
      go_simp
      have E := er.alloc (.cells ([(flowS, u1), (flowT, .slice none 0 0), (flowU, u3)].flatMap flP).toArray 43)
      have hrd := fun (X : World) (hX : Chg (fun q => q = w.heap.size) _ X) => fl_rd (ps := [(flowS, u1), (flowT, .slice none 0 0), (flowU, u3)]) (hX.heap (S := fun q => q = w.heap.size) (w1 := X) (heap_alloc_new W (.cells ([(flowS, u1), (flowT, .slice none 0 0), (flowU, u3)].flatMap flP).toArray 43)) (by omega)) (fun i x hx c hc => by have := flat_at flP_len [] hx hc; simpa using this) (by simp) (fun q hq => by
        simp only [List.mem_cons, List.not_mem_nil, or_false] at hq
        rcases hq with rfl | rfl | rfl
        · exact ⟨fine_S, (hu1.ext E) X hX⟩
        · exact ⟨fine_T, rd_none X⟩
        · exact ⟨fine_U, (hu3.ext E) X hX⟩)
      exact hK _ _ ⟨.slice (some ⟨W.heap.size, 0, none⟩) 3 3, rfl, hrd, E⟩
    | 15, _ =>
      clear hv
      refine wpOp_step (o := _) rfl (fun K' hK => ?_)
      go_simp
      have E := er.alloc (.cells #[.string ⟨#[117]⟩] 9)
      exact hK _ _ ⟨.slice (some ⟨W.heap.size, 0, none⟩) 1 1, rfl, fun X hX => str1_rd (sz1 _) (hX.heap (heap_alloc_new W _) (by omega)), E⟩
    | 16, _ =>
      have d1 : StB w.heap.size (fun X => RdInV X 0 false knownP.ins a6) W := hv 1 (by simp)
      have d14 : StB w.heap.size (fun X => RdFlV X 0 false knownP.flows a19) W := hv 14 (by simp)
      have d15 : StB w.heap.size (fun X => RdStrV X 0 false knownP.outs a20) W := hv 15 (by simp)
      clear hv
      have HD : Hid (StB w.heap.size (fun X => RdPr X 0 false knownP #[.int .i64 2, a6, a19, a20]) W) := fun X hX => ⟨_, _, _, rfl, by unfold knownP isI64; simp, d1 X hX, d14 X hX, d15 X hX⟩
      obtain ⟨_, _, rfl, _⟩ := d1.at.form
      obtain ⟨_, _, rfl, _⟩ := d14.at.form
      obtain ⟨_, _, rfl, _⟩ := d15.at.form
      refine wpOp_step (o := _) rfl (fun K' hK => ?_)
      go_simp
      exact hK _ _ ⟨_, rfl, ⟨_, rfl, HD.out⟩, er⟩
    | n + 17, hi => omega
  case last =>
    intro a W hE hs hdf hr hv
    obtain ⟨⟨l⟩, df⟩ := a
    obtain ⟨a0, a1, a2, a3, a4, a5, a6, a7, a8, a9, a10, a11, a12, a13, a14, a15, a16, a17, a18, a19, a20, a21, rfl⟩ := len22 (l := l) (by simpa using hs)
    have h0 := hr 0 (by omega)
    simp only [List.getElem?_toArray, List.getElem?_cons_zero, List.getElem?_cons_succ, Option.some.injEq] at h0
    subst h0
    obtain rfl : df = [] := hdf
    have d16 : ∃ cs, a21 = .agg cs ∧ StB w.heap.size (fun X => RdPr X 0 false knownP cs) W := hv 16 (by omega)
    obtain ⟨cs, rfl, hpr⟩ := d16
    have HPR := Lib.hid hpr
    obtain ⟨vi, vf, vo, rfl, _, hi, hf, ho⟩ := hpr.at
    clear hpr
    obtain ⟨ai, ci, rfl, _⟩ := hi
    obtain ⟨af, cf, rfl, _⟩ := hf
    obtain ⟨ao, co, rfl, _⟩ := ho
    have B1 := Ext.heap hE HB1.out
    have c0 := (blk_cell B1 0).trans rfl
    have c1 := (blk_cell B1 1).trans rfl
    have c2 := (blk_cell B1 2).trans rfl
    have c3 := (blk_cell B1 3).trans rfl
    simp only [List.getElem?_toArray, List.getElem?_cons_zero, List.getElem?_cons_succ] at c0 c1 c2 c3
    have f0 := blk_free B1 0
    have f1 := blk_free B1 1
    have f2 := blk_free B1 2
    have f3 := blk_free B1 3
    clear hr hs hv
    refine wpOp_step (o := _) rfl (fun K' hK => ?_)
    go_simp
    refine hK _ _ ?_
    have C4 := chg_sets4 W w.heap.size (.int .i64 knownP.st) (.slice ai knownP.ins.length ci) (.slice af knownP.flows.length cf) (.slice ao knownP.outs.length co)
    have B4 := blk_set (blk_set (blk_set (blk_set B1 0 (.int .i64 knownP.st)) 1 (.slice ai knownP.ins.length ci)) 2 (.slice af knownP.flows.length cf)) 3 (.slice ao knownP.outs.length co)
    have k0 := blk_cell B4 0
    have k1 := blk_cell B4 1
    have k2 := blk_cell B4 2
    have k3 := blk_cell B4 3
    simp at k0 k1 k2 k3
    have HR := Lib.hid (HPR.out _ C4)
    have HF := Lib.hid (Ext.then (hE4.trans hE) C4 (fun b hb => by omega))
    clear c0 c1 c2 c3 f0 f1 f2 f3 B1 C4 B4 hE x1 x2 x3 x4
    generalize ((((W.setCell ⟨w.heap.size, 0, none⟩ (.int .i64 knownP.st)).setCell ⟨w.heap.size, 1, none⟩ (.slice ai knownP.ins.length ci)).setCell ⟨w.heap.size, 2, none⟩ (.slice af knownP.flows.length cf)).setCell ⟨w.heap.size, 3, none⟩ (.slice ao knownP.outs.length co)) = W9 at *
    go_wp2_with fail
    refine bodyPost_ret (v := .agg #[.int .i64 knownP.st, .slice ai knownP.ins.length ci, .slice af knownP.flows.length cf, .slice ao knownP.outs.length co]) ?_ rfl ⟨_, rfl, HR.out, HF.out⟩
    simp [results, Tryz.results20, go_sem, k0, k1, k2, k3]
end Go.Proofs.YtgkbhonjodcakaaGreat
namespace Go.Proofs.YtgkbhonjodcakaaGreat
open Go.RowKit
set_option linter.unusedVariables false
set_option linter.unusedSimpArgs false

theorem nm_S : nameP sS = true := by decide +kernel
theorem nm_T : nameP sT = true := by decide +kernel
theorem nm_U : nameP sU = true := by decide +kernel
theorem nm_X : nameP sX = true := by decide +kernel
theorem ne_SX : sS ≠ sX := by decide +kernel
theorem ne_TX : sT ≠ sX := by decide +kernel
theorem ne_UX : sU ≠ sX := by decide +kernel
theorem ne_ST : sS ≠ sT := by decide +kernel
theorem ne_SU : sS ≠ sU := by decide +kernel
theorem ne_TU : sT ≠ sU := by decide +kernel
theorem noList : sNo.toList = [] := by simp [sNo, ByteArray.toList_eq]
theorem ok_S : okE 32 200 bodyS = true := by
  simp [okE, bodyS, thenE, noughtE, addE, preE, opE, nmE, wfE, wfL, nodesE, nodesL, headP, partsP, hasOp, pairsD, prefixesD, nm_S, nm_X, noList]
theorem ok_nm {s : ByteArray} (h : nameP s = true) : okE 32 200 (nmE s) = true := by
  simp [okE, nmE, wfE, wfL, nodesE, nodesL, headP, partsP, hasOp, pairsD, h]
theorem ok_U : okE 32 200 (addE (nmE sT) (nmE sX)) = true := by
  simp [okE, addE, opE, nmE, wfE, wfL, nodesE, nodesL, headP, partsP, hasOp, pairsD, nm_T, nm_X, noList]
theorem wrap1 : wrap64 1 = 1 := by unfold wrap64; omega
theorem refs_S : gthE [] 0 bodyS = [(sS, 1), (sX, 0)] := by
  simp [bodyS, thenE, noughtE, addE, preE, opE, nmE, gthE, gthL, stepR, agoP, wrap1, ne_SX]
theorem refs_nm (s : ByteArray) : gthE [] 0 (nmE s) = [(s, 0)] := by simp [nmE, gthE, gthL, stepR]
theorem refs_U : gthE [] 0 (addE (nmE sT) (nmE sX)) = [(sT, 0), (sX, 0)] := by
  simp [addE, opE, nmE, gthE, gthL, stepR, agoP, ne_TX]
theorem pr_known : progP knownP = true := by simp [progP, knownP, flowS, flowT, flowU, inBad, flBad, mayP, nm_S, nm_T, nm_U, nm_X, ok_S, ok_nm nm_S, ok_U]
theorem n_known : namesP knownP = 0 := names_0 pr_known ⟨by simp [namesT_eq, knownP, flowS, flowT, flowU, ne_SX.symm, ne_TX.symm, ne_UX.symm, ne_ST, ne_SU, ne_TU],
  by simp [askedL, knownP, namesF, namesE, flowS, flowT, flowU, refs_S, refs_nm, refs_U, namesT_eq], by simp [knownP]⟩
theorem f_S : findP sS knownP.flows knownP.ins = (1, 1, 0, true) := by simp [knownP, findP, findFl, flowS, ne_SX.symm]
theorem f_T : findP sT knownP.flows knownP.ins = (2, 1, 1, true) := by simp [knownP, findP, findFl, flowS, flowT, ne_TX.symm, ne_ST]
theorem f_X : findP sX knownP.flows knownP.ins = (1, 1, -1, true) := by simp [knownP, findP]
theorem asks_known : asksP knownP = [⟨0, 0, -1, (sS, 1)⟩, ⟨0, -1, 0, (sX, 0)⟩, ⟨1, 0, 1, (sS, 0)⟩, ⟨2, 1, 1, (sT, 0)⟩, ⟨2, -1, 0, (sX, 0)⟩] := by
  have e1 : asksOf knownP 0 flowS = [⟨0, 0, -1, (sS, 1)⟩, ⟨0, -1, 0, (sX, 0)⟩] := by
    rw [asksOf, show flowS.body = bodyS from rfl, refs_S]
    simp [askOf, f_S, f_X, flowS]
  have e2 : asksOf knownP 1 flowT = [⟨1, 0, 1, (sS, 0)⟩] := by
    rw [asksOf, show flowT.body = nmE sS from rfl, refs_nm]
    simp [askOf, f_S, flowT]
  have e3 : asksOf knownP 2 flowU = [⟨2, 1, 1, (sT, 0)⟩, ⟨2, -1, 0, (sX, 0)⟩] := by
    rw [asksOf, show flowU.body = addE (nmE sT) (nmE sX) from rfl, refs_U]
    simp [askOf, f_T, f_X, flowU]
  show asksL knownP 0 [flowS, flowT, flowU] = _
  simp [asksL, e1, e2, e3]
theorem fits_known : Fits knownP [0, 1, 2] := by
  refine ⟨rfl, by simp, ?_⟩
  rw [asks_known]
  simp [leastA]
theorem chk_known : lateChk knownP [0, 1, 2] = true := lateChk_iff.2 ⟨n_known, fits_known⟩
theorem age_1 : ageP knownP [0, 1, 2] 2 (sX, 0) = (2, 0) := by
  have := ageP_of chk_known (i := 2) (f := flowU) (r := (sX, 0)) rfl (by rw [show flowU.body = addE (nmE sT) (nmE sX) from rfl, refs_U]; simp)
  rw [show ((2 : Nat) : Int) = 2 from rfl] at this
  rw [this]; simp [askOf, f_X, flowU, leastA]
theorem age_3 : ageP knownP [0, 1, 2] 0 (sS, 1) = (1, 0) := by
  have := ageP_of chk_known (i := 0) (f := flowS) (r := (sS, 1)) rfl (by rw [show flowS.body = bodyS from rfl, refs_S]; simp)
  rw [show ((0 : Nat) : Int) = 0 from rfl] at this
  rw [this]; simp [askOf, f_S, flowS, leastA]
end Go.Proofs.YtgkbhonjodcakaaGreat
namespace Go.Proofs.YtgkbhonjodcakaaGreat
open Go.RowKit Go.Shelf
attribute [local go_sem] Oper.semAt_some
set_option linter.unusedVariables false
set_option linter.unusedSimpArgs false

def ask5 (x : Ask) : List Value := [.int .i64 x.flow, .int .i64 x.src, .int .i64 x.more, .string x.ref.1, .int .i64 x.ref.2]
theorem ask5_len (x : Ask) : (ask5 x).length = 5 := rfl
/-- A list of askings of one's own. -/
def AkV (w : World) (base : Nat) (l : List Ask) (v : Value) : Prop := w.ownsRow base 80 5 v l.length (l.flatMap ask5)
end Go.Proofs.YtgkbhonjodcakaaGreat
namespace Go.Proofs.YtgkbhonjodcakaaGreat
open Go.RowKit
set_option linter.unusedVariables false
set_option linter.unusedSimpArgs false

theorem ints_rd {w : World} {g : Nat} {l : List Int} (h : w.heap[g]? = some (.cells (l.map (Value.int .i64)).toArray 3 (0, 0))) (hr : ∀ n, n ∈ l → 0 ≤ n ∧ n ≤ 1000) (hl : l.length ≤ 1000000) : RdIntV w 0 false l (.slice (some ⟨g, 0, none⟩) l.length l.length) := by
  refine ⟨_, _, rfl, by unfold fitsR; omega, Nat.le_refl _, by unfold maxLen; omega, fun i x hx => ⟨?_, g, 0, rfl, Nat.zero_le _, lt_of_block h, ?_⟩, fun h => by cases h⟩
  · have := hr x (List.mem_of_getElem? hx); unfold isI64; omega
  · rw [Nat.zero_add, blk_cell h]; simp [hx]
theorem AkV.get {w : World} {base n : Nat} {l : List Ask} {a : Option Addr} {cap : Nat} (h : AkV w base l (.slice a n cap)) {i : Nat} {x : Ask} (hx : l[i]? = some x) : ∃ g, a = some ⟨g, 0, none⟩ ∧ base ≤ g ∧ w.cell? ⟨g, i * 5, none⟩ = some (.int .i64 x.flow) ∧
    w.cell? ⟨g, i * 5 + 1, none⟩ = some (.int .i64 x.src) ∧ w.cell? ⟨g, i * 5 + 2, none⟩ = some (.int .i64 x.more) ∧ w.cell? ⟨g, i * 5 + 3, none⟩ = some (.string x.ref.1) ∧ w.cell? ⟨g, i * 5 + 4, none⟩ = some (.int .i64 x.ref.2) ∧ ∃ cur, w.heap[g]? = some (.cells cur 80 (0, 0)) := by
  unfold AkV at h
  rcases h.2 with ⟨e, h0⟩ | ⟨g, cap', cur, e, hb, hg, h1, h2, h3, h4⟩
  · have := (List.getElem?_eq_some_iff.1 hx).1; omega
  · simp only [Value.slice.injEq] at e
    obtain ⟨rfl, rfl, rfl⟩ := e
    obtain ⟨cur', k1, k2, k3, _⟩ := RowOf.own (r := []) ask5_len (by simpa using h)
    rw [hg] at k1
    obtain rfl : cur = cur' := by simpa using k1
    have hc := k3 i x hx
    have c0 := (blk_cell hg (i * 5)).trans (hc 0 (by omega))
    have c1 := (blk_cell hg (i * 5 + 1)).trans (hc 1 (by omega))
    have c2 := (blk_cell hg (i * 5 + 2)).trans (hc 2 (by omega))
    have c3 := (blk_cell hg (i * 5 + 3)).trans (hc 3 (by omega))
    have c4 := (blk_cell hg (i * 5 + 4)).trans (hc 4 (by omega))
    exact ⟨g, rfl, hb, c0, c1, c2, c3, c4, cur, hg⟩
theorem AkV.form {w : World} {base : Nat} {l : List Ask} {v : Value} (h : AkV w base l v) : ∃ a cap, v = .slice a l.length cap := by
  unfold AkV at h
  rcases h.2 with ⟨rfl, h0⟩ | ⟨g, cap, cur, rfl, _⟩
  · exact ⟨none, 0, by rw [h0]⟩
  · exact ⟨_, _, rfl⟩
theorem AkV.chg {w w' : World} {base : Nat} {l : List Ask} {v : Value} {S : Nat → Prop} (h : AkV w base l v) (hc : Chg S w w') (hS : ∀ g cur, w.heap[g]? = some (.cells cur 80 (0, 0)) → ¬ S g) : AkV w' base l v := by
  unfold AkV at h ⊢
  rcases h.2 with ⟨rfl, h0⟩ | ⟨g, cap, cur, rfl, hb, hg, hr⟩
  · exact ⟨h.1, .inl ⟨rfl, h0⟩⟩
  · exact ⟨h.1, .inr ⟨g, cap, cur, rfl, hb, hc.heap hg (hS g cur hg), hr⟩⟩
theorem AkV.base {w : World} {base base' : Nat} {l : List Ask} {v : Value} (h : AkV w base l v) (hb : base' ≤ base) : AkV w base' l v := ownsRow_base h hb
end Go.Proofs.YtgkbhonjodcakaaGreat
namespace Go.Proofs.YtgkbhonjodcakaaGreat
open Go.RowKit
set_option linter.unusedVariables false
set_option linter.unusedSimpArgs false

theorem f_U : findP sU knownP.flows knownP.ins = (1, 1, 2, true) := by simp [knownP, findP, findFl, flowS, flowT, flowU, ne_UX.symm, ne_SU, ne_TU]
theorem sites_known : sitesP knownP = [(sX, 1), (sS, 1), (sT, 2), (sU, 1)] := rfl
theorem own_k1 : ownN knownP 1 = [sX, sS, sU] := by unfold ownN; rw [sites_known]; simp
theorem own_k2 : ownN knownP 2 = [sT] := by unfold ownN; rw [sites_known]; simp
theorem asks_fS (s : ByteArray) : asksF flowS s = (decide (sS = s) || decide (sX = s)) := by unfold asksF; rw [show flowS.body = bodyS from rfl, refs_S]; simp
theorem asks_fT (s : ByteArray) : asksF flowT s = decide (sS = s) := by unfold asksF; rw [show flowT.body = nmE sS from rfl, refs_nm]; simp
theorem asks_fU (s : ByteArray) : asksF flowU s = (decide (sT = s) || decide (sX = s)) := by unfold asksF; rw [show flowU.body = addE (nmE sT) (nmE sX) from rfl, refs_U]; simp
theorem here_known (st : Int) (s : ByteArray) : hereAsks knownP st s = ((decide ((1 : Int) = st) && asksF flowS s) || ((decide ((2 : Int) = st) && asksF flowT s) || (decide ((1 : Int) = st) && asksF flowU s))) := by
  show ([flowS, flowT, flowU].any fun x => decide (x.st = st) && asksF x s) = _
  simp only [List.any_cons, List.any_nil, Bool.or_false]
  rfl
theorem stations_k : stationsL knownP.st = [1, 2] := rfl
theorem needs_k1 : needsP knownP 1 = [sT] := by
  unfold needsP
  rw [if_pos n_known, stations_k]
  simp [needsAt, own_k2, here_known, asks_fS, asks_fT, asks_fU]
theorem all_k1 : allN knownP 1 = [sX, sS, sU, sT] := by unfold allN; rw [own_k1, needs_k1]; rfl
theorem age_5 : ageP knownP [0, 1, 2] 0 (sX, 0) = (0, 0) := by
  have := ageP_of chk_known (i := 0) (f := flowS) (r := (sX, 0)) rfl (by rw [show flowS.body = bodyS from rfl, refs_S]; simp)
  rw [show ((0 : Nat) : Int) = 0 from rfl] at this
  rw [this]; simp [askOf, f_X, flowS, leastA]
theorem age_6 : ageP knownP [0, 1, 2] 2 (sT, 0) = (0, 0) := by
  have := ageP_of chk_known (i := 2) (f := flowU) (r := (sT, 0)) rfl (by rw [show flowU.body = addE (nmE sT) (nmE sX) from rfl, refs_U]; simp)
  rw [show ((2 : Nat) : Int) = 2 from rfl] at this
  rw [this]; simp [askOf, f_T, flowU, leastA]
theorem keep_known (nm : ByteArray) : keepP knownP [0, 1, 2] 1 nm = keepF knownP [0, 1, 2] 2 nm (keepF knownP [0, 1, 2] 0 nm 0 [(sS, 1), (sX, 0)]) [(sT, 0), (sX, 0)] := by
  unfold keepP
  show keepG knownP [0, 1, 2] 1 nm 0 [flowS, flowT, flowU] 0 = _
  simp only [keepG]
  rw [if_pos (show flowS.st = 1 from rfl), if_neg (show ¬ flowT.st = 1 by decide), if_pos (show flowU.st = 1 from rfl)]
  rw [show flowS.body = bodyS from rfl, refs_S, show flowU.body = addE (nmE sT) (nmE sX) from rfl, refs_U]
theorem keep_kX : keepP knownP [0, 1, 2] 1 sX = 2 := by
  rw [keep_known]
  have e1 := age_1
  have e5 := age_5
  simp [keepF, ne_SX, ne_TX, e1, e5]
  decide
theorem keep_kS : keepP knownP [0, 1, 2] 1 sS = 1 := by
  rw [keep_known]
  have e3 := age_3
  simp [keepF, ne_SX.symm, ne_ST.symm, e3]
  decide
theorem keep_kU : keepP knownP [0, 1, 2] 1 sU = 0 := by
  rw [keep_known]
  simp [keepF, ne_SU, ne_UX.symm, ne_TU]
theorem keep_kT : keepP knownP [0, 1, 2] 1 sT = 0 := by
  rw [keep_known]
  have e6 := age_6
  simp [keepF, ne_ST, ne_TX.symm, e6]
theorem places_k : placesE knownP [0, 1, 2] 1 = 0 ∧ placesP knownP [0, 1, 2] 1 = [⟨sX, 1, 2, false, 0, 0⟩, ⟨sS, 1, 1, false, 0, 0⟩, ⟨sU, 1, 0, false, 0, 0⟩, ⟨sT, 1, 0, true, 2, 0⟩] := by
  obtain ⟨h1, h2⟩ := places_ok chk_known (st := 1) (by decide) (by decide)
  refine ⟨h1, ?_⟩
  rw [h2, all_k1]
  simp only [List.map_cons, List.map_nil, placeOf, stOf, tyOf, f_X, f_S, f_U, f_T, keep_kX, keep_kS, keep_kU, keep_kT, if_true]
  rw [if_neg (by decide)]
  simp only [dfOf, flOf, f_T]
  rfl
end Go.Proofs.YtgkbhonjodcakaaGreat
namespace Go.Proofs.YtgkbhonjodcakaaGreat
open Go.RowKit
set_option linter.unusedVariables false
set_option linter.unusedSimpArgs false

end Go.Proofs.YtgkbhonjodcakaaGreat
namespace Go.Proofs.YtgkbhonjodcakaaGreat
open Go.RowKit
set_option linter.unusedVariables false
set_option linter.unusedSimpArgs false

def placesK : List PlD := [⟨sX, 1, 2, false, 0, 0⟩, ⟨sS, 1, 1, false, 0, 0⟩, ⟨sU, 1, 0, false, 0, 0⟩, ⟨sT, 1, 0, true, 2, 0⟩]
def codeK : List IsD := [⟨1, 0, 0⟩, ⟨3, 1, 1⟩, ⟨3, 0, 0⟩, ⟨6, 0, 0⟩, ⟨18, 0, 0⟩]
theorem thereK (l : List Rf) (h : ∀ r, r ∈ l → r.1 = sS ∨ r.1 = sX ∨ r.1 = sT) : thereP knownP l = true := by
  unfold thereP
  rw [List.all_eq_true]
  intro r hr
  rcases h r hr with e | e | e <;> rw [e]
  · rw [f_S]
  · rw [f_X]
  · rw [f_T]
theorem ty_nmK {s : ByteArray} {a b : Int} (h : findP s knownP.flows knownP.ins = (a, 1, b, true)) : tyE knownP (nmE s) = 1 := by
  simp [nmE, tyE, nameT, h]
theorem ty_S : tyE knownP bodyS = 1 := by
  simp [bodyS, thenE, addE, preE, noughtE, opE, nmE, tyE, tyL, nameT, f_S, f_X, ruleT, eachT, sameT, alikeT]
theorem ty_U : tyE knownP (addE (nmE sT) (nmE sX)) = 1 := by
  simp [addE, opE, nmE, tyE, tyL, nameT, f_T, f_X, ruleT, eachT]
theorem typ_K {x : Ex} (h1 : okE 32 200 x = true) (h2 : thereP knownP (gthE [] 0 x) = true) (h3 : tyE knownP x = 1) : tyP knownP x = (1, 0) := by
  unfold tyP
  rw [h1, h2, h3]
  simp
theorem types_k : typesP knownP = 0 := by
  have e : typedL knownP knownP.flows = true := by
    have t1 : tyP knownP bodyS = (1, 0) := typ_K ok_S (by rw [refs_S]; exact thereK _ (fun r hr => by simp at hr; rcases hr with rfl | rfl <;> simp)) ty_S
    have t2 : tyP knownP (nmE sS) = (1, 0) := typ_K (ok_nm nm_S) (by rw [refs_nm]; exact thereK _ (fun r hr => by simp at hr; subst hr; simp)) (ty_nmK f_S)
    have t3 : tyP knownP (addE (nmE sT) (nmE sX)) = (1, 0) := typ_K ok_U (by rw [refs_U]; exact thereK _ (fun r hr => by simp at hr; rcases hr with rfl | rfl <;> simp)) ty_U
    simp [typedL, knownP, fineT, flowS, flowT, flowU]
    have k1 := t1
    have k2 := t2
    have k3 := t3
    simp only [knownP, flowS, flowT, flowU] at k1 k2 k3
    rw [k1, k2, k3]
    simp
  unfold typesP
  rw [if_pos n_known, e, if_pos rfl]
theorem code_k : codeErr knownP [0, 1, 2] 0 placesK = 0 ∧ codeP knownP [0, 1, 2] 0 placesK = codeK := by
  have hf : knownP.flows[(0 : Int).toNat]? = some flowS := rfl
  have h := code_yes (p := knownP) (l := [0, 1, 2]) (fl := 0) (f := flowS) types_k chk_known (Int.le_refl 0) (by decide) hf
  rw [show flowS.st = 1 from rfl, places_k.2] at h
  refine ⟨h.1, h.2.trans ?_⟩
  have a1 : ageF knownP [0, 1, 2] 0 sS 1 = 1 := by unfold ageF; rw [age_3]
  have a2 : ageF knownP [0, 1, 2] 0 sX 0 = 0 := by unfold ageF; rw [age_5]
  have b1 : atPl placesK sS = 1 := by simp [atPl, placesK, atG, ne_SX, ne_ST.symm, ne_SX.symm, ne_SU.symm]
  have b2 : atPl placesK sX = 0 := by simp [atPl, placesK, atG, ne_SX, ne_TX, ne_UX]
  show codeE (atPl placesK) (ageF knownP [0, 1, 2] 0) 0 bodyS = codeK
  simp [bodyS, thenE, addE, preE, noughtE, opE, nmE, codeE, codeL, lastI, agoP, wrap1, a1, a2, b1, b2, codeK]
theorem chk_k : chkC placesK codeK = (1, true) := by decide +kernel
theorem chk_none : chkC [] [] = (0, false) := by decide +kernel
theorem chk_not : chkC [] [⟨2, 1, 0⟩, ⟨5, 0, 0⟩] = (2, true) := by decide +kernel
set_option maxRecDepth 100000 in
set_option maxHeartbeats 8000000 in
theorem lives17_any (w : World) : Calls Tryz.prog 8 #[] w (RetT w) := by
  go_enter Tryz.func8, Tryz.ntmps8
  go_wp2_with fail
  refine (known_any _).mono ?_
  rintro e w1 ⟨cs, rfl, hpr, E1⟩
  have HP := Lib.hid hpr
  obtain ⟨ai, ci, af, cf, ao, co, rfl⟩ := pr_form hpr
  clear hpr
  have e2 := (Chg.refl (fun _ => False) w1).alloc (.cells #[.int .i64 knownP.st, .slice ai knownP.ins.length ci, .slice af knownP.flows.length cf, .slice ao knownP.outs.length co] 26)
  have b2 := heap_alloc_new w1 (.cells #[.int .i64 knownP.st, .slice ai knownP.ins.length ci, .slice af knownP.flows.length cf, .slice ao knownP.outs.length co] 26)
  go_upto_region 2 with (fail)
  generalize (w1.alloc (.cells #[.int .i64 knownP.st, .slice ai knownP.ins.length ci, .slice af knownP.flows.length cf, .slice ao knownP.outs.length co] 26)) = W0 at *
  have F0 := E1.trans e2
  have HPX := Lib.hid (fun (X : World) (hX : Ext W0 X) => HP.out.ext (e2.trans hX))
  have e4 := (Chg.refl (fun _ => False) W0).alloc (.cells #[.int .i64 0, .int .i64 1, .int .i64 2] 3)
  have b4 := heap_alloc_new W0 (.cells #[.int .i64 0, .int .i64 1, .int .i64 2] 3)
  have hl4 : RdIntV (W0.alloc (.cells #[.int .i64 0, .int .i64 1, .int .i64 2] 3)) 0 false [0, 1, 2] (.slice (some ⟨W0.heap.size, 0, none⟩) 3 3) := ints_rd (l := [0, 1, 2]) b4 fits_known.2.1 (by simp)
  go_upto_region 3 with (fail)
  have b2 := Ext.heap e4 b2
  have F1 := F0.trans e4
  have HPY := Lib.hid (fun (X : World) (hX : Ext (W0.alloc (.cells #[.int .i64 0, .int .i64 1, .int .i64 2] 3)) X) => HPX.out X (e4.trans hX))
  generalize (W0.alloc (.cells #[.int .i64 0, .int .i64 1, .int .i64 2] 3)) = W1 at *
  have HLX := Lib.hid (fun (X : World) (hX : Ext W1 X) => hl4.ext hX)
  have y0 : ∀ X, Ext W1 X → X.cell? ⟨w1.heap.size, 0, none⟩ = some (.int .i64 knownP.st) := fun X hX => (blk_cell (Ext.heap hX b2) 0).trans rfl
  have y1 : ∀ X, Ext W1 X → X.cell? ⟨w1.heap.size, 1, none⟩ = some (.slice ai knownP.ins.length ci) := fun X hX => (blk_cell (Ext.heap hX b2) 1).trans rfl
  have y2 : ∀ X, Ext W1 X → X.cell? ⟨w1.heap.size, 2, none⟩ = some (.slice af knownP.flows.length cf) := fun X hX => (blk_cell (Ext.heap hX b2) 2).trans rfl
  have y3 : ∀ X, Ext W1 X → X.cell? ⟨w1.heap.size, 3, none⟩ = some (.slice ao knownP.outs.length co) := fun X hX => (blk_cell (Ext.heap hX b2) 3).trans rfl
  have er : Ext W1 W1 := Chg.refl _ _
  generalize W0.heap.size = A at *
  have h1 := places_any knownP _ [0, 1, 2] _ 1 _ (HPY.out _ er) (HLX.out _ er) (by unfold isI64; omega)
  unfold RetPl at h1
  rw [places_k.1, places_k.2] at h1
  have H1 := Lib.hid h1
  clear b2 b4 hl4 e4 HPX F0 h1
  go_wp2_with fail
  refine H1.out.mono ?_
  rintro e w5 ⟨u5, rfl, hu5, E5⟩
  obtain ⟨a5, c5, rfl, _⟩ := hu5.form
  have hr5 := hu5.rdS (by simp)
  have HR5 := Lib.hid (show RdPlS w5 placesK (.slice a5 placesK.length c5) from hr5)
  have h2 := codeOf_any knownP _ [0, 1, 2] _ 0 placesK _ w5 (HPY.out _ E5) (HLX.out _ E5) HR5.out
  unfold RetCd at h2
  rw [code_k.1, code_k.2] at h2
  have H2 := Lib.hid h2
  clear hu5 hr5 h2 H1
  go_wp2_with fail
  refine H2.out.mono ?_
  rintro e w6 ⟨u6, rfl, hu6, E6'⟩
  obtain ⟨a6, c6, rfl, _⟩ := hu6.form
  have E6 := E5.trans E6'
  obtain ⟨g6, rfl, _, _, q1⟩ := hu6.get (i := 1) rfl
  obtain ⟨_, eg, _, _, q2⟩ := hu6.get (i := 2) rfl
  simp only [Option.some.injEq, Addr.mk.injEq, and_true] at eg
  subst eg
  obtain ⟨_, eg, _, _, q4⟩ := hu6.get (i := 4) rfl
  simp only [Option.some.injEq, Addr.mk.injEq, and_true] at eg
  subst eg
  have HK := Lib.hid (fun (X : World) (hX : Ext w6 X) => (⟨Ext.cell hX (q1 0 (by omega)), Ext.cell hX (q1 1 (by omega)), Ext.cell hX (q1 2 (by omega)), Ext.cell hX (q2 0 (by omega)), Ext.cell hX (q2 1 (by omega)), Ext.cell hX (q2 2 (by omega)), Ext.cell hX (q4 0 (by omega)), Ext.cell hX (q4 1 (by omega)), Ext.cell hX (q4 2 (by omega))⟩ :
    X.cell? ⟨g6, 3, none⟩ = some (.int .u8 3) ∧ X.cell? ⟨g6, 4, none⟩ = some (.int .i64 1) ∧ X.cell? ⟨g6, 5, none⟩ = some (.int .i64 1) ∧ X.cell? ⟨g6, 6, none⟩ = some (.int .u8 3) ∧ X.cell? ⟨g6, 7, none⟩ = some (.int .i64 0) ∧ X.cell? ⟨g6, 8, none⟩ = some (.int .i64 0) ∧
    X.cell? ⟨g6, 12, none⟩ = some (.int .u8 18) ∧ X.cell? ⟨g6, 13, none⟩ = some (.int .i64 0) ∧ X.cell? ⟨g6, 14, none⟩ = some (.int .i64 0)))
  have hr6 := hu6.rdS (by simp [codeK]) (fun x hx => by simp [codeK] at hx; rcases hx with rfl | rfl | rfl | rfl | rfl <;> (constructor <;> decide))
  have h3 := codeChk_any placesK codeK _ _ w6 (HR5.out.ext E6') hr6
  unfold RetCk at h3
  rw [chk_k] at h3
  have H3 := Lib.hid h3
  clear hu6 hr6 h3 H2 q1 q2 q4 HPY HLX y0 y1 y2 y3
  go_wp2_with fail
  refine H3.out.mono ?_
  rintro e w7 ⟨rfl, E7⟩
  have h4 := codeChk_any [] [] _ _ w7 (RdPlS.nil _) (RdIsS.nil _)
  unfold RetCk at h4
  rw [chk_none] at h4
  have H4 := Lib.hid h4
  clear h4 H3
  go_wp2_with fail
  refine H4.out.mono ?_
  rintro e w8 ⟨rfl, E8'⟩
  have E8 := E7.trans E8'
  have b9 := heap_alloc_new w8 (.cells #[.int .u8 2, .int .i64 1, .int .i64 0, .int .u8 5, .int .i64 0, .int .i64 0] 53)
  have e9 := (Chg.refl (fun _ => False) w8).alloc (.cells #[.int .u8 2, .int .i64 1, .int .i64 0, .int .u8 5, .int .i64 0, .int .i64 0] 53)
  have hr9 : RdIsS (w8.alloc (.cells #[.int .u8 2, .int .i64 1, .int .i64 0, .int .u8 5, .int .i64 0, .int .i64 0] 53)) [⟨2, 1, 0⟩, ⟨5, 0, 0⟩] (.slice (some ⟨w8.heap.size, 0, none⟩) 2 2) := by
    refine ⟨_, _, rfl, by simp [fitsR], Nat.le_refl _, by simp [maxLen], fun i x hx => ?_⟩
    match i, hx with
    | 0, hx =>
      simp only [List.getElem?_cons_zero, Option.some.injEq] at hx
      subst hx
      refine ⟨⟨by decide, by decide⟩, _, 0, rfl, lt_of_block b9, fun c hc => ?_⟩
      match c, hc with
      | 0, _ => exact (blk_cell b9 _).trans rfl
      | 1, _ => exact (blk_cell b9 _).trans rfl
      | 2, _ => exact (blk_cell b9 _).trans rfl
    | 1, hx =>
      simp only [List.getElem?_cons_succ, List.getElem?_cons_zero, Option.some.injEq] at hx
      subst hx
      refine ⟨⟨by decide, by decide⟩, _, 0, rfl, lt_of_block b9, fun c hc => ?_⟩
      match c, hc with
      | 0, _ => exact (blk_cell b9 _).trans rfl
      | 1, _ => exact (blk_cell b9 _).trans rfl
      | 2, _ => exact (blk_cell b9 _).trans rfl
    | i + 2, hx => simp at hx
  have h5 := codeChk_any [] [⟨2, 1, 0⟩, ⟨5, 0, 0⟩] _ _ _ (RdPlS.nil _) hr9
  unfold RetCk at h5
  rw [chk_not] at h5
  have H5 := Lib.hid h5
  clear h5 H4 hr9 b9
  go_wp2_with fail
  refine H5.out.mono ?_
  rintro e w10 ⟨rfl, E10'⟩
  have E10 := (E8.trans e9).trans E10'
  obtain ⟨r1, r2, r3, r4, r5, r6, r7, r8, r9⟩ := HK.out _ E10
  have FE := (F1.trans E6).trans E10
  clear HK H5 E10' e9 E8 E10 E8' E7 E6 E6' E5 F1
  go_wp2_with fail
  go_ret
  exact ⟨rfl, FE⟩
end Go.Proofs.YtgkbhonjodcakaaGreat
namespace Go.Proofs.YtgkbhonjodcakaaGreat
open Go.RowKit Go.ChangeShapes Go.WideShapes Go.Deep
set_option linter.unusedVariables false
set_option maxRecDepth 100000
theorem spot_of_cell {w : World} {a : Addr} {v : Value} (h : w.cell? a = some v) : a.spot = none := by
  unfold World.cell? at h
  split at h
  · split at h
    · simp at h
    · rename_i h1; simpa using h1
  · simp at h
/-- A cell behind an address, spelt out. -/
theorem cell_spelt {w : World} {a : Addr} {n : Nat} {v : Value} (h : w.cell? (a.add n) = some v) : w.cell? ⟨a.block, a.off + n, none⟩ = some v := by
  by_cases hn : n = 0
  · subst hn
    have h0 : w.cell? a = some v := by simpa [Addr.add] using h
    have hs := spot_of_cell h0
    obtain ⟨b, o, sp⟩ := a
    simp only at hs
    subst hs
    simpa using h0
  · simpa [Addr.add, hn] using h
theorem spot_of_add {w : World} {a : Addr} {v : Value} (h : w.cell? (a.add 0) = some v) : a.spot = none := by
  have h0 : w.cell? a = some v := by simpa [Addr.add] using h
  exact spot_of_cell h0
theorem wf_u8 {n : Int} (h : (Lit.int .u8 n).wf = true) : isU8 n := by simpa [isU8, Lit.wf, IntKind.min, IntKind.max, IntKind.signed, IntKind.bits] using h
theorem one_of {v u : Value} (h : [v] = [u]) : v = u := by simpa using h
/-- Nothing that is met weighs more than the reach. -/
def Lite {H : Type} (P : Program) (t : TypeId) (d : DataW H) : Prop := ∀ n ∈ d.weights P t, n ≤ reachBytes
theorem Lite.elems {H : Type} {P : Program} {t e : TypeId} {l sp : List (DataW H)} (h : Lite P t (.slice l sp)) (hu : P.underlying t = some (.slice e)) : (l.length + sp.length) * P.bytesOf e ≤ reachBytes ∧ ∀ d, d ∈ l → Lite P e d := by
  unfold Lite at h
  simp only [DataW.weights, hu] at h
  refine ⟨h _ (by simp), fun d hd n hn => h n ?_⟩
  have key : ∀ l : List (DataW H), d ∈ l → n ∈ DataW.weightsAll P e l := by
    intro l hd
    induction l with
    | nil => simp at hd
    | cons x r ih =>
      simp only [DataW.weightsAll, List.mem_append]
      rcases List.mem_cons.1 hd with rfl | hr
      · exact .inl hn
      · exact .inr (ih hr)
  simp only [List.mem_cons, List.mem_append]
  exact .inr (.inl (key l hd))
theorem Lite.field {H : Type} {P : Program} {t : TypeId} {fs : Array Field} {l : List (DataW H)} (h : Lite P t (.agg l)) (hu : P.underlying t = some (.struct fs)) {j : Nat} {f : Field} {d : DataW H} (hf : fs[j]? = some f) (hd : l[j]? = some d) : Lite P f.type d := by
  unfold Lite at h ⊢
  simp only [DataW.weights, hu] at h
  intro n hn
  exact h n (DataW.weights_mem_each (j := j) (t := f.type) (d := d) (by simp [hf]) hd n hn)
theorem agg_get {H : Type} {xs : List (DataW H × List MemPlace)} {j : Nat} {y : DataW H × List MemPlace} (h : xs[j]? = some y) : (xs.map (·.1))[j]? = some y.1 := by simp [h]
section
variable {H : Type} {enc : TypeId × Value → H} {w : World}
/-- A reading of an argument, spare room and all. -/
abbrev TR {H : Type} (enc : TypeId × Value → H) (w : World) (fuel : Nat) (t : TypeId) (cs : List Value) (x : DataW H × List MemPlace) : Prop := DataW.trod enc Tryz.prog w 0 (fun _ => true) true fuel t cs = some x
theorem slice_open {t e : TypeId} {fuel : Nat} {cs : List Value} {x : DataW H × List MemPlace} (ht : Tryz.prog.underlying t = some (.slice e)) (hC : 0 < Tryz.prog.cellsOf e) (h : TR enc w fuel t cs x) (hl : Lite Tryz.prog t x.1) :
    ∃ a len cap, cs = [.slice a len cap] ∧ len * Tryz.prog.bytesOf e ≤ reachBytes ∧ len ≤ cap ∧ cap ≤ maxLen ∧ ∃ n, n < fuel ∧ ∀ i, i < len → ∃ b o cs' y, a = some ⟨b, o, none⟩ ∧ b < w.heap.size ∧ cs'.length = Tryz.prog.cellsOf e ∧
      (∀ j, j < Tryz.prog.cellsOf e → w.cell? ⟨b, o + i * Tryz.prog.cellsOf e + j, none⟩ = cs'[j]?) ∧ TR enc w n e cs' y ∧ Lite Tryz.prog e y.1 := by
  rcases DataW.trod_slice ht h with ⟨rfl, hx⟩ | ⟨a, len, cap, elems, rest, n, rfl, rfl, hx, _, hlen, hcap, hel, hi, _⟩
  · have hf : 0 < fuel := by
      cases fuel with
      | zero => simp [TR, DataW.trod] at h
      | succ n => omega
    exact ⟨none, 0, 0, rfl, by simp, by simp, by simp, 0, hf, fun i hi => by omega⟩
  · subst hx
    obtain ⟨hw, hle⟩ := hl.elems ht
    refine ⟨some a, len, cap, rfl, Nat.le_trans (Nat.mul_le_mul_right _ (by simp; omega)) hw, hlen, hcap, n, by omega, fun i hil => ?_⟩
    have hi' := hi i hil
    rw [List.getElem?_eq_getElem (by omega)] at hi'
    obtain ⟨cs', hc, ht'⟩ := Option.bind_eq_some_iff.1 hi'
    obtain ⟨_, hcl, hat⟩ := World.cells?_some hc
    have h0 := hat 0 hC
    rw [List.getElem?_eq_getElem (by omega), Go.Deep.add_add] at h0
    have hb := World.block_lt_of_cell? w _ (cell_spelt h0)
    have hsp : a.spot = none := by
      have hi0 := hi 0 (by omega)
      rw [List.getElem?_eq_getElem (by omega)] at hi0
      obtain ⟨cs0, hc0, _⟩ := Option.bind_eq_some_iff.1 hi0
      obtain ⟨_, hcl0, hat0⟩ := World.cells?_some hc0
      have h00 := hat0 0 hC
      rw [List.getElem?_eq_getElem (by omega), Go.Deep.add_add, Nat.zero_mul] at h00
      exact spot_of_add h00
    obtain ⟨b, o, sp⟩ := a
    simp only at hsp
    subst hsp
    refine ⟨b, o, cs', _, rfl, hb, hcl, fun j hj => ?_, ht', hle _ (by simp only [List.mem_map]; exact ⟨_, List.getElem_mem _, rfl⟩)⟩
    have hj' := hat j hj
    rw [List.getElem?_eq_getElem (by omega), Go.Deep.add_add] at hj'
    have := cell_spelt hj'
    simp only [← Nat.add_assoc] at this
    rw [this, List.getElem?_eq_getElem (by omega)]
theorem len3 {α : Type} {l : List α} (h : l.length = 3) : ∃ a b c, l = [a, b, c] := by
  match l, h with
  | [a, b, c], _ => exact ⟨a, b, c, rfl⟩
/-- A struct's reading: field by field, each no weightier than the reach. -/
theorem struct_open {t : TypeId} {fs : Array Field} {fuel : Nat} {cs : List Value} {x : DataW H × List MemPlace} (ht : Tryz.prog.underlying t = some (.struct fs)) (h : TR enc w fuel t cs x) (hl : Lite Tryz.prog t x.1) :
    ∃ n, n < fuel ∧ cs.length = Tryz.prog.cellsOf t ∧ ∀ (j : Nat) (f : Field) (k : Nat), fs[j]? = some f → Tryz.prog.cellsOf f.type = k → ∃ y, TR enc w n f.type ((cs.drop f.offset).take k) y ∧ Lite Tryz.prog f.type y.1 := by
  obtain ⟨xs, n, rfl, rfl, hc, hxs, hf⟩ := DataW.trod_struct ht h
  refine ⟨n, by omega, hc, fun j f k hj hk => ?_⟩
  subst hk
  have hjl : j < fs.size := (Array.getElem?_eq_some_iff.1 hj).1
  have h1 := hf j f hj
  have hy : xs[j]? = some (xs[j]'(by omega)) := List.getElem?_eq_getElem (by omega)
  rw [hy] at h1
  exact ⟨_, h1, hl.field ht hj (agg_get hy)⟩
end
end Go.Proofs.YtgkbhonjodcakaaGreat
namespace Go.Proofs.YtgkbhonjodcakaaGreat
open Go.RowKit Go.ChangeShapes Go.WideShapes Go.Deep
set_option linter.unusedVariables false
section
variable {H : Type} {enc : TypeId × Value → H} {w : World}
theorem len6 {α : Type} {l : List α} (h : l.length = 6) : ∃ a b c d e f, l = [a, b, c, d, e, f] := by
  match l, h with
  | [a, b, c, d, e, f], _ => exact ⟨a, b, c, d, e, f, rfl⟩
theorem iss_open {fuel : Nat} {cs : List Value} {x : DataW H × List MemPlace} (h : TR enc w fuel 44 cs x) (hl : Lite Tryz.prog 44 x.1) : ∃ v, cs = [v] ∧ ∃ l : List IsD, RdIsS w l v := by
  obtain ⟨a, len, cap, rfl, hw, hlen, hcap, n, _, hi⟩ := slice_open Tryz.underlying44 (by decide +kernel) h hl
  rw [show Tryz.prog.bytesOf 53 = 24 from by kernel_rfl] at hw
  rw [show Tryz.prog.cellsOf 53 = 3 from by kernel_rfl] at hi
  simp only [reachBytes] at hw
  have key : ∀ i, i < len → ∃ x : IsD, isU8 x.op ∧ ∃ b o, a = some ⟨b, o, none⟩ ∧ b < w.heap.size ∧ ∀ c, c < 3 → w.cell? ⟨b, o + i * 3 + c, none⟩ = (isC x)[c]? := by
    intro i hil
    obtain ⟨b, o, cs', y, ha, hb, hcl, hc, ht, hy⟩ := hi i hil
    obtain ⟨n', _, _, hf⟩ := struct_open Tryz.underlying53 ht hy
    obtain ⟨c0, c1, c2, rfl⟩ := len3 hcl
    obtain ⟨y0, t0, _⟩ := hf 0 _ 1 rfl (by kernel_rfl)
    obtain ⟨y1, t1, _⟩ := hf 1 _ 1 rfl (by kernel_rfl)
    obtain ⟨y2, t2, _⟩ := hf 2 _ 1 rfl (by kernel_rfl)
    obtain ⟨n0, e0, _, f0⟩ := DataW.trod_int Tryz.underlying38 t0
    obtain ⟨n1, e1, _, f1⟩ := DataW.trod_int Tryz.underlying2 t1
    obtain ⟨n2, e2, _, f2⟩ := DataW.trod_int Tryz.underlying3 t2
    obtain rfl := one_of e0
    obtain rfl := one_of e1
    obtain rfl := one_of e2
    exact ⟨⟨n0, n1, n2⟩, wf_u8 f0, b, o, ha, hb, fun c hcc => hc c hcc⟩
  haveI : Inhabited IsD := ⟨⟨0, 0, 0⟩⟩
  obtain ⟨S, hS⟩ := choose_lt (α := IsD) key
  refine ⟨_, rfl, (List.range len).map S, a, cap, by simp, by simp [fitsR]; omega, by simpa using hlen, hcap, fun i x hx => ?_⟩
  have hil : i < len := by have := (List.getElem?_eq_some_iff.1 hx).1; simpa using this
  obtain rfl : S i = x := by simpa [hil] using hx
  exact hS i hil
theorem pls_open {fuel : Nat} {cs : List Value} {x : DataW H × List MemPlace} (h : TR enc w fuel 34 cs x) (hl : Lite Tryz.prog 34 x.1) : ∃ v, cs = [v] ∧ ∃ l : List PlD, RdPlS w l v := by
  obtain ⟨a, len, cap, rfl, hw, hlen, hcap, n, _, hi⟩ := slice_open Tryz.underlying34 (by decide +kernel) h hl
  rw [show Tryz.prog.bytesOf 51 = 56 from by kernel_rfl] at hw
  rw [show Tryz.prog.cellsOf 51 = 6 from by kernel_rfl] at hi
  simp only [reachBytes] at hw
  have key : ∀ i, i < len → ∃ x : PlD, ∃ b o, a = some ⟨b, o, none⟩ ∧ b < w.heap.size ∧ ∀ c, c < 6 → w.cell? ⟨b, o + i * 6 + c, none⟩ = (plC x)[c]? := by
    intro i hil
    obtain ⟨b, o, cs', y, ha, hb, hcl, hc, ht, hy⟩ := hi i hil
    obtain ⟨n', _, _, hf⟩ := struct_open Tryz.underlying51 ht hy
    obtain ⟨c0, c1, c2, c3, c4, c5, rfl⟩ := len6 hcl
    obtain ⟨y0, t0, _⟩ := hf 0 _ 1 rfl (by kernel_rfl)
    obtain ⟨y1, t1, _⟩ := hf 1 _ 1 rfl (by kernel_rfl)
    obtain ⟨y2, t2, _⟩ := hf 2 _ 1 rfl (by kernel_rfl)
    obtain ⟨y3, t3, _⟩ := hf 3 _ 1 rfl (by kernel_rfl)
    obtain ⟨y4, t4, _⟩ := hf 4 _ 1 rfl (by kernel_rfl)
    obtain ⟨y5, t5, _⟩ := hf 5 _ 1 rfl (by kernel_rfl)
    obtain ⟨n0, e0, _, f0⟩ := DataW.trod_string Tryz.underlying9 t0
    obtain ⟨n1, e1, _, f1⟩ := DataW.trod_int Tryz.underlying37 t1
    obtain ⟨n2, e2, _, f2⟩ := DataW.trod_int Tryz.underlying3 t2
    obtain ⟨n3, e3, _⟩ := DataW.trod_bool Tryz.underlying4 t3
    obtain ⟨n4, e4, _, f4⟩ := DataW.trod_int Tryz.underlying3 t4
    obtain ⟨n5, e5, _, f5⟩ := DataW.trod_int Tryz.underlying2 t5
    obtain rfl := one_of e0
    obtain rfl := one_of e1
    obtain rfl := one_of e2
    obtain rfl := one_of e3
    obtain rfl := one_of e4
    obtain rfl := one_of e5
    exact ⟨⟨n0, n1, n2, n3, n4, n5⟩, b, o, ha, hb, fun c hcc => hc c hcc⟩
  haveI : Inhabited PlD := ⟨⟨⟨#[]⟩, 0, 0, false, 0, 0⟩⟩
  obtain ⟨S, hS⟩ := choose_lt (α := PlD) key
  refine ⟨_, rfl, (List.range len).map S, a, cap, by simp, by simp [fitsR]; omega, by simpa using hlen, hcap, fun i x hx => ?_⟩
  have hil : i < len := by have := (List.getElem?_eq_some_iff.1 hx).1; simpa using this
  obtain rfl : S i = x := by simpa [hil] using hx
  exact hS i hil
end
end Go.Proofs.YtgkbhonjodcakaaGreat
