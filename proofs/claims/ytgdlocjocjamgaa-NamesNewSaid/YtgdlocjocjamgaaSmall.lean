/- The chapter's program, concrete. -/
import Derived.Test.YtgdlocjocjamgaaRefNChk
namespace Go.Proofs.Ytgdlocjocjamgaa
open Go.RowKit
set_option linter.unusedVariables false
set_option linter.unusedSimpArgs false

instance decU8 (x : Int) : Decidable (isU8 x) := inferInstanceAs (Decidable (_ ∧ _))
instance decI64 (x : Int) : Decidable (isI64 x) := inferInstanceAs (Decidable (_ ∧ _))
theorem chain1 {w w0 : World} {o : Obj} (h : w.alloc o = w0) : w0.heap.size = w.heap.size + 1 ∧ w0.heap[w.heap.size]? = some o ∧ Ext w w0 := by
  subst h
  exact ⟨by simp, World.alloc_heap_new w o, (Chg.refl _ _).alloc _⟩
def sA : ByteArray := ⟨#[97]⟩
def sX : ByteArray := ⟨#[120]⟩
def sY : ByteArray := ⟨#[121]⟩
def sNo : ByteArray := ⟨#[]⟩
def bodyS : Ex := .mk 11 0 sNo [.mk 3 0 sA [], .mk 1 1 sNo []]
def flowS : FlD := ⟨sX, 2, 2, 0, bodyS⟩
def smallP : PrD := ⟨2, [⟨sA, 1, 1⟩], [flowS], [sX]⟩
def flCells (B : Nat) : Array Value := #[.string ⟨#[120]⟩, .int .u8 2, .int .i64 2, .int .i64 0, .int .u8 11, .int .i64 0, .string ⟨#[]⟩, .slice (some ⟨B + 1, 0, none⟩) 2 2]
def smallC (B : Nat) : Array Value := #[.int .i64 2, .slice (some ⟨B + 3, 0, none⟩) 1 1, .slice (some ⟨B + 4, 0, none⟩) 1 1, .slice (some ⟨B + 5, 0, none⟩) 1 1]
/-- The blocks of the chapter's program: its body's parts, what comes from without, its flow, its out. -/
def ExsAt (W : World) (B : Nat) : Prop := W.heap[B + 1]? = some (.cells #[.int .u8 3, .int .i64 0, .string ⟨#[97]⟩, .slice none 0 0, .int .u8 1, .int .i64 1, .string ⟨#[]⟩, .slice none 0 0] 43 (0, 0))
def SmallAt (W : World) (B : Nat) : Prop := ExsAt W B ∧ W.heap[B + 3]? = some (.cells #[.string ⟨#[97]⟩, .int .u8 1, .int .i64 1] 39 (0, 0)) ∧ W.heap[B + 4]? = some (.cells (flCells B) 45 (0, 0)) ∧ W.heap[B + 5]? = some (.cells #[.string ⟨#[120]⟩] 9 (0, 0))
theorem SmallAt.ext {W W' : World} {B : Nat} (h : SmallAt W B) (he : Ext W W') : SmallAt W' B := ⟨Ext.heap he h.1, Ext.heap he h.2.1, Ext.heap he h.2.2.1, Ext.heap he h.2.2.2⟩
theorem rdE_nil (W : World) (op n : Int) (s : ByteArray) (h1 : isU8 op) (h2 : isI64 n) (h3 : s.size ≤ maxLen) : RdEx W 0 false (.mk op n s []) [.int .u8 op, .int .i64 n, .string s, .slice none 0 0] := by
  unfold RdEx
  refine ⟨none, 0, rfl, h1, h2, h3, by simp [fitsR], Nat.le_refl _, Nat.zero_le _, ?_, fun h => by cases h⟩
  unfold RdExs
  trivial
theorem ExsAt.rd {W : World} {B : Nat} (h : ExsAt W B) : RdExV W 0 false bodyS.args (.slice (some ⟨B + 1, 0, none⟩) 2 2) := by
  have hl := lt_of_block h
  refine ⟨some ⟨B + 1, 0, none⟩, 2, rfl, by simp [fitsR, bodyS, Ex.args], Nat.le_refl _, by decide, RdExs.mk (fun {i x} hx => ?_), fun h => by cases h⟩
  have hx' : [Ex.mk 3 0 sA [], Ex.mk 1 1 sNo []][i]? = some x := hx
  match i, hx' with
  | 0, hx' =>
    simp only [List.getElem?_cons_zero, Option.some.injEq] at hx'
    subst hx'
    exact ⟨B + 1, 0, _, _, _, _, rfl, Nat.zero_le _, hl, (blk_cell h 0).trans rfl, (blk_cell h 1).trans rfl, (blk_cell h 2).trans rfl, (blk_cell h 3).trans rfl, rdE_nil W 3 0 sA (by decide) (by decide) (by decide)⟩
  | 1, hx' =>
    simp only [List.getElem?_cons_zero, List.getElem?_cons_succ, Option.some.injEq] at hx'
    subst hx'
    exact ⟨B + 1, 0, _, _, _, _, rfl, Nat.zero_le _, hl, (blk_cell h 4).trans rfl, (blk_cell h 5).trans rfl, (blk_cell h 6).trans rfl, (blk_cell h 7).trans rfl, rdE_nil W 1 1 sNo (by decide) (by decide) (by decide)⟩
  | n + 2, hx' => simp at hx'
theorem flS_rd2 {W : World} {B F : Nat} {n cap : Nat} {cs : Array Value} (h : ExsAt W B) (hf : W.heap[F]? = some (.cells cs 45 (0, 0))) (hn : n ≤ 100 ∧ n ≤ cap) (hcap : cap ≤ maxLen) (hcs : ∀ i j, i < n → j < 8 → cs[i * 8 + j]? = (flCells B)[j]?) :
    RdFlV W 0 false (List.replicate n flowS) (.slice (some ⟨F, 0, none⟩) n cap) := by
  have hl := lt_of_block hf
  refine ⟨some ⟨F, 0, none⟩, cap, by rw [List.length_replicate], by rw [List.length_replicate]; unfold fitsR; omega, by rw [List.length_replicate]; exact hn.2, hcap, fun i x hx => ?_, fun h => by cases h⟩
  obtain ⟨hi, e⟩ := List.getElem?_eq_some_iff.1 hx
  rw [List.length_replicate] at hi
  rw [List.getElem_replicate] at e
  subst e
  have c : ∀ j, j < 8 → W.cell? ⟨F, 0 + i * 8 + j, none⟩ = (flCells B)[j]? := fun j hj => by rw [blk_cell hf, Nat.zero_add]; exact hcs i j hi hj
  exact ⟨by decide, by decide, by decide, by decide, F, 0, rfl, Nat.zero_le _, hl, (c 0 (by omega)).trans rfl, (c 1 (by omega)).trans rfl, (c 2 (by omega)).trans rfl, (c 3 (by omega)).trans rfl, by decide, by decide, by decide, _, h.rd,
    (c 4 (by omega)).trans rfl, (c 5 (by omega)).trans rfl, (c 6 (by omega)).trans rfl, (c 7 (by omega)).trans rfl⟩
theorem flS_rd {W : World} {B F : Nat} {n : Nat} {cs : Array Value} (h : ExsAt W B) (hf : W.heap[F]? = some (.cells cs 45 (0, 0))) (hn : n ≤ 100) (hcs : ∀ i j, i < n → j < 8 → cs[i * 8 + j]? = (flCells B)[j]?) :
    RdFlV W 0 false (List.replicate n flowS) (.slice (some ⟨F, 0, none⟩) n n) := by
  exact flS_rd2 h hf ⟨hn, Nat.le_refl _⟩ (by unfold maxLen; omega) hcs
theorem str1_rd {W : World} {b : Nat} {s : ByteArray} (hs : s.size ≤ maxLen) (h : W.heap[b]? = some (.cells #[.string s] 9 (0, 0))) : RdStrV W 0 false [s] (.slice (some ⟨b, 0, none⟩) 1 1) := by
  have hl := lt_of_block h
  refine ⟨some ⟨b, 0, none⟩, 1, rfl, by simp [fitsR], Nat.le_refl _, by decide, fun i x hx => ?_, fun h => by cases h⟩
  match i, hx with
  | 0, hx =>
    simp only [List.getElem?_cons_zero, Option.some.injEq] at hx
    subst hx
    exact ⟨hs, b, 0, rfl, Nat.zero_le _, hl, (blk_cell h 0).trans rfl⟩
  | n + 1, hx => simp at hx
theorem in1_rd {W : World} {b : Nat} (h : W.heap[b]? = some (.cells #[.string ⟨#[97]⟩, .int .u8 1, .int .i64 1] 39 (0, 0))) : RdInV W 0 false [(⟨sA, 1, 1⟩ : InD)] (.slice (some ⟨b, 0, none⟩) 1 1) := by
  have hl := lt_of_block h
  refine ⟨some ⟨b, 0, none⟩, 1, rfl, by simp [fitsR], Nat.le_refl _, by decide, fun i x hx' => ?_, fun h => by cases h⟩
  match i, hx' with
  | 0, hx' =>
    simp only [List.getElem?_cons_zero, Option.some.injEq] at hx'
    subst hx'
    exact ⟨by decide, by decide, by decide, b, 0, rfl, Nat.zero_le _, hl, (blk_cell h 0).trans rfl, (blk_cell h 1).trans rfl, (blk_cell h 2).trans rfl⟩
  | n + 1, hx' => simp at hx'
theorem SmallAt.ins {W : World} {B : Nat} (h : SmallAt W B) : RdInV W 0 false smallP.ins (.slice (some ⟨B + 3, 0, none⟩) 1 1) := by
  have hl := lt_of_block h.2.1
  refine ⟨some ⟨B + 3, 0, none⟩, 1, rfl, by simp [fitsR, smallP], Nat.le_refl _, by decide, fun i x hx => ?_, fun h => by cases h⟩
  have hx' : [(⟨sA, 1, 1⟩ : InD)][i]? = some x := hx
  match i, hx' with
  | 0, hx' =>
    simp only [List.getElem?_cons_zero, Option.some.injEq] at hx'
    subst hx'
    exact ⟨by decide, by decide, by decide, B + 3, 0, rfl, Nat.zero_le _, hl, (blk_cell h.2.1 0).trans rfl, (blk_cell h.2.1 1).trans rfl, (blk_cell h.2.1 2).trans rfl⟩
  | n + 1, hx' => simp at hx'
theorem SmallAt.fl {W : World} {B : Nat} (h : SmallAt W B) : RdFlV W 0 false smallP.flows (.slice (some ⟨B + 4, 0, none⟩) 1 1) :=
  flS_rd (n := 1) h.1 h.2.2.1 (by omega) (fun i j hi hj => by obtain rfl : i = 0 := (by omega); rw [Nat.zero_mul, Nat.zero_add])
theorem SmallAt.rd {W : World} {B : Nat} (h : SmallAt W B) : RdPr W 0 false smallP (smallC B) := ⟨_, _, _, rfl, by decide, h.ins, h.fl, str1_rd (s := sX) (by decide) h.2.2.2⟩
theorem small_any (w : World) : Calls Try.prog 33 #[] w fun e w' => e = .returned (.agg (smallC w.heap.size)) ∧ SmallAt w' w.heap.size ∧ Ext w w' := by
  go_enter Try.func33, Try.ntmps33
  go_wp2_with fail
  generalize hw0 : w.alloc _ = w0
  obtain ⟨s0, b0, e0⟩ := chain1 hw0
  generalize hw1 : w0.alloc _ = w1
  obtain ⟨s1, b1, e1⟩ := chain1 hw1
  generalize hw2 : w1.alloc _ = w2
  obtain ⟨s2, b2, e2⟩ := chain1 hw2
  generalize hw3 : w2.alloc _ = w3
  obtain ⟨s3, b3, e3⟩ := chain1 hw3
  generalize hw4 : w3.alloc _ = w4
  obtain ⟨s4, b4, e4⟩ := chain1 hw4
  generalize hw5 : w4.alloc _ = w5
  obtain ⟨s5, b5, e5⟩ := chain1 hw5
  rw [s0] at b1
  rw [show w2.heap.size = w.heap.size + 3 from by omega] at b3
  rw [show w3.heap.size = w.heap.size + 4 from by omega] at b4
  rw [show w4.heap.size = w.heap.size + 5 from by omega] at b5
  have B0 := Ext.heap ((((e1.trans e2).trans e3).trans e4).trans e5) b0
  have c0 := blk_cell B0 0
  have c1 := blk_cell B0 1
  have c2 := blk_cell B0 2
  have c3 := blk_cell B0 3
  simp only [List.getElem?_toArray, List.getElem?_cons_zero, List.getElem?_cons_succ] at c0 c1 c2 c3
  refine bodyPost_ret (v := .agg (smallC w.heap.size)) ?_ rfl ⟨rfl, ⟨Ext.heap (((e2.trans e3).trans e4).trans e5) b1, Ext.heap (e4.trans e5) b3, Ext.heap e5 b4, b5⟩, ((((e0.trans e1).trans e2).trans e3).trans e4).trans e5⟩
  simp [results, Try.results33, go_sem, c0, c1, c2, c3, smallC]
def twoP : PrD := ⟨2, [⟨sA, 1, 1⟩], [flowS, flowS], [sX]⟩
def outP : PrD := ⟨2, [⟨sA, 1, 1⟩], [flowS], [sY]⟩
def zeroP : PrD := ⟨0, [], [], []⟩
theorem nm_A : nameP sA = true := by decide +kernel
theorem nm_X : nameP sX = true := by decide +kernel
theorem nm_Y : nameP sY = true := by decide +kernel
theorem ok_body : okE 32 200 bodyS = true := by
  simp [okE, bodyS, wfE, wfL, nodesE, nodesL, headP, partsP, hasOp, pairsD, nm_A, sNo, ByteArray.toList_eq]
theorem pr_small : progP smallP = true := by simp [progP, smallP, inBad, flBad, mayP, flowS, nm_A, nm_X, ok_body]
theorem pr_two : progP twoP = true := by simp [progP, twoP, inBad, flBad, mayP, flowS, nm_A, nm_X, ok_body]
theorem pr_out : progP outP = true := by simp [progP, outP, inBad, flBad, mayP, flowS, nm_A, nm_X, nm_Y, ok_body]
theorem gth_body : namesE bodyS = [sA] := by simp [namesE, bodyS, gthE, gthL, stepR]
theorem ne_AX : sA ≠ sX := by decide +kernel
theorem ne_XY : sX ≠ sY := by decide +kernel
theorem ne_AY : sA ≠ sY := by decide +kernel
theorem n_small : namesP smallP = 0 := names_0 pr_small ⟨by simp [namesT_eq, smallP, flowS, ne_AX], by simp [askedL, smallP, namesF, flowS, gth_body, namesT_eq], by simp [smallP]⟩
theorem n_two : namesP twoP = 6 := names_6 pr_two (fun h => by have := h.1; simp [namesT_eq, twoP, flowS] at this)
theorem n_out : namesP outP = 6 := names_6 pr_out (fun h => by
  have := h.2.1 sY (by simp [askedL, outP])
  simp [namesT_eq, outP, flowS, ne_XY.symm, ne_AY.symm] at this)
theorem n_zero : namesP zeroP = 1 := names_1 (by simp [progP, zeroP])
theorem f_A : findP sA smallP.flows smallP.ins = (1, 1, -1, true) := by simp [smallP, findP]
theorem f_X : findP sX smallP.flows smallP.ins = (2, 2, 0, true) := by simp [smallP, findP, findFl, flowS, ne_AX]
theorem f_Y : findP sY smallP.flows smallP.ins = (0, 0, 0, false) := by simp [smallP, findP, findFl, flowS, ne_AY, ne_XY]
theorem zero_rd (W : World) : RdPr W 0 false zeroP #[.int .i64 0, .slice none 0 0, .slice none 0 0, .slice none 0 0] :=
  ⟨_, _, _, rfl, by decide, ⟨none, 0, rfl, by simp [fitsR, zeroP], Nat.zero_le _, Nat.zero_le _, fun i x hx => by simp [zeroP] at hx, fun h => by cases h⟩,
    ⟨none, 0, rfl, by simp [fitsR, zeroP], Nat.zero_le _, Nat.zero_le _, fun i x hx => by simp [zeroP] at hx, fun h => by cases h⟩,
    ⟨none, 0, rfl, by simp [fitsR, zeroP], Nat.zero_le _, Nat.zero_le _, fun i x hx => by simp [zeroP] at hx, fun h => by cases h⟩⟩
end Go.Proofs.Ytgdlocjocjamgaa
