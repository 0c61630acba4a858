/- What the chapter's laws of beginnings build, and the chapter's program. -/
import Derived.Test.YtcbdeoekehkbiaaStChk
import Derived.Test.YtcbdeoekehkbiaaTree
import Derived.Test.YtcbdeoekehkbiaaRowF
import Derived.Deep.RegionHeld3
namespace Go.Proofs.Ytcbdeoekehkbiaa
open Go.RowKit
set_option linter.unusedVariables false
set_option linter.unusedSimpArgs false

theorem chain1 {w w0 : World} {o : Obj} (h : w.alloc o = w0) : w0.heap.size = w.heap.size + 1 ∧ w0.heap[w.heap.size]? = some o ∧ Ext w w0 := by
  subst h
  exact ⟨by simp, World.alloc_heap_new w o, (Chg.refl _ _).alloc _⟩
def sA : ByteArray := ⟨#[97]⟩
def sC : ByteArray := ⟨#[99]⟩
def sX : ByteArray := ⟨#[120]⟩
def sNo : ByteArray := ⟨#[]⟩
def nmE (s : ByteArray) : Ex := .mk 3 0 s []
def opE (o : Int) (l : List Ex) : Ex := .mk o 0 sNo l
def noughtE : Ex := .mk 1 0 sNo []
theorem exa_nm (W : World) (s : ByteArray) (hs : s.size ≤ maxLen) : ExA W (nmE s) (.agg #[.int .u8 3, .int .i64 0, .string s, .slice none 0 0]) := exa_leaf W 3 0 s (by unfold isU8; omega) (by unfold isI64; omega) hs
theorem exa_nought (W : World) : ExA W noughtE (.agg #[.int .u8 1, .int .i64 0, .string ⟨#[]⟩, .slice none 0 0]) := exa_leaf W 1 0 sNo (by unfold isU8; omega) (by unfold isI64; omega) (by unfold sNo maxLen; simp [ByteArray.size])
theorem exa_op {W : World} {o : Int} {l : List Ex} {v : Value} (h1 : isU8 o) (h : RdExV W 0 false l v) : ExA W (opE o l) (.agg #[.int .u8 o, .int .i64 0, .string ⟨#[]⟩, v]) := exa_mk (s := sNo) h1 (by unfold isI64; omega) (by unfold sNo maxLen; simp [ByteArray.size]) h
theorem stName_any (s : ByteArray) (w : World) : Calls Try.prog 13 #[.string s] w fun e w' => e = .returned (.agg #[.int .u8 3, .int .i64 0, .string s, .slice none 0 0]) ∧ Ext w w' := by
  have e0 : ∀ o, Ext w (w.alloc o) := fun o => (Chg.refl _ _).alloc _
  go_enter Try.func13, Try.ntmps13
  go_wp2_with fail
  refine bodyPost_ret (v := .agg #[.int .u8 3, .int .i64 0, .string s, .slice none 0 0]) ?_ rfl ⟨rfl, e0 _⟩
  simp [results, Try.results13, go_sem]
theorem stNought_any (w : World) : Calls Try.prog 15 #[] w fun e w' => e = .returned (.agg #[.int .u8 1, .int .i64 0, .string ⟨#[]⟩, .slice none 0 0]) ∧ Ext w w' := by
  have e0 : ∀ o, Ext w (w.alloc o) := fun o => (Chg.refl _ _).alloc _
  go_enter Try.func15, Try.ntmps15
  go_wp2_with fail
  refine bodyPost_ret (v := .agg #[.int .u8 1, .int .i64 0, .string ⟨#[]⟩, .slice none 0 0]) ?_ rfl ⟨rfl, e0 _⟩
  simp [results, Try.results15, go_sem]
theorem stOfV_any (o : Int) (a : Option Addr) (n c : Nat) (w : World) : Calls Try.prog 14 #[.int .u8 o, .slice a n c] w fun e w' => e = .returned (.agg #[.int .u8 o, .int .i64 0, .string ⟨#[]⟩, .slice a n c]) ∧ Ext w w' := by
  have e0 : ∀ o, Ext w (w.alloc o) := fun o => (Chg.refl _ _).alloc _
  go_enter Try.func14, Try.ntmps14
  go_wp2_with fail
  refine bodyPost_ret (v := .agg #[.int .u8 o, .int .i64 0, .string ⟨#[]⟩, .slice a n c]) ?_ rfl ⟨rfl, e0 _⟩
  simp [results, Try.results14, go_sem]
/-- of, right behind its parts' block. -/
theorem stOf_new (o : Int) (B n c : Nat) (ob : Obj) (w : World) (hB : B = w.heap.size) : Calls Try.prog 14 #[.int .u8 o, .slice (some ⟨B, 0, none⟩) n c] (w.alloc ob) fun e w' => e = .returned (.agg #[.int .u8 o, .int .i64 0, .string ⟨#[]⟩, .slice (some ⟨B, 0, none⟩) n c]) ∧ w'.heap[B]? = some ob ∧ Ext w w' := by
  subst hB
  refine (stOfV_any o _ n c (w.alloc ob)).mono ?_
  rintro e w' ⟨rfl, h⟩
  exact ⟨rfl, Ext.heap h (World.alloc_heap_new w ob), ((Chg.refl _ _).alloc _).trans h⟩
theorem stNought_new (ob : Obj) (w : World) : Calls Try.prog 15 #[] (w.alloc ob) fun e w' => e = .returned (.agg #[.int .u8 1, .int .i64 0, .string ⟨#[]⟩, .slice none 0 0]) ∧ w'.heap[w.heap.size]? = some ob ∧ Ext w w' := by
  refine (stNought_any (w.alloc ob)).mono ?_
  rintro e w' ⟨rfl, h⟩
  exact ⟨rfl, Ext.heap h (World.alloc_heap_new w ob), ((Chg.refl _ _).alloc _).trans h⟩
/-- The chapter's program, with a flow. -/
def smallS (x : Ex) : PrD := ⟨1, [⟨sA, 1, 1⟩], [⟨sX, 1, 1, 0, x⟩], []⟩
def RetPr (p : PrD) (w : World) (e : Ending) (w' : World) : Prop := ∃ cs, e = .returned (.agg cs) ∧ RdPr w' 0 false p cs ∧ Ext w w'
theorem in1_rd {W : World} {b : Nat} (h : W.heap[b]? = some (.cells #[.string ⟨#[97]⟩, .int .u8 1, .int .i64 1] 64 (0, 0))) : RdInV W 0 false [(⟨sA, 1, 1⟩ : InD)] (.slice (some ⟨b, 0, none⟩) 1 1) := by
  have hl := lt_of_block h
  refine ⟨some ⟨b, 0, none⟩, 1, rfl, by simp [fitsR], Nat.le_refl _, by decide, fun i x hx' => ?_, fun h => by cases h⟩
  match i, hx' with
  | 0, hx' =>
    simp only [List.getElem?_cons_zero, Option.some.injEq] at hx'
    subst hx'
    exact ⟨by unfold sA maxLen; simp [ByteArray.size], by unfold isU8; simp, by unfold isI64; simp, b, 0, rfl, Nat.zero_le _, hl, (blk_cell h 0).trans rfl, (blk_cell h 1).trans rfl, (blk_cell h 2).trans rfl⟩
  | n + 1, hx' => simp at hx'
theorem fl1_rd {W : World} {b : Nat} {s : ByteArray} {ty st df op n : Int} {nm : ByteArray} {l : List Ex} {v : Value} (h : W.heap[b]? = some (.cells #[.string s, .int .u8 ty, .int .i64 st, .int .i64 df, .int .u8 op, .int .i64 n, .string nm, v] 50 (0, 0)))
    (h1 : s.size ≤ maxLen) (h2 : isU8 ty) (h3 : isI64 st) (h4 : isI64 df) (h5 : isU8 op) (h6 : isI64 n) (h7 : nm.size ≤ maxLen) (hv : RdExV W 0 false l v) : RdFlV W 0 false [(⟨s, ty, st, df, .mk op n nm l⟩ : FlD)] (.slice (some ⟨b, 0, none⟩) 1 1) := by
  have hl := lt_of_block h
  refine ⟨some ⟨b, 0, none⟩, 1, rfl, by simp [fitsR], Nat.le_refl _, by decide, fun i x hx' => ?_, fun h => by cases h⟩
  match i, hx' with
  | 0, hx' =>
    simp only [List.getElem?_cons_zero, Option.some.injEq] at hx'
    subst hx'
    exact ⟨h1, h2, h3, h4, b, 0, rfl, Nat.zero_le _, hl, (blk_cell h 0).trans rfl, (blk_cell h 1).trans rfl, (blk_cell h 2).trans rfl, (blk_cell h 3).trans rfl, h5, h6, h7, v, hv, (blk_cell h 4).trans rfl, (blk_cell h 5).trans rfl, (blk_cell h 6).trans rfl, (blk_cell h 7).trans rfl⟩
  | n + 1, hx' => simp at hx'
theorem stSmall_any (x : Ex) (v : Value) (w : World) (h : ExA w x v) : Calls Try.prog 33 #[v] w (RetPr (smallS x) w) := by
  obtain ⟨a, rfl, h1, h2, h3, h4⟩ := h
  have H4 := Lib.hid h4
  obtain ⟨aa, cap, rfl, _⟩ := h4.form
  clear h4
  go_enter Try.func33, Try.ntmps33
  go_wp2_with fail
  generalize hw0 : w.alloc _ = w0
  obtain ⟨s0, b0, e0⟩ := chain1 hw0
  generalize hw1 : w0.alloc _ = w1
  obtain ⟨s1, b1, e1⟩ := chain1 hw1
  generalize hw2 : w1.alloc _ = w2
  obtain ⟨s2, b2, e2⟩ := chain1 hw2
  generalize hw3 : w2.alloc _ = w3
  obtain ⟨s3, b3, e3⟩ := chain1 hw3
  rw [s0] at b1
  rw [show w1.heap.size = w.heap.size + 1 + 1 from by omega] at b2
  rw [show w2.heap.size = w.heap.size + 1 + 1 + 1 from by omega] at b3
  have E := ((e0.trans e1).trans e2).trans e3
  have B1 := Ext.heap (e2.trans e3) b1
  have B2 := Ext.heap e3 b2
  have c0 := blk_cell B1 0
  have c1 := blk_cell B1 1
  have c2 := blk_cell B1 2
  have c3 := blk_cell B1 3
  simp only [List.getElem?_toArray, List.getElem?_cons_zero, List.getElem?_cons_succ] at c0 c1 c2 c3
  have hfl := fl1_rd (s := sX) (ty := 1) (st := 1) (df := 0) b3 (by unfold sX maxLen; simp [ByteArray.size]) (by unfold isU8; simp) (by unfold isI64; simp) (by unfold isI64; simp) h1 h2 h3 (H4.out.ext E)
  refine bodyPost_ret (v := .agg #[.int .i64 1, .slice (some ⟨w.heap.size + 1 + 1, 0, none⟩) 1 1, .slice (some ⟨w.heap.size + 1 + 1 + 1, 0, none⟩) 1 1, .slice none 0 0]) ?_ rfl ⟨_, rfl, ?_, E⟩
  · simp [results, Try.results33, go_sem, c0, c1, c2, c3]
  · refine ⟨_, _, _, rfl, by unfold isI64 smallS; simp, in1_rd B2, ?_, ⟨none, 0, rfl, by simp [fitsR, smallS], Nat.zero_le _, Nat.zero_le _, fun i x hx => by simp [smallS] at hx, fun h => by cases h⟩⟩
    obtain ⟨op, n, nm, args⟩ := x
    exact hfl
theorem stSmall_new (x : Ex) (v : Value) (w : World) (h : ExA w x v) : Calls Try.prog 33 #[v] w (RetPr (smallS x) w) := stSmall_any x v w h
set_option maxHeartbeats 1000000 in
theorem stIs_any (x : Ex) (v : Value) (n : Int) (w : World) (h : ExA w x v) (hq : stP (smallS noughtE) x = (n, 0)) : Calls Try.prog 17 #[v, .int .i64 n] w (RetT w) := by
  obtain ⟨a, rfl, h1, h2, h3, h4⟩ := h
  have H4 := Lib.hid h4
  obtain ⟨aa, cap, rfl, _⟩ := h4.form
  clear h4
  have HQ := Lib.hid hq
  clear hq
  have e0 : Ext w (w.alloc (.cells #[.int .u8 x.op, .int .i64 x.n, .string x.name, .slice aa x.args.length cap] 25)) := (Chg.refl _ _).alloc _
  have xb := heap_alloc_new w (.cells #[.int .u8 x.op, .int .i64 x.n, .string x.name, .slice aa x.args.length cap] 25)
  go_enter Try.func17, Try.ntmps17
  go_wp2_with fail
  generalize (w.alloc (.cells #[.int .u8 x.op, .int .i64 x.n, .string x.name, .slice aa x.args.length cap] 25)) = W0 at *
  have y0 : ∀ X, Ext W0 X → X.cell? ⟨w.heap.size, 0, none⟩ = some (.int .u8 x.op) := fun X hX => (blk_cell (Ext.heap hX xb) 0).trans rfl
  have y1 : ∀ X, Ext W0 X → X.cell? ⟨w.heap.size, 1, none⟩ = some (.int .i64 x.n) := fun X hX => (blk_cell (Ext.heap hX xb) 1).trans rfl
  have y2 : ∀ X, Ext W0 X → X.cell? ⟨w.heap.size, 2, none⟩ = some (.string x.name) := fun X hX => (blk_cell (Ext.heap hX xb) 2).trans rfl
  have y3 : ∀ X, Ext W0 X → X.cell? ⟨w.heap.size, 3, none⟩ = some (.slice aa x.args.length cap) := fun X hX => (blk_cell (Ext.heap hX xb) 3).trans rfl
  have ED : Ext W0 W0.drew := (Chg.refl _ _).drew
  go_region_held3 (fun X => Ext W0 X) (first | assumption)
    (first
      | (go_at_call 15; refine (stNought_any _).mono ?_; rintro e w5 ⟨rfl, E5⟩; have F5 := ED.trans E5)
      | (go_at_call 33; refine (stSmall_any noughtE _ _ (exa_nought _)).mono ?_; rintro e w6 ⟨cs, rfl, hP, E6⟩; have F6 := F5.trans E6)
      | (go_at_call 20; refine (stOf_any (smallS noughtE) x cs _ _ hP (H4.out.ext (e0.trans F6)) h3).mono ?_; rintro e w7 ⟨rfl, E7⟩; have F7 := F6.trans E7))
  rw [HQ.out]
  have hb : (n == n) = true := by simp
  go_wp2_with fail
  go_ret
  exact ⟨rfl, e0.trans F7⟩
theorem test1 : stP (smallS noughtE) (opE 6 [nmE sA, noughtE]) = (0, 0) := by decide +kernel
theorem test2 : stP (smallS noughtE) (nmE sC) = (0, 6) := by decide +kernel
theorem test3 : stP (smallS noughtE) (opE 17 [.mk 2 0 sNo [], nmE sA, opE 19 [nmE sA]]) = (1, 0) := by decide +kernel
end Go.Proofs.Ytcbdeoekehkbiaa
