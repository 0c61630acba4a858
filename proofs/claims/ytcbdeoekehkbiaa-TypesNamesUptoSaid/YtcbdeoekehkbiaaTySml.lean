/- What the chapter's laws of types build, and the chapter's program. -/
import Derived.Test.YtcbdeoekehkbiaaTyChk
import Derived.Test.YtcbdeoekehkbiaaStSml
namespace Go.Proofs.Ytcbdeoekehkbiaa
open Go.RowKit
set_option linter.unusedVariables false
set_option linter.unusedSimpArgs false

def sB : ByteArray := ⟨#[98]⟩
theorem tyName_any (s : ByteArray) (w : World) : Calls Try.prog 46 #[.string s] w fun e w' => e = .returned (.agg #[.int .u8 3, .int .i64 0, .string s, .slice none 0 0]) ∧ Ext w w' := by
  have e0 : ∀ o, Ext w (w.alloc o) := fun o => (Chg.refl _ _).alloc _
  go_enter Try.func46, Try.ntmps46
  go_wp2_with fail
  refine bodyPost_ret (v := .agg #[.int .u8 3, .int .i64 0, .string s, .slice none 0 0]) ?_ rfl ⟨rfl, e0 _⟩
  simp [results, Try.results46, go_sem]
theorem tyOfV_any (o : Int) (a : Option Addr) (n c : Nat) (w : World) : Calls Try.prog 48 #[.int .u8 o, .slice a n c] w fun e w' => e = .returned (.agg #[.int .u8 o, .int .i64 0, .string ⟨#[]⟩, .slice a n c]) ∧ Ext w w' := by
  have e0 : ∀ o, Ext w (w.alloc o) := fun o => (Chg.refl _ _).alloc _
  go_enter Try.func48, Try.ntmps48
  go_wp2_with fail
  refine bodyPost_ret (v := .agg #[.int .u8 o, .int .i64 0, .string ⟨#[]⟩, .slice a n c]) ?_ rfl ⟨rfl, e0 _⟩
  simp [results, Try.results48, go_sem]
/-- of, right behind its parts' block. -/
theorem tyOf_new (o : Int) (B n c : Nat) (ob : Obj) (w : World) (hB : B = w.heap.size) : Calls Try.prog 48 #[.int .u8 o, .slice (some ⟨B, 0, none⟩) n c] (w.alloc ob) fun e w' => e = .returned (.agg #[.int .u8 o, .int .i64 0, .string ⟨#[]⟩, .slice (some ⟨B, 0, none⟩) n c]) ∧ w'.heap[B]? = some ob ∧ Ext w w' := by
  subst hB
  refine (tyOfV_any o _ n c (w.alloc ob)).mono ?_
  rintro e w' ⟨rfl, h⟩
  exact ⟨rfl, Ext.heap h (World.alloc_heap_new w ob), ((Chg.refl _ _).alloc _).trans h⟩
theorem tyOf_newD (o : Int) (B n c : Nat) (ob : Obj) (w : World) (hB : B = w.heap.size) : Calls Try.prog 48 #[.int .u8 o, .slice (some ⟨B, 0, none⟩) n c] (w.alloc ob).drew fun e w' => e = .returned (.agg #[.int .u8 o, .int .i64 0, .string ⟨#[]⟩, .slice (some ⟨B, 0, none⟩) n c]) ∧ w'.heap[B]? = some ob ∧ Ext w w' := by
  subst hB
  refine (tyOfV_any o _ n c (w.alloc ob).drew).mono ?_
  rintro e w' ⟨rfl, h⟩
  exact ⟨rfl, Ext.heap h (show (w.alloc ob).drew.heap[w.heap.size]? = some ob from World.alloc_heap_new w ob), (((Chg.refl _ _).alloc _).drew).trans h⟩
/-- The chapter's program. -/
def smallT : PrD := ⟨1, [⟨sA, 1, 1⟩, ⟨sB, 2, 1⟩], [], []⟩
theorem tySmall_any (w : World) : Calls Try.prog 49 #[] w (RetPr smallT w) := by
  go_enter Try.func49, Try.ntmps49
  go_wp2_with fail
  generalize hw0 : w.alloc _ = w0
  obtain ⟨s0, b0, e0⟩ := chain1 hw0
  generalize hw1 : w0.alloc _ = w1
  obtain ⟨s1, b1, e1⟩ := chain1 hw1
  rw [s0] at b1
  have E := e0.trans e1
  have B0 := Ext.heap e1 b0
  have c0 := blk_cell B0 0
  have c1 := blk_cell B0 1
  have c2 := blk_cell B0 2
  have c3 := blk_cell B0 3
  simp only [List.getElem?_toArray, List.getElem?_cons_zero, List.getElem?_cons_succ] at c0 c1 c2 c3
  refine bodyPost_ret (v := .agg #[.int .i64 1, .slice (some ⟨w.heap.size + 1, 0, none⟩) 2 2, .slice none 0 0, .slice none 0 0]) ?_ rfl ⟨_, rfl, ?_, E⟩
  · simp [results, Try.results49, go_sem, c0, c1, c2, c3]
  · have hr : RowOf inC 3 #[.string ⟨#[97]⟩, .int .u8 1, .int .i64 1, .string ⟨#[98]⟩, .int .u8 2, .int .i64 1] [(⟨sA, 1, 1⟩ : InD), ⟨sB, 2, 1⟩] := by
      intro i x hx c hc
      match i, hx with
      | 0, hx =>
        simp only [List.getElem?_cons_zero, Option.some.injEq] at hx
        subst hx
        match c, hc with
        | 0, _ => rfl
        | 1, _ => rfl
        | 2, _ => rfl
        | c + 3, hc => omega
      | 1, hx =>
        simp only [List.getElem?_cons_zero, List.getElem?_cons_succ, Option.some.injEq] at hx
        subst hx
        match c, hc with
        | 0, _ => rfl
        | 1, _ => rfl
        | 2, _ => rfl
        | c + 3, hc => omega
      | n + 2, hx => simp at hx
    have hi := hr.rdIn (cap := 2) b1 (fun x hx => by
      simp only [List.mem_cons, List.not_mem_nil, or_false] at hx
      rcases hx with rfl | rfl
      · exact ⟨by decide, by unfold isU8; simp, by unfold isI64; simp⟩
      · exact ⟨by decide, by unfold isU8; simp, by unfold isI64; simp⟩) (by simp) (by decide) (by simp [fitsR])
    refine ⟨_, _, _, rfl, by unfold isI64 smallT; simp, hi, ⟨none, 0, rfl, by simp [fitsR, smallT], Nat.zero_le _, Nat.zero_le _, fun i x hx => by simp [smallT] at hx, fun h => by cases h⟩, ⟨none, 0, rfl, by simp [fitsR, smallT], Nat.zero_le _, Nat.zero_le _, fun i x hx => by simp [smallT] at hx, fun h => by cases h⟩⟩
set_option maxHeartbeats 1000000 in
theorem tyIs_any (x : Ex) (v : Value) (n k : Int) (w : World) (h : ExA w x v) (hq : tyP smallT x = (n, k)) : Calls Try.prog 47 #[v, .int .u8 n, .int .i64 k] w (RetT w) := by
  obtain ⟨a, rfl, h1, h2, h3, h4⟩ := h
  have H4 := Lib.hid h4
  obtain ⟨aa, cap, rfl, _⟩ := h4.form
  clear h4
  have HQ := Lib.hid hq
  clear hq
  have e0 : Ext w (w.alloc (.cells #[.int .u8 x.op, .int .i64 x.n, .string x.name, .slice aa x.args.length cap] 25)) := (Chg.refl _ _).alloc _
  have xb := heap_alloc_new w (.cells #[.int .u8 x.op, .int .i64 x.n, .string x.name, .slice aa x.args.length cap] 25)
  go_enter Try.func47, Try.ntmps47
  go_wp2_with fail
  generalize (w.alloc (.cells #[.int .u8 x.op, .int .i64 x.n, .string x.name, .slice aa x.args.length cap] 25)) = W0 at *
  have y0 : ∀ X, Ext W0 X → X.cell? ⟨w.heap.size, 0, none⟩ = some (.int .u8 x.op) := fun X hX => (blk_cell (Ext.heap hX xb) 0).trans rfl
  have y1 : ∀ X, Ext W0 X → X.cell? ⟨w.heap.size, 1, none⟩ = some (.int .i64 x.n) := fun X hX => (blk_cell (Ext.heap hX xb) 1).trans rfl
  have y2 : ∀ X, Ext W0 X → X.cell? ⟨w.heap.size, 2, none⟩ = some (.string x.name) := fun X hX => (blk_cell (Ext.heap hX xb) 2).trans rfl
  have y3 : ∀ X, Ext W0 X → X.cell? ⟨w.heap.size, 3, none⟩ = some (.slice aa x.args.length cap) := fun X hX => (blk_cell (Ext.heap hX xb) 3).trans rfl
  have ED : Ext W0 W0.drew := (Chg.refl _ _).drew
  go_region_held3 (fun X => Ext W0 X) (first | assumption)
    (first
      | (go_at_call 49; refine (tySmall_any _).mono ?_; rintro e w6 ⟨cs, rfl, hP, E6⟩; have F6 := ED.trans E6)
      | (go_at_call 30; refine (tyOf_any smallT x cs _ _ hP (H4.out.ext (e0.trans F6)) h3).mono ?_; rintro e w7 ⟨rfl, E7⟩; have F7 := F6.trans E7))
  rw [HQ.out]
  have hb : (n == n) = true := by simp
  have hb2 : (k == k) = true := by simp
  go_wp2_with fail
  go_ret
  exact ⟨rfl, e0.trans F7⟩
theorem ty_check0 : typesP smallT = 0 := by
  have hp : progP smallT = true := by decide +kernel
  have hn : namesP smallT = 0 := names_0 hp ⟨by rw [namesT_eq]; decide +kernel, fun s h => by simp [askedL, smallT, namesF] at h, by simp [smallT]⟩
  unfold typesP
  rw [if_pos hn, if_pos (by simp [typedL, smallT])]
end Go.Proofs.Ytcbdeoekehkbiaa
