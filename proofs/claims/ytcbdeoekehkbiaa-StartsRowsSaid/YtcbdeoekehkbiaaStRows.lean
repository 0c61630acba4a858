/- StartsRows answers true. -/
import Derived.Test.YtcbdeoekehkbiaaStAlive
import Derived.Deep.RegionLaw
import Derived.Deep.Cut
namespace Go.Proofs.Ytcbdeoekehkbiaa
open Go.RowKit
set_option linter.unusedVariables false
set_option linter.unusedSimpArgs false

/-- Whatever is written to S's blocks, it reads so. -/
def StA (S : Nat → Prop) (w : World) (x : Ex) (v : Value) : Prop := ∀ X, Chg S w X → ExA X x v
theorem StA.go {S : Nat → Prop} {w w' : World} {x : Ex} {v : Value} (h : StA S w x v) (c : Chg S w w') : StA S w' x v := fun X hX => h X (c.trans hX)
theorem StA.here {S : Nat → Prop} {w : World} {x : Ex} {v : Value} (h : StA S w x v) : ExA w x v := h w (Chg.refl _ _)
theorem StA.ext {S : Nat → Prop} {w w' : World} {x : Ex} {v : Value} (h : StA S w x v) (c : Ext w w') : StA S w' x v := h.go (c.mono (fun _ _ h => h.elim))
theorem StA.op1 {S : Nat → Prop} {w : World} {B : Nat} {o : Int} {x : Ex} {a0 a1 a2 a3 : Value} (ho : isU8 o) (hb : w.heap[B]? = some (.cells #[a0, a1, a2, a3] 25 (0, 0))) (hS : ¬ S B) (h : StA S w x (.agg #[a0, a1, a2, a3])) :
    StA S w (opE o [x]) (.agg #[.int .u8 o, .int .i64 0, .string ⟨#[]⟩, .slice (some ⟨B, 0, none⟩) 1 1]) := fun X hX => exa_op ho (row1 (hX.heap hb hS) (h X hX))
theorem StA.op2 {S : Nat → Prop} {w : World} {B : Nat} {o : Int} {x y : Ex} {a0 a1 a2 a3 b0 b1 b2 b3 : Value} (ho : isU8 o) (hb : w.heap[B]? = some (.cells #[a0, a1, a2, a3, b0, b1, b2, b3] 25 (0, 0))) (hS : ¬ S B) (h : StA S w x (.agg #[a0, a1, a2, a3])) (k : StA S w y (.agg #[b0, b1, b2, b3])) :
    StA S w (opE o [x, y]) (.agg #[.int .u8 o, .int .i64 0, .string ⟨#[]⟩, .slice (some ⟨B, 0, none⟩) 2 2]) := fun X hX => exa_op ho (row2 (hX.heap hb hS) (h X hX) (k X hX))
theorem stNought_newD (ob : Obj) (w : World) : Calls Try.prog 15 #[] (w.alloc ob).drew fun e w' => e = .returned (.agg #[.int .u8 1, .int .i64 0, .string ⟨#[]⟩, .slice none 0 0]) ∧ w'.heap[w.heap.size]? = some ob ∧ Ext w w' := by
  refine (stNought_any (w.alloc ob).drew).mono ?_
  rintro e w' ⟨rfl, h⟩
  exact ⟨rfl, Ext.heap h (show (w.alloc ob).drew.heap[w.heap.size]? = some ob from World.alloc_heap_new w ob), (((Chg.refl _ _).alloc _).drew).trans h⟩
def rowE : Nat → Ex
  | 0 => nmE sA
  | i + 1 => opE 19 [rowE i]
def eachE : Nat → Ex
  | 0 => nmE sA
  | i + 1 => opE 18 [noughtE, opE 19 [eachE i]]
theorem q_row : ∀ k, k < 14 → stP (smallS noughtE) (rowE k) = ((k : Int), 0) := by decide +kernel
theorem q_then : ∀ k, k < 14 → stP (smallS noughtE) (opE 18 [noughtE, rowE k]) = ((if k ≤ 1 then 0 else (k : Int)), 0) := by decide +kernel
theorem q_add : ∀ k, k < 14 → stP (smallS noughtE) (opE 6 [rowE k, eachE k]) = ((k : Int), 0) := by decide +kernel
theorem q_each : ∀ k, k < 14 → stP (smallS noughtE) (eachE k) = (0, 0) := by decide +kernel
/-- The two boxes after so many rounds. -/
def RowSt (T U : Nat) (w wr : World) (j : Nat) : Prop := ∃ (o1 : Int) (s1 : ByteArray) (a1 : Option Addr) (n1 c1 : Nat) (o2 : Int) (s2 : ByteArray) (a2 : Option Addr) (n2 c2 : Nat),
  wr.heap[T]? = some (.cells #[.int .u8 o1, .int .i64 0, .string s1, .slice a1 n1 c1] 25 (0, 0)) ∧ wr.heap[U]? = some (.cells #[.int .u8 o2, .int .i64 0, .string s2, .slice a2 n2 c2] 25 (0, 0)) ∧
  StA (fun q => q = T ∨ q = U) wr (rowE j) (.agg #[.int .u8 o1, .int .i64 0, .string s1, .slice a1 n1 c1]) ∧ StA (fun q => q = T ∨ q = U) wr (eachE j) (.agg #[.int .u8 o2, .int .i64 0, .string s2, .slice a2 n2 c2]) ∧ Ext w wr
set_option maxRecDepth 100000 in
set_option maxHeartbeats 4000000 in
theorem startsRows_any (n : Int) (w : World) (hn : isU8 n) : Calls Try.prog 3 #[.int .u8 n] w (RetT w) := by
  obtain ⟨hn0, hn1⟩ := hn
  have m1 := Int.emod_nonneg n (show (14 : Int) ≠ 0 by omega)
  have m2 := Int.emod_lt_of_pos n (show (0 : Int) < 14 by omega)
  obtain ⟨k, hk⟩ : ∃ k : Nat, n % 14 = k := ⟨_, (Int.toNat_of_nonneg m1).symm⟩
  have hk14 : k < 14 := by omega
  have HK := Lib.hid hk
  clear hk
  go_enter Try.func3, Try.ntmps3
  go_wp2_with fail
  rw [HK.out]
  refine (stName_any ⟨#[97]⟩ w).mono ?_
  rintro e w1 ⟨rfl, E1⟩
  go_upto_region 3 with (fail)
  generalize hV1 : w1.alloc _ = V1
  obtain ⟨s1, b1, e1⟩ := chain1 hV1
  clear hV1 s1
  generalize hT : w1.heap.size = T at *
  have HT := Lib.hid hT
  clear hT
  go_wp2_with fail
  refine (stName_any ⟨#[97]⟩ V1).mono ?_
  rintro e w2 ⟨rfl, E2⟩
  go_upto_region 4 with (fail)
  generalize hV2 : w2.alloc _ = V2
  obtain ⟨s2, b2, e2⟩ := chain1 hV2
  clear hV2 s2
  generalize hU : w2.heap.size = U at *
  have HU := Lib.hid hU
  clear hU
  have hTU : T < U := by have := E2.size; have := lt_of_block b1; have := HU.out; omega
  have hTw : w.heap.size ≤ T := by have := E1.size; have := HT.out; omega
  have F2 : Ext w V2 := ((E1.trans e1).trans E2).trans e2
  have b1' := Ext.heap (E2.trans e2) b1
  have hst : RowSt T U w V2 0 := ⟨_, _, _, _, _, _, _, _, _, _, b1', b2, fun X _ => exa_nm X sA (by decide), fun X _ => exa_nm X sA (by decide), F2⟩
  clear b1 b2 b1' E1 E2 e1 e2
  have m1' : 0 ≤ (k : Int) := by omega
  go_wp2_with fail
  go_loopw [6] (fun i wr => ∃ j : Nat, j ≤ k ∧ i = .int .i64 j ∧ RowSt T U w wr j) (fun i _ => k - (intOf i).toNat)
  case atStart => exact ⟨0, Nat.zero_le _, rfl, hst⟩
  case round =>
    clear hst F2
    obtain ⟨j, hj, rfl, o1, q1, a1, n1, c1, o2, q2, a2, n2, c2, bT, bU, hR, hE, rE⟩ := hrel
    by_cases hlt : j < k
    · have k1 : (j : Int) < (k : Int) := by omega
      have t0 := blk_cell bT 0
      have t1 := blk_cell bT 1
      have t2 := blk_cell bT 2
      have t3 := blk_cell bT 3
      simp only [List.getElem?_toArray, List.getElem?_cons_zero, List.getElem?_cons_succ] at t0 t1 t2 t3
      go_wp2_with fail
      refine (stOf_new 19 _ 1 1 _ _ rfl).mono ?_
      rintro e w5 ⟨rfl, hb5, E5⟩
      have bT5 := Ext.heap E5 bT
      have bU5 := Ext.heap E5 bU
      have hS5 : ¬ (wr.heap.size = T ∨ wr.heap.size = U) := by have := lt_of_block bT; have := lt_of_block bU; omega
      have hR5 := StA.op1 (S := fun q => q = T ∨ q = U) (o := 19) (by unfold isU8; omega) hb5 hS5 (hR.ext E5)
      have hE5 := hE.ext E5
      clear hb5 hR hE t0 t1 t2 t3
      have t0 := blk_cell bT5 0
      have t1 := blk_cell bT5 1
      have t2 := blk_cell bT5 2
      have t3 := blk_cell bT5 3
      simp only [List.getElem?_toArray, List.getElem?_cons_zero, List.getElem?_cons_succ] at t0 t1 t2 t3
      have g0 := blk_free bT5 0
      have g1 := blk_free bT5 1
      have g2 := blk_free bT5 2
      have g3 := blk_free bT5 3
      generalize wr.heap.size = B at *
      go_upto_region 8 with (fail)
      have C6 := chg_sets4 w5 T (.int .u8 19) (.int .i64 0) (.string ⟨#[]⟩) (.slice (some ⟨B, 0, none⟩) 1 1)
      have bT6 := blk_set (blk_set (blk_set (blk_set bT5 0 (.int .u8 19)) 1 (.int .i64 0)) 2 (.string ⟨#[]⟩)) 3 (.slice (some ⟨B, 0, none⟩) 1 1)
      have bU6 := C6.heap bU5 (by omega)
      have hR6 := hR5.go (C6.mono (fun _ _ h => .inl h))
      have hE6 := hE5.go (C6.mono (fun _ _ h => .inl h))
      have E6 : Ext w _ := Ext.then (rE.trans E5) C6 (fun b hb => by omega)
      clear C6 hR5 hE5 t0 t1 t2 t3 g0 g1 g2 g3 bT5 bU5 bT bU rE E5 hS5
      generalize ((((w5.setCell ⟨T, 0, none⟩ (.int .u8 19)).setCell ⟨T, 1, none⟩ (.int .i64 0)).setCell ⟨T, 2, none⟩ (.string ⟨#[]⟩)).setCell ⟨T, 3, none⟩ (.slice (some ⟨B, 0, none⟩) 1 1)) = W8 at *
      have u0 : ∀ X, Ext W8 X → X.cell? ⟨U, 0, none⟩ = some (.int .u8 o2) := fun X hX => (blk_cell (Ext.heap hX bU6) 0).trans rfl
      have u1 : ∀ X, Ext W8 X → X.cell? ⟨U, 1, none⟩ = some (.int .i64 0) := fun X hX => (blk_cell (Ext.heap hX bU6) 1).trans rfl
      have u2 : ∀ X, Ext W8 X → X.cell? ⟨U, 2, none⟩ = some (.string q2) := fun X hX => (blk_cell (Ext.heap hX bU6) 2).trans rfl
      have u3 : ∀ X, Ext W8 X → X.cell? ⟨U, 3, none⟩ = some (.slice a2 n2 c2) := fun X hX => (blk_cell (Ext.heap hX bU6) 3).trans rfl
      have v0 : ∀ X, Ext W8 X → X.frozen? ⟨U, 0, none⟩ = false := fun X hX => blk_free (Ext.heap hX bU6) 0
      have v1 : ∀ X, Ext W8 X → X.frozen? ⟨U, 1, none⟩ = false := fun X hX => blk_free (Ext.heap hX bU6) 1
      have v2 : ∀ X, Ext W8 X → X.frozen? ⟨U, 2, none⟩ = false := fun X hX => blk_free (Ext.heap hX bU6) 2
      have v3 : ∀ X, Ext W8 X → X.frozen? ⟨U, 3, none⟩ = false := fun X hX => blk_free (Ext.heap hX bU6) 3
      have ed : ∀ X, Ext W8 X → Ext W8 X.drew := fun X h => h.drew
      have ea : ∀ X o, Ext W8 X → Ext W8 (X.alloc o) := fun X o h => h.alloc o
      have er : Ext W8 W8 := Chg.refl _ _
      have hTl := lt_of_block bT6
      have hUl := lt_of_block bU6
      go_region_with (first
        | (have _ := hbA; go_at_call 14; refine (stOf_new 18 _ 2 2 _ _ rfl).mono ?_; rintro e wC ⟨rfl, hbB, EC⟩; have FC := FB.trans EC; have hbA := Ext.heap EC hbA; have hB := FB.size)
        | (have _ := hbN; go_at_call 14; refine (stOfV_any 19 _ 1 1 _).mono ?_; rintro e wB ⟨rfl, EB⟩; have hbA := Ext.heap EB hbN; have FB := FA.trans EB; have hA := Nat.le_refl W8.heap.size)
        | (have _ := FA; go_at_call 14; refine (stOf_new 19 _ 1 1 _ _ rfl).mono ?_; rintro e wB ⟨rfl, hbA, EB⟩; have hA := FA.size; have FB := FA.trans EB)
        | (go_at_call 15; refine (stNought_newD _ _).mono ?_; rintro e wA ⟨rfl, hbN, FA⟩)
        | (go_at_call 15; refine (stNought_any _).mono ?_; rintro e wA ⟨rfl, EA⟩; have FA := (Chg.drew (Chg.refl (fun _ => False) W8)).trans EA))
      all_goals (
        have C := chg_sets4 wC U (.int .u8 18) (.int .i64 0) (.string ⟨#[]⟩) (.slice (some ⟨wB.heap.size, 0, none⟩) 2 2)
        have bU9 := blk_set (blk_set (blk_set (blk_set (Ext.heap FC bU6) 0 (.int .u8 18)) 1 (.int .i64 0)) 2 (.string ⟨#[]⟩)) 3 (.slice (some ⟨wB.heap.size, 0, none⟩) 2 2)
        have bT9 := C.heap (Ext.heap FC bT6) (by omega)
        have hE9 := (StA.op2 (S := fun q => q = T ∨ q = U) (o := 18) (x := noughtE) (by unfold isU8; omega) hbB (by omega) (fun X _ => exa_nought X) (StA.op1 (S := fun q => q = T ∨ q = U) (o := 19) (by unfold isU8; omega) hbA (by omega) (hE6.ext FC))).go (C.mono (fun _ _ h => .inr h))
        have hR9 := (hR6.ext FC).go (C.mono (fun _ _ h => .inr h))
        have E9 : Ext w _ := Ext.then (E6.trans FC) C (fun b hb => by omega)
        have H9 : RowSt T U w _ (j + 1) := ⟨_, _, _, _, _, _, _, _, _, _, bT9, bU9, hR9, hE9, E9⟩
        have HH := Lib.hid H9
        clear H9 hE9 hR9 E9 bT9 bU9 C hbA hbB FC hR6 hE6 bT6 bU6 u0 u1 u2 u3 v0 v1 v2 v3
        go_wp2_with fail
        go_roundw
        case rel => exact ⟨j + 1, by omega, by go_num, HH.out⟩
        case measure => simp [intOf]; omega)
    · obtain rfl : k = j := by omega
      have HR := hR.here
      have HE := hE.here
      have HAl := Lib.hid stAlive_any
      have t0 : ∀ X, Ext wr X → X.cell? ⟨T, 0, none⟩ = some (.int .u8 o1) := fun X hX => (blk_cell (Ext.heap hX bT) 0).trans rfl
      have t1 : ∀ X, Ext wr X → X.cell? ⟨T, 1, none⟩ = some (.int .i64 0) := fun X hX => (blk_cell (Ext.heap hX bT) 1).trans rfl
      have t2 : ∀ X, Ext wr X → X.cell? ⟨T, 2, none⟩ = some (.string q1) := fun X hX => (blk_cell (Ext.heap hX bT) 2).trans rfl
      have t3 : ∀ X, Ext wr X → X.cell? ⟨T, 3, none⟩ = some (.slice a1 n1 c1) := fun X hX => (blk_cell (Ext.heap hX bT) 3).trans rfl
      have u0 : ∀ X, Ext wr X → X.cell? ⟨U, 0, none⟩ = some (.int .u8 o2) := fun X hX => (blk_cell (Ext.heap hX bU) 0).trans rfl
      have u1 : ∀ X, Ext wr X → X.cell? ⟨U, 1, none⟩ = some (.int .i64 0) := fun X hX => (blk_cell (Ext.heap hX bU) 1).trans rfl
      have u2 : ∀ X, Ext wr X → X.cell? ⟨U, 2, none⟩ = some (.string q2) := fun X hX => (blk_cell (Ext.heap hX bU) 2).trans rfl
      have u3 : ∀ X, Ext wr X → X.cell? ⟨U, 3, none⟩ = some (.slice a2 n2 c2) := fun X hX => (blk_cell (Ext.heap hX bU) 3).trans rfl
      have F0 : Ext wr wr.drew := (Chg.refl _ _).drew
      have hq5 := q_then k hk14
      clear hR hE bT bU
      by_cases hk1 : k ≤ 1
      · have k1 : (k : Int) ≤ 1 := by omega
        rw [if_pos hk1] at hq5
        have HQ5 := Lib.hid hq5
        clear hq5 hk1
        go_wp2_with fail
        go_region_held3 (fun X => Ext wr X) (first | assumption | exact Chg.alloc (by assumption) _ | exact Chg.alloc (Chg.alloc (by assumption) _) _)
          (first
            | (have _ := F7; go_at_call 17; refine (stIs_any _ _ _ _ (ExA.ext HE F7) (q_each k hk14)).mono ?_; rintro e x8 ⟨rfl, E8⟩; have F8 := F7.trans E8)
            | (have _ := F6; go_at_call 17; refine (stIs_any _ _ _ _ T6 (q_add k hk14)).mono ?_; rintro e x7 ⟨rfl, E7⟩; have F7 := F6.trans E7)
            | (have _ := F5; go_at_call 14; refine (stOf_new 6 _ 2 2 _ _ rfl).mono ?_; rintro e x6 ⟨rfl, hb6, E6⟩; have T6 := exa_op (o := 6) (by unfold isU8; omega) (row2 hb6 (ExA.ext (ExA.ext HR F5) E6) (ExA.ext (ExA.ext HE F5) E6)); have F6 := F5.trans E6)
            | (have _ := F4; go_at_call 17; refine (stIs_any _ _ _ _ T4 HQ5.out).mono ?_; rintro e x5 ⟨rfl, E5⟩; have F5 := F4.trans E5)
            | (have _ := F3; go_at_call 14; refine (stOf_new 18 _ 2 2 _ _ rfl).mono ?_; rintro e x4 ⟨rfl, hb4, E4⟩; have T4 := exa_op (o := 18) (by unfold isU8; omega) (row2 hb4 (exa_nought _) (ExA.ext (ExA.ext HR F3) E4)); have F4 := F3.trans E4)
            | (have _ := F2; go_at_call 15; refine (stNought_any _).mono ?_; rintro e x3 ⟨rfl, E3⟩; have F3 := F2.trans E3)
            | (have _ := F1; go_at_call 17; refine (stIs_any _ _ _ _ (ExA.ext HR F1) (q_row k hk14)).mono ?_; rintro e x2 ⟨rfl, E2⟩; have F2 := F1.trans E2)
            | (have _ := F0; go_at_call 16; refine (HAl.out _).mono ?_; rintro e x1 ⟨rfl, E1⟩; have F1 := F0.trans E1))
        all_goals (
          go_wp2_with fail
          go_ret
          exact ⟨rfl, rE.trans F8⟩)
      · have k1 : ¬ (k : Int) ≤ 1 := by omega
        rw [if_neg hk1] at hq5
        have HQ5 := Lib.hid hq5
        clear hq5 hk1
        go_wp2_with fail
        go_region_held3 (fun X => Ext wr X) (first | assumption | exact Chg.alloc (by assumption) _ | exact Chg.alloc (Chg.alloc (by assumption) _) _)
          (first
            | (have _ := F7; go_at_call 17; refine (stIs_any _ _ _ _ (ExA.ext HE F7) (q_each k hk14)).mono ?_; rintro e x8 ⟨rfl, E8⟩; have F8 := F7.trans E8)
            | (have _ := F6; go_at_call 17; refine (stIs_any _ _ _ _ T6 (q_add k hk14)).mono ?_; rintro e x7 ⟨rfl, E7⟩; have F7 := F6.trans E7)
            | (have _ := F5; go_at_call 14; refine (stOf_new 6 _ 2 2 _ _ rfl).mono ?_; rintro e x6 ⟨rfl, hb6, E6⟩; have T6 := exa_op (o := 6) (by unfold isU8; omega) (row2 hb6 (ExA.ext (ExA.ext HR F5) E6) (ExA.ext (ExA.ext HE F5) E6)); have F6 := F5.trans E6)
            | (have _ := F4; go_at_call 17; refine (stIs_any _ _ _ _ T4 HQ5.out).mono ?_; rintro e x5 ⟨rfl, E5⟩; have F5 := F4.trans E5)
            | (have _ := F3; go_at_call 14; refine (stOf_new 18 _ 2 2 _ _ rfl).mono ?_; rintro e x4 ⟨rfl, hb4, E4⟩; have T4 := exa_op (o := 18) (by unfold isU8; omega) (row2 hb4 (exa_nought _) (ExA.ext (ExA.ext HR F3) E4)); have F4 := F3.trans E4)
            | (have _ := F2; go_at_call 15; refine (stNought_any _).mono ?_; rintro e x3 ⟨rfl, E3⟩; have F3 := F2.trans E3)
            | (have _ := F1; go_at_call 17; refine (stIs_any _ _ _ _ (ExA.ext HR F1) (q_row k hk14)).mono ?_; rintro e x2 ⟨rfl, E2⟩; have F2 := F1.trans E2)
            | (have _ := F0; go_at_call 16; refine (HAl.out _).mono ?_; rintro e x1 ⟨rfl, E1⟩; have F1 := F0.trans E1))
        all_goals (
          go_wp2_with fail
          go_ret
          exact ⟨rfl, rE.trans F8⟩)
end Go.Proofs.Ytcbdeoekehkbiaa
