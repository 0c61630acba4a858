/- Some answers that the document fixes: beginnings. -/
import Derived.Test.YtcbdeoekehkbiaaStSml
namespace Go.Proofs.Ytcbdeoekehkbiaa
open Go.RowKit
set_option linter.unusedVariables false
set_option linter.unusedSimpArgs false

def preA : Ex := opE 19 [nmE sA]
def preX : Ex := opE 19 [nmE sX]
theorem q_c : stP (smallS noughtE) (nmE sC) = (0, 6) := by decide +kernel
theorem exa_b (W : World) : ExA W (.mk 2 0 sNo []) (.agg #[.int .u8 2, .int .i64 0, .string ⟨#[]⟩, .slice none 0 0]) := exa_leaf W 2 0 sNo (by unfold isU8; omega) (by unfold isI64; omega) (by unfold sNo maxLen; simp [ByteArray.size])
theorem nm_Al : nameP sA = true := by decide +kernel
theorem nm_Xl : nameP sX = true := by decide +kernel
theorem ne_AX : sA ≠ sX := by decide +kernel
theorem ck_of (x : Ex) (n : Int) (ho : okE 32 200 x = true) (hg : ∀ s, s ∈ namesE x → s = sA ∨ s = sX) (hs : (if (stP (smallS x) x).1 ≤ 0 then (0 : Int) else 9) = n) : startsP (smallS x) = n := by
  have hp : progP (smallS x) = true := by
    rw [progP_parts]
    refine ⟨by simp [smallS], fun y hy => ?_, fun y hy => ?_, fun s hs => by simp [smallS] at hs⟩
    · simp only [smallS, List.mem_singleton] at hy
      subst hy
      simp [inBad, mayP, smallS, nm_Al]
    · simp only [smallS, List.mem_singleton] at hy
      subst hy
      simp [flBad, mayP, smallS, nm_Xl, ho]
  have hn : namesP (smallS x) = 0 := names_0 hp ⟨by simp [namesT_eq, smallS, ne_AX], fun s h => by
    simp only [askedL, smallS, namesF, List.append_nil] at h
    rw [namesT_eq]
    rcases hg s h with rfl | rfl <;> simp [smallS], by simp [smallS]⟩
  unfold startsP
  rw [if_pos hn]
  have e : begunL (smallS x) (smallS x).flows = decide ((stP (smallS x) x).1 ≤ 0) := by simp [begunL, smallS]
  rw [e, ← hs]
  by_cases h : (stP (smallS x) x).1 ≤ 0 <;> simp [h]
theorem ck9 : startsP (smallS preX) = 9 := ck_of preX 9 (by decide +kernel) (fun s hs => .inr (by simpa [namesE, preX, opE, nmE, gthE, gthL, stepR] using hs)) (by decide +kernel)
theorem ck0 : startsP (smallS (opE 18 [noughtE, preX])) = 0 := ck_of _ 0 (by decide +kernel) (fun s hs => .inr (by simpa [namesE, preX, opE, nmE, noughtE, gthE, gthL, stepR] using hs)) (by decide +kernel)
theorem sN_ok (s : ByteArray) (h : s.size ≤ 100) : s.size ≤ maxLen := by unfold maxLen; omega
set_option maxRecDepth 100000 in
set_option maxHeartbeats 8000000 in
theorem stAlive_any (w : World) : Calls Try.prog 16 #[] w (RetT w) := by
  have HSt := Lib.hid stOf_any
  have HCk : Hid (∀ (p : PrD) (cs : Array Value) (n : Int) (W : World), RdPr W 0 false p cs → startsP p = n → Calls Try.prog 25 #[.agg cs] W fun e w' => e = .returned (.int .i64 n) ∧ Ext W w') := fun p cs n W h hn => by subst hn; exact stCheck_any p cs W h
  go_enter Try.func16, Try.ntmps16
  go_wp2_with fail
  refine (stName_any ⟨#[97]⟩ w).mono ?_
  rintro e w1 ⟨rfl, E1⟩
  go_wp2_with fail
  generalize hV : w1.alloc _ = V1
  obtain ⟨szV, b1, eV1⟩ := chain1 hV
  clear hV
  generalize w1.heap.size = A at *
  have a0 : ∀ X, Ext V1 X → X.cell? ⟨A, 0, none⟩ = some (.int .u8 3) := fun X hX => (blk_cell (Ext.heap hX b1) 0).trans rfl
  have a1 : ∀ X, Ext V1 X → X.cell? ⟨A, 1, none⟩ = some (.int .i64 0) := fun X hX => (blk_cell (Ext.heap hX b1) 1).trans rfl
  have a2 : ∀ X, Ext V1 X → X.cell? ⟨A, 2, none⟩ = some (.string ⟨#[97]⟩) := fun X hX => (blk_cell (Ext.heap hX b1) 2).trans rfl
  have a3 : ∀ X, Ext V1 X → X.cell? ⟨A, 3, none⟩ = some (.slice none 0 0) := fun X hX => (blk_cell (Ext.heap hX b1) 3).trans rfl
  have F1 := E1.trans eV1
  have eV1 := Chg.refl (fun _ => False) V1
  go_wp2_with fail
  refine (stOf_new 19 _ 1 1 _ _ szV.symm).mono ?_
  rintro e w2 ⟨rfl, hb2, E2⟩
  clear szV
  have T2 := exa_op (o := 19) (by unfold isU8; omega) (row1 hb2 (exa_nm w2 sA (by decide)))
  go_wp2_with fail
  generalize hV : w2.alloc _ = V2
  obtain ⟨szV, b2, eV2⟩ := chain1 hV
  clear hV
  generalize w2.heap.size = P at *
  have p0 : ∀ X, Ext V2 X → X.cell? ⟨P, 0, none⟩ = some (.int .u8 19) := fun X hX => (blk_cell (Ext.heap hX b2) 0).trans rfl
  have p1 : ∀ X, Ext V2 X → X.cell? ⟨P, 1, none⟩ = some (.int .i64 0) := fun X hX => (blk_cell (Ext.heap hX b2) 1).trans rfl
  have p2 : ∀ X, Ext V2 X → X.cell? ⟨P, 2, none⟩ = some (.string ⟨#[]⟩) := fun X hX => (blk_cell (Ext.heap hX b2) 2).trans rfl
  have p3 : ∀ X, Ext V2 X → X.cell? ⟨P, 3, none⟩ = some (.slice (some ⟨A + 1, 0, none⟩) 1 1) := fun X hX => (blk_cell (Ext.heap hX b2) 3).trans rfl
  clear szV
  have TP2 := T2.ext eV2
  have F2 := F1.trans (E2.trans eV2)
  have G2 := E2.trans eV2
  go_wp2_with fail
  refine (stNought_any _).mono ?_
  rintro e w3 ⟨rfl, E3⟩
  go_wp2_with fail
  refine (stSmall_any noughtE _ _ (exa_nought _)).mono ?_
  rintro e w4 ⟨cs4, rfl, hP4, E4⟩
  obtain ⟨ai, ci, af, cf, ao, co, hcs⟩ := pr_form hP4
  subst hcs
  go_wp2_with fail
  refine (stName_any ⟨#[99]⟩ _).mono ?_
  rintro e w5 ⟨rfl, E5⟩
  have hq5 := HSt.out (smallS noughtE) (nmE sC) _ _ w5 (hP4.ext E5) (rd_none w5) (by decide)
  rw [q_c] at hq5
  go_wp2_with fail
  refine (hq5).mono ?_
  rintro e w6 ⟨rfl, E6⟩
  clear hq5
  go_wp2_with fail
  refine (stName_any ⟨#[120]⟩ _).mono ?_
  rintro e w7 ⟨rfl, E7⟩
  go_wp2_with fail
  refine (stOf_new 19 _ 1 1 _ _ rfl).mono ?_
  rintro e w8 ⟨rfl, hb8, E8⟩
  have T8 := exa_op (o := 19) (by unfold isU8; omega) (row1 hb8 (exa_nm w8 sX (by decide)))
  go_wp2_with fail
  generalize hV : w8.alloc _ = V3
  obtain ⟨szV, b3, eV3⟩ := chain1 hV
  clear hV
  generalize w8.heap.size = Q at *
  have q0 : ∀ X, Ext V3 X → X.cell? ⟨Q, 0, none⟩ = some (.int .u8 19) := fun X hX => (blk_cell (Ext.heap hX b3) 0).trans rfl
  have q1 : ∀ X, Ext V3 X → X.cell? ⟨Q, 1, none⟩ = some (.int .i64 0) := fun X hX => (blk_cell (Ext.heap hX b3) 1).trans rfl
  have q2 : ∀ X, Ext V3 X → X.cell? ⟨Q, 2, none⟩ = some (.string ⟨#[]⟩) := fun X hX => (blk_cell (Ext.heap hX b3) 2).trans rfl
  have q3 : ∀ X, Ext V3 X → X.cell? ⟨Q, 3, none⟩ = some (.slice (some ⟨w7.heap.size, 0, none⟩) 1 1) := fun X hX => (blk_cell (Ext.heap hX b3) 3).trans rfl
  clear szV
  have K2 := ((((E3.trans E4).trans E5).trans E6).trans E7).trans (E8.trans eV3)
  have K1 := G2.trans K2
  have HX := T8.ext eV3
  have HP := TP2.ext K2
  have HA := exa_nm V3 sA (by decide)
  have FW := F2.trans K2
  have F0 : Ext V3 V3.drew := (Chg.refl _ _).drew
  have c0 : ∀ X, Ext V3 X → Ext V1 X := fun X h => K1.trans h
  have c1 : ∀ X, Ext V3 X → Ext V2 X := fun X h => K2.trans h
  have a0 := fun X (h : Ext V3 X) => a0 X (K1.trans h)
  have a1 := fun X (h : Ext V3 X) => a1 X (K1.trans h)
  have a2 := fun X (h : Ext V3 X) => a2 X (K1.trans h)
  have a3 := fun X (h : Ext V3 X) => a3 X (K1.trans h)
  have p0 := fun X (h : Ext V3 X) => p0 X (K2.trans h)
  have p1 := fun X (h : Ext V3 X) => p1 X (K2.trans h)
  have p2 := fun X (h : Ext V3 X) => p2 X (K2.trans h)
  have p3 := fun X (h : Ext V3 X) => p3 X (K2.trans h)
  clear c0 c1 E1 E2 eV1 eV2 eV3 F1 F2 G2 E3 E4 E5 E6 E7 E8 K1 K2 T2 TP2 T8 hb2 hb8 b1 b2 b3 hP4
  go_wp2_with fail
  go_region_held3 (fun X => Ext V3 X) (first | assumption | exact Chg.alloc (by assumption) _ | exact Chg.alloc (Chg.alloc (by assumption) _) _)
    (first
      | (have _ := F21; go_at_call 25; refine (HCk.out _ _ _ _ hP21 ck0).mono ?_; rintro e x22 ⟨rfl, E22⟩; have F22 := F21.trans E22)
      | (have _ := F20; go_at_call 33; refine (stSmall_any _ _ _ T20).mono ?_; rintro e x21 ⟨cs21, rfl, hP21, E21⟩; have F21 := F20.trans E21)
      | (have _ := F19; go_at_call 14; refine (stOf_new 18 _ 2 2 _ _ rfl).mono ?_; rintro e x20 ⟨rfl, hb20, E20⟩; have T20 := exa_op (o := 18) (by unfold isU8; omega) (row2 hb20 (exa_nought _) (ExA.ext (ExA.ext HX F19) E20)); have F20 := F19.trans E20)
      | (have _ := F18; go_at_call 15; refine (stNought_any _).mono ?_; rintro e x19 ⟨rfl, E19⟩; have F19 := F18.trans E19)
      | (have _ := F17; go_at_call 25; refine (HCk.out _ _ _ _ hP17 ck9).mono ?_; rintro e x18 ⟨rfl, E18⟩; have F18 := F17.trans E18)
      | (have _ := F16; go_at_call 33; refine (stSmall_any _ _ _ (ExA.ext HX F16)).mono ?_; rintro e x17 ⟨cs17, rfl, hP17, E17⟩; have F17 := F16.trans E17)
      | (have _ := F15; go_at_call 17; refine (stIs_any _ _ _ _ T15 (by decide +kernel)).mono ?_; rintro e x16 ⟨rfl, E16⟩; have F16 := F15.trans E16)
      | (have _ := F14; go_at_call 14; refine (stOf_new 17 _ 3 3 _ _ rfl).mono ?_; rintro e x15 ⟨rfl, hb15, E15⟩; have T15 := exa_op (o := 17) (by unfold isU8; omega) (row3 hb15 (ExA.ext (exa_b _) E15) (ExA.ext (ExA.ext HA F14) E15) (ExA.ext (ExA.ext HP F14) E15)); have F15 := F14.trans E15)
      | (have _ := F13; go_at_call 17; refine (stIs_any _ _ _ _ T13 (by decide +kernel)).mono ?_; rintro e x14 ⟨rfl, E14⟩; have F14 := F13.trans E14)
      | (have _ := F12; go_at_call 14; refine (stOf_new 18 _ 2 2 _ _ rfl).mono ?_; rintro e x13 ⟨rfl, hb13, E13⟩; have T13 := exa_op (o := 18) (by unfold isU8; omega) (row2 hb13 (ExA.ext T12 E13) (ExA.ext (ExA.ext HA F12) E13)); have F13 := F12.trans E13)
      | (have _ := F11; go_at_call 14; refine (stOf_new 19 _ 1 1 _ _ rfl).mono ?_; rintro e x12 ⟨rfl, hb12, E12⟩; have T12 := exa_op (o := 19) (by unfold isU8; omega) (row1 hb12 (ExA.ext (ExA.ext HP F11) E12)); have F12 := F11.trans E12)
      | (have _ := F10; go_at_call 17; refine (stIs_any _ _ _ _ T10 (by decide +kernel)).mono ?_; rintro e x11 ⟨rfl, E11⟩; have F11 := F10.trans E11)
      | (have _ := F9; go_at_call 14; refine (stOf_new 18 _ 2 2 _ _ rfl).mono ?_; rintro e x10 ⟨rfl, hb10, E10⟩; have T10 := exa_op (o := 18) (by unfold isU8; omega) (row2 hb10 (exa_nought _) (ExA.ext T9 E10)); have F10 := F9.trans E10)
      | (have _ := T8; go_at_call 15; refine (stNought_any _).mono ?_; rintro e x9 ⟨rfl, E9⟩; have T9 := ExA.ext T8 E9; have F9 := F8.trans E9)
      | (have _ := F8; have _ := hbN; go_at_call 14; refine (stOfV_any 19 _ 1 1 _).mono ?_; rintro e x9 ⟨rfl, E9⟩; have T9 := exa_op (o := 19) (by unfold isU8; omega) (row1 (Ext.heap E9 hbN) (ExA.ext (ExA.ext HP F8) E9)); have F9 := F8.trans E9)
      | (have _ := F8; have _ := mkA; go_at_call 14; refine (stOf_new 19 _ 1 1 _ _ rfl).mono ?_; rintro e x9 ⟨rfl, hb9, E9⟩; have T9 := exa_op (o := 19) (by unfold isU8; omega) (row1 hb9 (ExA.ext (ExA.ext HP F8) E9)); have F9 := F8.trans E9)
      | (have _ := F7; go_at_call 14; refine (stOf_new 19 _ 1 1 _ _ rfl).mono ?_; rintro e x8 ⟨rfl, hb8, E8⟩; have T8 := exa_op (o := 19) (by unfold isU8; omega) (row1 hb8 (ExA.ext (ExA.ext HP F7) E8)); have F8 := F7.trans E8)
      | (have _ := F7; go_at_call 15; refine (stNought_any _).mono ?_; rintro e x8 ⟨rfl, E8⟩; have mkA := True.intro; have F8 := F7.trans E8)
      | (have _ := F7; go_at_call 15; refine (stNought_new _ _).mono ?_; rintro e x8 ⟨rfl, hbN, E8⟩; have F8 := F7.trans E8)
      | (have _ := F6; go_at_call 17; refine (stIs_any _ _ _ _ T6 (by decide +kernel)).mono ?_; rintro e x7 ⟨rfl, E7⟩; have F7 := F6.trans E7)
      | (have _ := F5; go_at_call 14; refine (stOf_new 18 _ 2 2 _ _ rfl).mono ?_; rintro e x6 ⟨rfl, hb6, E6⟩; have T6 := exa_op (o := 18) (by unfold isU8; omega) (row2 hb6 (exa_nought _) (ExA.ext (ExA.ext HP F5) E6)); have F6 := F5.trans E6)
      | (have _ := F4; go_at_call 15; refine (stNought_any _).mono ?_; rintro e x5 ⟨rfl, E5⟩; have F5 := F4.trans E5)
      | (have _ := F3; go_at_call 17; refine (stIs_any _ _ _ _ (ExA.ext HP F3) (by decide +kernel)).mono ?_; rintro e x4 ⟨rfl, E4⟩; have F4 := F3.trans E4)
      | (have _ := F2; go_at_call 17; refine (stIs_any _ _ _ _ T2 (by decide +kernel)).mono ?_; rintro e x3 ⟨rfl, E3⟩; have F3 := F2.trans E3)
      | (have _ := F1; go_at_call 14; refine (stOf_new 6 _ 2 2 _ _ rfl).mono ?_; rintro e x2 ⟨rfl, hb2, E2⟩; have T2 := exa_op (o := 6) (by unfold isU8; omega) (row2 hb2 (ExA.ext (ExA.ext HA F1) E2) (exa_nought _)); have F2 := F1.trans E2)
      | (have _ := F0; go_at_call 15; refine (stNought_any _).mono ?_; rintro e x1 ⟨rfl, E1⟩; have F1 := F0.trans E1))
  all_goals (
    go_wp2_with fail
    go_ret
    exact ⟨rfl, FW.trans F22⟩)
end Go.Proofs.Ytcbdeoekehkbiaa

