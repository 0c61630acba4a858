/- Some answers that the document fixes: types. -/
import Derived.Test.YtcbdeoekehkbiaaTySml
namespace Go.Proofs.Ytcbdeoekehkbiaa
open Go.RowKit
set_option linter.unusedVariables false
set_option linter.unusedSimpArgs false

theorem exa_z (W : World) (o : Int) (h : isU8 o) : ExA W (.mk o 0 sNo []) (.agg #[.int .u8 o, .int .i64 0, .string ⟨#[]⟩, .slice none 0 0]) := exa_leaf W o 0 sNo h (by unfold isI64; omega) (by unfold sNo maxLen; simp [ByteArray.size])
set_option maxRecDepth 100000 in
set_option maxHeartbeats 8000000 in
theorem tyAlive_any (w : World) : Calls Try.prog 28 #[] w (RetT w) := by
  have HCk : Hid (∀ (p : PrD) (cs : Array Value) (n : Int) (W : World), RdPr W 0 false p cs → typesP p = n → Calls Try.prog 32 #[.agg cs] W fun e w' => e = .returned (.int .i64 n) ∧ Ext W w') := fun p cs n W h hn => by subst hn; exact tyCheck_any p cs W h
  go_enter Try.func28, Try.ntmps28
  go_wp2_with fail
  refine (tyName_any ⟨#[97]⟩ w).mono ?_
  rintro e w1 ⟨rfl, E1⟩
  go_wp2_with fail
  generalize hV : w1.alloc _ = V1
  obtain ⟨szV, hB1, eV1⟩ := chain1 hV
  clear hV szV
  generalize w1.heap.size = A at *
  have a0 : ∀ X, Ext V1 X → X.cell? ⟨A, 0, none⟩ = some (.int .u8 3) := fun X hX => (blk_cell (Ext.heap hX hB1) 0).trans rfl
  have a1 : ∀ X, Ext V1 X → X.cell? ⟨A, 1, none⟩ = some (.int .i64 0) := fun X hX => (blk_cell (Ext.heap hX hB1) 1).trans rfl
  have a2 : ∀ X, Ext V1 X → X.cell? ⟨A, 2, none⟩ = some (.string ⟨#[97]⟩) := fun X hX => (blk_cell (Ext.heap hX hB1) 2).trans rfl
  have a3 : ∀ X, Ext V1 X → X.cell? ⟨A, 3, none⟩ = some (.slice none 0 0) := fun X hX => (blk_cell (Ext.heap hX hB1) 3).trans rfl
  have F1 := E1.trans eV1
  go_wp2_with fail
  refine (tyName_any ⟨#[98]⟩ V1).mono ?_
  rintro e w2 ⟨rfl, E2⟩
  go_wp2_with fail
  generalize hV : w2.alloc _ = V3
  obtain ⟨szV, hB2, eV3⟩ := chain1 hV
  clear hV szV
  generalize w2.heap.size = B at *
  have b0 : ∀ X, Ext V3 X → X.cell? ⟨B, 0, none⟩ = some (.int .u8 3) := fun X hX => (blk_cell (Ext.heap hX hB2) 0).trans rfl
  have b1 : ∀ X, Ext V3 X → X.cell? ⟨B, 1, none⟩ = some (.int .i64 0) := fun X hX => (blk_cell (Ext.heap hX hB2) 1).trans rfl
  have b2 : ∀ X, Ext V3 X → X.cell? ⟨B, 2, none⟩ = some (.string ⟨#[98]⟩) := fun X hX => (blk_cell (Ext.heap hX hB2) 2).trans rfl
  have b3 : ∀ X, Ext V3 X → X.cell? ⟨B, 3, none⟩ = some (.slice none 0 0) := fun X hX => (blk_cell (Ext.heap hX hB2) 3).trans rfl
  have K1 := E2.trans eV3
  have FW := F1.trans K1
  have F0 : Ext V3 V3.drew := (Chg.refl _ _).drew
  have a0 := fun X (h : Ext V3 X) => a0 X (K1.trans h)
  have a1 := fun X (h : Ext V3 X) => a1 X (K1.trans h)
  have a2 := fun X (h : Ext V3 X) => a2 X (K1.trans h)
  have a3 := fun X (h : Ext V3 X) => a3 X (K1.trans h)
  have HA := exa_nm V3 sA (by decide)
  have HB := exa_nm V3 sB (by decide)
  clear E1 E2 eV1 eV3 F1 K1 hB1 hB2
  go_wp2_with fail
  simp only [List.append_eq, List.cons_append, List.nil_append]
  go_region_held3 (fun X => Ext V3 X) (first | assumption | exact Chg.alloc (by assumption) _ | exact Chg.alloc (Chg.alloc (by assumption) _) _ | exact (Chg.alloc (Chg.refl _ _) _).drew | exact (Chg.alloc (Chg.alloc (Chg.refl _ _) _) _).drew)
    (first
      | (have _ := F22; go_at_call 32; refine (HCk.out _ _ _ _ hPk ty_check0).mono ?_; rintro e x23 ⟨rfl, E23⟩; have F23 := F22.trans E23)
      | (have _ := F21; go_at_call 49; refine (tySmall_any _).mono ?_; rintro e x22 ⟨csk, rfl, hPk, E22⟩; have F22 := F21.trans E22)
      | (have _ := F20; go_at_call 47; refine (tyIs_any _ _ _ _ _ (exa_z _ 0 (by unfold isU8; omega)) (by decide +kernel)).mono ?_; rintro e x21 ⟨rfl, E21⟩; have F21 := F20.trans E21)
      | (have _ := F19; go_at_call 47; refine (tyIs_any _ _ _ _ _ T19 (by decide +kernel)).mono ?_; rintro e x20 ⟨rfl, E20⟩; have F20 := F19.trans E20)
      | (have _ := F18; go_at_call 48; refine (tyOf_new 6 _ 2 2 _ _ rfl).mono ?_; rintro e x19 ⟨rfl, hb19, E19⟩; have T19 := exa_op (o := 6) (by unfold isU8; omega) (row2 hb19 (ExA.ext (exa_nm _ sC (by decide)) E19) (ExA.ext (exa_z _ 2 (by unfold isU8; omega)) E19)); have F19 := F18.trans E19)
      | (have _ := F17; go_at_call 46; refine (tyName_any _ _).mono ?_; rintro e x18 ⟨rfl, E18⟩; have F18 := F17.trans E18)
      | (have _ := F16; go_at_call 47; refine (tyIs_any _ _ _ _ _ T16 (by decide +kernel)).mono ?_; rintro e x17 ⟨rfl, E17⟩; have F17 := F16.trans E17)
      | (have _ := F15; go_at_call 48; refine (tyOf_new 11 _ 2 2 _ _ rfl).mono ?_; rintro e x16 ⟨rfl, hb16, E16⟩; have T16 := exa_op (o := 11) (by unfold isU8; omega) (row2 hb16 (ExA.ext (ExA.ext HA F15) E16) (ExA.ext (ExA.ext HB F15) E16)); have F16 := F15.trans E16)
      | (have _ := F14; go_at_call 47; refine (tyIs_any _ _ _ _ _ T14 (by decide +kernel)).mono ?_; rintro e x15 ⟨rfl, E15⟩; have F15 := F14.trans E15)
      | (have _ := F13; go_at_call 48; refine (tyOf_new 6 _ 2 2 _ _ rfl).mono ?_; rintro e x14 ⟨rfl, hb14, E14⟩; have T14 := exa_op (o := 6) (by unfold isU8; omega) (row2 hb14 (ExA.ext (ExA.ext HA F13) E14) (ExA.ext (ExA.ext HB F13) E14)); have F14 := F13.trans E14)
      | (have _ := F12; go_at_call 47; refine (tyIs_any _ _ _ _ _ T12 (by decide +kernel)).mono ?_; rintro e x13 ⟨rfl, E13⟩; have F13 := F12.trans E13)
      | (have _ := F11; go_at_call 48; refine (tyOf_new 11 _ 2 2 _ _ rfl).mono ?_; rintro e x12 ⟨rfl, hb12, E12⟩; have T12 := exa_op (o := 11) (by unfold isU8; omega) (row2 hb12 (ExA.ext (ExA.ext HB F11) E12) (ExA.ext (ExA.ext HB F11) E12)); have F12 := F11.trans E12)
      | (have _ := F10; go_at_call 47; refine (tyIs_any _ _ _ _ _ T10 (by decide +kernel)).mono ?_; rintro e x11 ⟨rfl, E11⟩; have F11 := F10.trans E11)
      | (have _ := F9; go_at_call 48; refine (tyOf_new 18 _ 2 2 _ _ rfl).mono ?_; rintro e x10 ⟨rfl, hb10, E10⟩; have T10 := exa_op (o := 18) (by unfold isU8; omega) (row2 hb10 (ExA.ext (ExA.ext HA F9) E10) (ExA.ext T9 E10)); have F10 := F9.trans E10)
      | (have _ := F8; go_at_call 48; refine (tyOf_new 19 _ 1 1 _ _ rfl).mono ?_; rintro e x9 ⟨rfl, hb9, E9⟩; have T9 := exa_op (o := 19) (by unfold isU8; omega) (row1 hb9 (ExA.ext (ExA.ext HA F8) E9)); have F9 := F8.trans E9)
      | (have _ := F7; go_at_call 47; refine (tyIs_any _ _ _ _ _ T7 (by decide +kernel)).mono ?_; rintro e x8 ⟨rfl, E8⟩; have F8 := F7.trans E8)
      | (have _ := F6; go_at_call 48; refine (tyOf_new 17 _ 3 3 _ _ rfl).mono ?_; rintro e x7 ⟨rfl, hb7, E7⟩; have T7 := exa_op (o := 17) (by unfold isU8; omega) (row3 hb7 (ExA.ext (ExA.ext HB F6) E7) (ExA.ext (ExA.ext HA F6) E7) (ExA.ext T6 E7)); have F7 := F6.trans E7)
      | (have _ := F5; go_at_call 48; refine (tyOf_new 4 _ 1 1 _ _ rfl).mono ?_; rintro e x6 ⟨rfl, hb6, E6⟩; have T6 := exa_op (o := 4) (by unfold isU8; omega) (row1 hb6 (ExA.ext (ExA.ext HA F5) E6)); have F6 := F5.trans E6)
      | (have _ := F4; go_at_call 47; refine (tyIs_any _ _ _ _ _ T4 (by decide +kernel)).mono ?_; rintro e x5 ⟨rfl, E5⟩; have F5 := F4.trans E5)
      | (have _ := F3; go_at_call 48; refine (tyOf_new 16 _ 2 2 _ _ rfl).mono ?_; rintro e x4 ⟨rfl, hb4, E4⟩; have T4 := exa_op (o := 16) (by unfold isU8; omega) (row2 hb4 (ExA.ext T3 E4) (ExA.ext (ExA.ext HB F3) E4)); have F4 := F3.trans E4)
      | (have _ := F2; go_at_call 48; refine (tyOf_new 13 _ 2 2 _ _ rfl).mono ?_; rintro e x3 ⟨rfl, hb3, E3⟩; have T3 := exa_op (o := 13) (by unfold isU8; omega) (row2 hb3 (ExA.ext (ExA.ext HA F2) E3) (ExA.ext (ExA.ext HA F2) E3)); have F3 := F2.trans E3)
      | (have _ := F1; go_at_call 47; refine (tyIs_any _ _ _ _ _ T1 (by decide +kernel)).mono ?_; rintro e x2 ⟨rfl, E2⟩; have F2 := F1.trans E2)
      | (have _ := F0; go_at_call 48; refine (tyOf_newD 6 _ 2 2 _ _ rfl).mono ?_; rintro e x1 ⟨rfl, hb1, E1⟩; have T1 := exa_op (o := 6) (by unfold isU8; omega) (row2 hb1 (ExA.ext HA E1) (ExA.ext HA E1)); have F1 := E1))
  all_goals (
    go_wp2_with fail
    go_ret
    exact ⟨rfl, FW.trans F23⟩)
end Go.Proofs.Ytcbdeoekehkbiaa

