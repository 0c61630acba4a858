/- Some answers that the document fixes: names. -/
import Derived.Test.YtgdlocjocjamgaaSmall
import Derived.Test.YtgdlocjocjamgaaTwinF
import Derived.Deep.RegionHeld3
import Derived.Deep.AppendLies
import Derived.Deep.RegionLaw
namespace Go.Proofs.Ytgdlocjocjamgaa
open Go.RowKit
set_option linter.unusedVariables false
set_option linter.unusedSimpArgs false

theorem Chg.of_drew {S : Nat → Prop} {w w1 : World} (h : Chg S w w1) : Chg S w.drew w1 := ⟨h.os, h.tape, h.output, h.size, h.block⟩
set_option maxRecDepth 100000 in
set_option maxHeartbeats 4000000 in
theorem alive_any (w : World) : Calls Try.prog 17 #[] w (RetT w) := by
  have hfA : ∀ W B, SmallAt W B → Calls Try.prog 12 #[.agg (smallC B), .string ⟨#[97]⟩] W fun e w' => e = .returned (.tuple #[.int .i64 1, .int .u8 1, .int .i64 (-1), .bool true]) ∧ Ext W w' := fun W B h => by
    have := find_any smallP sA _ W h.rd
    unfold RetFind fourV at this
    rw [f_A] at this
    exact this
  have hfX : ∀ W B, SmallAt W B → Calls Try.prog 12 #[.agg (smallC B), .string ⟨#[120]⟩] W fun e w' => e = .returned (.tuple #[.int .i64 2, .int .u8 2, .int .i64 0, .bool true]) ∧ Ext W w' := fun W B h => by
    have := find_any smallP sX _ W h.rd
    unfold RetFind fourV at this
    rw [f_X] at this
    exact this
  have hfY : ∀ W B, SmallAt W B → Calls Try.prog 12 #[.agg (smallC B), .string ⟨#[121]⟩] W fun e w' => e = .returned (.tuple #[.int .i64 0, .int .u8 0, .int .i64 0, .bool false]) ∧ Ext W w' := fun W B h => by
    have := find_any smallP sY _ W h.rd
    unfold RetFind fourV at this
    rw [f_Y] at this
    exact this
  have HFA := Lib.hid hfA
  have HFX := Lib.hid hfX
  have HFY := Lib.hid hfY
  clear hfA hfX hfY
  have HS := Lib.hid small_any
  unfold smallC at *
  obtain ⟨i0, hinf, hz0, hz1, hz2⟩ := info_parts infoFl
  have HNC : Hid (∀ (W : World) (p : PrD) (cs : Array Value) (n : Int), RdPr W 0 false p cs → namesP p = n → Calls Try.prog 15 #[.agg cs] W fun e w' => e = .returned (.int .i64 n) ∧ Ext W w') := fun W p cs n h hn => by subst hn; exact nCheck_any p cs W h
  go_enter Try.func17, Try.ntmps17
  go_wp2_with fail
  refine (HS.out _).mono ?_
  rintro e w1 ⟨rfl, hS1, E1⟩
  go_wp2_with fail
  generalize hB1 : w.heap.size = B1 at *
  have F0 := E1
  generalize hV1 : w1.alloc _ = V1
  obtain ⟨sz1, P1, K1⟩ := chain1 hV1
  generalize w1.heap.size = Q1 at *
  have F1 := F0.trans K1
  have S1 := hS1.ext K1
  clear hV1 K1 hS1 E1 F0
  refine (HFA.out _ _ S1).mono ?_
  rintro e w2 ⟨rfl, E2⟩
  have P2 := Ext.heap E2 P1
  have F2 := F1.trans E2
  have S2 := S1.ext E2
  clear P1 F1 S1 E2
  have c0 := blk_cell P2 0
  have c1 := blk_cell P2 1
  have c2 := blk_cell P2 2
  have c3 := blk_cell P2 3
  simp only [List.getElem?_toArray, List.getElem?_cons_zero, List.getElem?_cons_succ] at c0 c1 c2 c3
  go_wp2_with fail
  refine (HFX.out _ _ S2).mono ?_
  rintro e w3 ⟨rfl, E2⟩
  have P3 := Ext.heap E2 P2
  have F3 := F2.trans E2
  have S3 := S2.ext E2
  clear P2 F2 S2 E2 c0 c1 c2 c3
  have c0 := blk_cell P3 0
  have c1 := blk_cell P3 1
  have c2 := blk_cell P3 2
  have c3 := blk_cell P3 3
  simp only [List.getElem?_toArray, List.getElem?_cons_zero, List.getElem?_cons_succ] at c0 c1 c2 c3
  go_wp2_with fail
  refine (HFY.out _ _ S3).mono ?_
  rintro e w4 ⟨rfl, E2⟩
  have P4 := Ext.heap E2 P3
  have F4 := F3.trans E2
  have S4 := S3.ext E2
  clear P3 F3 S3 E2 c0 c1 c2 c3
  go_wp2_with fail
  refine (HS.out _).mono ?_
  rintro e w5 ⟨rfl, T5, E5⟩
  have P5 := Ext.heap E5 P4
  have F5 := F4.trans E5
  have S5 := S4.ext E5
  have hB2 : B1 < w4.heap.size ∧ Q1 < w4.heap.size ∧ B1 + 5 < w4.heap.size := ⟨by have := lt_of_block S4.1; omega, lt_of_block P4, lt_of_block S4.2.2.2⟩
  clear P4 F4 S4
  have hBQ : w4.heap.size + 6 ≤ w5.heap.size := by have := lt_of_block T5.2.2.2; omega
  generalize w4.heap.size = B2 at *
  clear E5
  go_wp2_with fail
  generalize hV6 : w5.alloc _ = V6
  obtain ⟨sz6, U6, K6⟩ := chain1 hV6
  generalize w5.heap.size = Q2 at *
  have P6 := Ext.heap K6 P5
  have F6 := F5.trans K6
  have S6 := S5.ext K6
  have T6 := T5.ext K6
  clear hV6 K6 P5 F5 S5 T5
  have u2 := blk_cell U6 2
  simp only [List.getElem?_toArray, List.getElem?_cons_zero, List.getElem?_cons_succ] at u2
  have TF : V6.heap[B2 + 4]? = some (.cells #[.string ⟨#[120]⟩, .int .u8 2, .int .i64 2, .int .i64 0, .int .u8 11, .int .i64 0, .string ⟨#[]⟩, .slice (some ⟨B2 + 1, 0, none⟩) 2 2] 45 (0, 0)) := T6.2.2.1
  have f0 := blk_cell TF 0
  have f1 := blk_cell TF 1
  have f2 := blk_cell TF 2
  have f3 := blk_cell TF 3
  have f4 := blk_cell TF 4
  have f5 := blk_cell TF 5
  have f6 := blk_cell TF 6
  have f7 := blk_cell TF 7
  simp only [List.getElem?_toArray, List.getElem?_cons_zero, List.getElem?_cons_succ] at f0 f1 f2 f3 f4 f5 f6 f7
  have hown : V6.ownsRow B2 45 8 (.slice (some ⟨B2 + 4, 0, none⟩) 1 1) 1 #[.string ⟨#[120]⟩, .int .u8 2, .int .i64 2, .int .i64 0, .int .u8 11, .int .i64 0, .string ⟨#[]⟩, .slice (some ⟨B2 + 1, 0, none⟩) 2 2].toList := ⟨rfl, .inr ⟨B2 + 4, 1, _, rfl, by omega, TF, Nat.le_refl _, by decide, rfl, rfl⟩⟩
  have hown4 : (V6.alloc (.cells #[.string ⟨#[120]⟩, .int .u8 2, .int .i64 2, .int .i64 0, .int .u8 11, .int .i64 0, .string ⟨#[]⟩, .slice (some ⟨B2 + 1, 0, none⟩) 2 2] 45)).drew.ownsRow B2 45 8 (.slice (some ⟨B2 + 4, 0, none⟩) 1 1) 1 #[.string ⟨#[120]⟩, .int .u8 2, .int .i64 2, .int .i64 0, .int .u8 11, .int .i64 0, .string ⟨#[]⟩, .slice (some ⟨B2 + 1, 0, none⟩) 2 2].toList := World.ownsRow.alloc hown _
  have hnb : (V6.alloc (.cells #[.string ⟨#[120]⟩, .int .u8 2, .int .i64 2, .int .i64 0, .int .u8 11, .int .i64 0, .string ⟨#[]⟩, .slice (some ⟨B2 + 1, 0, none⟩) 2 2] 45)).drew.heap[Q2 + 1]? = some (.cells #[.string ⟨#[120]⟩, .int .u8 2, .int .i64 2, .int .i64 0, .int .u8 11, .int .i64 0, .string ⟨#[]⟩, .slice (some ⟨B2 + 1, 0, none⟩) 2 2] 45 (0, 0)) := by
    rw [← sz6]
    exact World.alloc_heap_new V6 _
  have hnews := World.news_of_block hnb
  have hbox : (V6.alloc (.cells #[.string ⟨#[120]⟩, .int .u8 2, .int .i64 2, .int .i64 0, .int .u8 11, .int .i64 0, .string ⟨#[]⟩, .slice (some ⟨B2 + 1, 0, none⟩) 2 2] 45)).drew.heap[Q2]? = some (.cells #[.int .i64 2, .slice (some ⟨B2 + 3, 0, none⟩) 1 1, .slice (some ⟨B2 + 4, 0, none⟩) 1 1, .slice (some ⟨B2 + 5, 0, none⟩) 1 1] 26 (0, 0)) := Ext.heap (((Chg.refl (fun _ => False) V6).alloc (.cells #[.string ⟨#[120]⟩, .int .u8 2, .int .i64 2, .int .i64 0, .int .u8 11, .int .i64 0, .string ⟨#[]⟩, .slice (some ⟨B2 + 1, 0, none⟩) 2 2] 45)).drew : Ext V6 (V6.alloc (.cells #[.string ⟨#[120]⟩, .int .u8 2, .int .i64 2, .int .i64 0, .int .u8 11, .int .i64 0, .string ⟨#[]⟩, .slice (some ⟨B2 + 1, 0, none⟩) 2 2] 45)).drew) U6
  have hlay : ∀ (X' : World), (V6.alloc (.cells #[.string ⟨#[120]⟩, .int .u8 2, .int .i64 2, .int .i64 0, .int .u8 11, .int .i64 0, .string ⟨#[]⟩, .slice (some ⟨B2 + 1, 0, none⟩) 2 2] 45)).drew.grownBy X' (Value.slice (some ⟨B2 + 4, 0, none⟩) 1 1).ownBlock → X'.heap[Q2]? = some (.cells #[.int .i64 2, .slice (some ⟨B2 + 3, 0, none⟩) 1 1, .slice (some ⟨B2 + 4, 0, none⟩) 1 1, .slice (some ⟨B2 + 5, 0, none⟩) 1 1] 26 (0, 0)) ∧ X'.cell? ⟨Q2, 2, none⟩ = some (.slice (some ⟨B2 + 4, 0, none⟩) 1 1) ∧ X'.frozen? ⟨Q2, 2, none⟩ = false := fun X' hg => by
    have h := (Chg.of_grownBy hg).heap hbox (fun h => by simp [Value.ownBlock] at h; omega)
    exact ⟨h, (blk_cell h 2).trans rfl, blk_free h 2⟩
  have hsz4 : (V6.alloc (.cells #[.string ⟨#[120]⟩, .int .u8 2, .int .i64 2, .int .i64 0, .int .u8 11, .int .i64 0, .string ⟨#[]⟩, .slice (some ⟨B2 + 1, 0, none⟩) 2 2] 45)).drew.heap.size = Q2 + 2 := by show (V6.alloc _).heap.size = _; simp [sz6]
  have g2 := blk_free U6 2
  go_region_law (refine step_append_lies _ (by rfl) _ _ 23 (by rfl) B2 45 i0 _ 8 96 Try.underlying23 hinf hz0 hz1 hz2 rfl (by decide) _ _ _ (by rfl) hown4 ⟨Q2 + 1, 0, none⟩ 1 1 #[.string ⟨#[120]⟩, .int .u8 2, .int .i64 2, .int .i64 0, .int .u8 11, .int .i64 0, .string ⟨#[]⟩, .slice (some ⟨B2 + 1, 0, none⟩) 2 2].toList (by rfl) rfl hnews (by simp [Value.oneCell']) (by decide) (by unfold maxLen; omega) (by omega) (by omega) (Q2 + 2) hsz4 ?_; intro g6 cap6 w6 hown6 hgrow6 hat6 hlt6; obtain ⟨U7, u7, g7⟩ := hlay _ hgrow6)
  all_goals (
    go_wp2_with fail
    have hE6 : Ext V6 (V6.alloc (.cells #[.string ⟨#[120]⟩, .int .u8 2, .int .i64 2, .int .i64 0, .int .u8 11, .int .i64 0, .string ⟨#[]⟩, .slice (some ⟨B2 + 1, 0, none⟩) 2 2] 45)).drew := ((Chg.refl (fun _ => False) V6).alloc _).drew
    have D6 := Chg.of_grownBy hgrow6
    have hg6 : g6 ≠ Q2 ∧ g6 < w6.heap.size := ⟨by
      rcases hat6 with h | h
      · simp [Value.ownBlock] at h; omega
      · omega, hlt6⟩
    have C6 : Chg (fun q => q = B2 + 4 ∨ q = Q2) V6 (w6.setCell ⟨Q2, 2, none⟩ (.slice (some ⟨g6, 0, none⟩) 2 cap6)) := (((hE6.mono (fun _ _ h => h.elim)).trans (D6.mono (fun q _ h => by simp [Value.ownBlock] at h; exact .inl h.symm))).setCell ⟨Q2, 2, none⟩ _ (.inl (.inr rfl)))
    have P7 := C6.heap P6 (by omega)
    have F7 : Ext w (w6.setCell ⟨Q2, 2, none⟩ (.slice (some ⟨g6, 0, none⟩) 2 cap6)) := Ext.then F6 C6 (fun b hb => by omega)
    have S7 : SmallAt (w6.setCell ⟨Q2, 2, none⟩ (.slice (some ⟨g6, 0, none⟩) 2 cap6)) B1 := ⟨C6.heap S6.1 (by omega), C6.heap S6.2.1 (by omega), C6.heap S6.2.2.1 (by omega), C6.heap S6.2.2.2 (by omega)⟩
    have T7a : ExsAt (w6.setCell ⟨Q2, 2, none⟩ (.slice (some ⟨g6, 0, none⟩) 2 cap6)) B2 := C6.heap T6.1 (by omega)
    have T7b := C6.heap T6.2.1 (by omega)
    have T7c := C6.heap T6.2.2.2 (by omega)
    have U8 := blk_set U7 2 (.slice (some ⟨g6, 0, none⟩) 2 cap6)
    have hfl7 : RdFlV (w6.setCell ⟨Q2, 2, none⟩ (.slice (some ⟨g6, 0, none⟩) 2 cap6)) 0 false twoP.flows (.slice (some ⟨g6, 0, none⟩) 2 cap6) := by
      obtain ⟨_, hh⟩ := hown6
      rcases hh with ⟨hh, _⟩ | ⟨g', cap', cur, hv, _, hcur, hcap, hcap2, _, htake⟩
      · cases hh
      · simp only [Value.slice.injEq, Option.some.injEq, Addr.mk.injEq, and_true] at hv
        obtain ⟨rfl, _, rfl⟩ := hv
        have hcur8 := (Chg.setCell (Chg.refl (fun q => q = Q2) w6) ⟨Q2, 2, none⟩ (.slice (some ⟨g6, 0, none⟩) 2 cap6) (.inl rfl)).heap hcur (by omega)
        refine flS_rd2 T7a hcur8 (by omega) (by unfold maxLen at hcap2 ⊢; omega) (fun i j hi hj => ?_)
        have e1 : cur[i * 8 + j]? = (cur.toList.take ((1 + 1) * 8))[i * 8 + j]? := by rw [List.getElem?_take, if_pos (by omega)]; simp
        rw [e1, htake]
        match i, j, hi, hj with
        | 0, 0, _, _ => rfl
        | 0, 1, _, _ => rfl
        | 0, 2, _, _ => rfl
        | 0, 3, _, _ => rfl
        | 0, 4, _, _ => rfl
        | 0, 5, _, _ => rfl
        | 0, 6, _, _ => rfl
        | 0, 7, _, _ => rfl
        | 1, 0, _, _ => rfl
        | 1, 1, _, _ => rfl
        | 1, 2, _, _ => rfl
        | 1, 3, _, _ => rfl
        | 1, 4, _, _ => rfl
        | 1, 5, _, _ => rfl
        | 1, 6, _, _ => rfl
        | 1, 7, _, _ => rfl
        | n + 2, _, hi, _ => omega
        | 0, n + 8, _, hj => omega
        | 1, n + 8, _, hj => omega
    have U8 : (w6.setCell ⟨Q2, 2, none⟩ (.slice (some ⟨g6, 0, none⟩) 2 cap6)).heap[Q2]? = some (.cells #[.int .i64 2, .slice (some ⟨B2 + 3, 0, none⟩) 1 1, .slice (some ⟨g6, 0, none⟩) 2 cap6, .slice (some ⟨B2 + 5, 0, none⟩) 1 1] 26 (0, 0)) := U8
    clear D6 C6 U7 u7 g7 hgrow6 hown6 hat6 hlt6 hE6 hlay hbox hnews hnb hown4 hown hsz4 g2 u2 f0 f1 f2 f3 f4 f5 f6 f7 TF
    generalize (w6.setCell ⟨Q2, 2, none⟩ (.slice (some ⟨g6, 0, none⟩) 2 cap6)) = V7 at *
    refine (HS.out _).mono ?_
    rintro e w8 ⟨rfl, T8, E8⟩
    have P8 := Ext.heap E8 P7
    have F8 := F7.trans E8
    have S8 := S7.ext E8
    have T8a : ExsAt w8 B2 := Ext.heap E8 T7a
    have T8b := Ext.heap E8 T7b
    have T8c := Ext.heap E8 T7c
    have U9 := Ext.heap E8 U8
    have fl8 := hfl7.ext E8
    generalize V7.heap.size = B3 at *
    clear P7 F7 S7 T7a T7b T7c U8 hfl7 E8
    have hc0 : ∀ ob ob2, ((w8.alloc ob).alloc ob2).cell? ⟨Q1, 0, none⟩ = some (.int .i64 2) := fun ob ob2 => (blk_cell (Ext.heap (((Chg.refl (fun _ => False) w8).alloc ob).alloc ob2) P8) 0).trans rfl
    have hc1 : ∀ ob ob2, ((w8.alloc ob).alloc ob2).cell? ⟨Q1, 1, none⟩ = some (.slice (some ⟨B1 + 3, 0, none⟩) 1 1) := fun ob ob2 => (blk_cell (Ext.heap (((Chg.refl (fun _ => False) w8).alloc ob).alloc ob2) P8) 1).trans rfl
    have hc2 : ∀ ob ob2, ((w8.alloc ob).alloc ob2).cell? ⟨Q1, 2, none⟩ = some (.slice (some ⟨B1 + 4, 0, none⟩) 1 1) := fun ob ob2 => (blk_cell (Ext.heap (((Chg.refl (fun _ => False) w8).alloc ob).alloc ob2) P8) 2).trans rfl
    have hc3 : ∀ ob ob2, ((w8.alloc ob).alloc ob2).cell? ⟨Q1, 3, none⟩ = some (.slice (some ⟨B1 + 5, 0, none⟩) 1 1) := fun ob ob2 => (blk_cell (Ext.heap (((Chg.refl (fun _ => False) w8).alloc ob).alloc ob2) P8) 3).trans rfl
    go_wp2_with fail
    generalize hVa : w8.alloc _ = wa
    obtain ⟨sza, Pa, Ka⟩ := chain1 hVa
    generalize hVb : wa.alloc _ = wb
    obtain ⟨szb, Pb, Kb⟩ := chain1 hVb
    have Kab := Ka.trans Kb
    rw [sza] at Pb
    generalize w8.heap.size = Q3 at *
    have F9 := F8.trans Kab
    have S9 := S8.ext Kab
    have T9 := T8.ext Kab
    have T9a : ExsAt wb B2 := Ext.heap Kab T8a
    have T9b := Ext.heap Kab T8b
    have T9c := Ext.heap Kab T8c
    have U10 := Ext.heap Kab U9
    have X9 := Ext.heap Kb Pa
    have fl9 := fl8.ext Kab
    clear hc0 hc1 hc2 hc3 Pa hVa hVb Ka Kb Kab F8 S8 T8 T8a T8b T8c U9 fl8 P8
    have RT : RdPr wb 0 false twoP #[.int .i64 2, .slice (some ⟨B2 + 3, 0, none⟩) 1 1, .slice (some ⟨g6, 0, none⟩) 2 cap6, .slice (some ⟨B2 + 5, 0, none⟩) 1 1] := ⟨_, _, _, rfl, by decide, in1_rd T9b, fl9, str1_rd (s := sX) (by decide) T9c⟩
    have RO : RdPr wb 0 false outP #[.int .i64 2, .slice (some ⟨B3 + 3, 0, none⟩) 1 1, .slice (some ⟨B3 + 4, 0, none⟩) 1 1, .slice (some ⟨Q3 + 1, 0, none⟩) 1 1] := ⟨_, _, _, rfl, by decide, T9.ins, T9.fl, str1_rd (s := sY) (by decide) Pb⟩
    have HRT := Lib.hid RT
    have HRO := Lib.hid RO
    clear RT RO T9 T9a T9b T9c fl9 Pb
    refine (HNC.out _ smallP _ 0 S9.rd n_small).mono ?_
    rintro e wc ⟨rfl, Ec⟩
    have Uc := Ext.heap Ec U10
    have Xc := Ext.heap Ec X9
    have Fc := F9.trans Ec
    have d0 := blk_cell Uc 0
    have d1 := blk_cell Uc 1
    have d2 := blk_cell Uc 2
    have d3 := blk_cell Uc 3
    simp only [List.getElem?_toArray, List.getElem?_cons_zero, List.getElem?_cons_succ] at d0 d1 d2 d3
    go_wp2_with fail
    refine (HNC.out _ twoP _ 6 (HRT.out.ext Ec) n_two).mono ?_
    rintro e wd ⟨rfl, Ed⟩
    have Xd := Ext.heap Ed Xc
    have Fd := Fc.trans Ed
    clear d0 d1 d2 d3
    have d0 := blk_cell Xd 0
    have d1 := blk_cell Xd 1
    have d2 := blk_cell Xd 2
    have d3 := blk_cell Xd 3
    simp only [List.getElem?_toArray, List.getElem?_cons_zero, List.getElem?_cons_succ] at d0 d1 d2 d3
    go_wp2_with fail
    refine (HNC.out _ outP _ 6 (HRO.out.ext (Ec.trans Ed)) n_out).mono ?_
    rintro e we ⟨rfl, Ee⟩
    clear d0 d1 d2 d3
    go_wp2_with fail
    refine (HNC.out _ zeroP _ 1 (zero_rd we) n_zero).mono ?_
    rintro e wf ⟨rfl, Ef⟩
    go_wp2_with fail
    go_ret
    exact ⟨rfl, (Fd.trans Ee).trans Ef⟩
  )
end Go.Proofs.Ytgdlocjocjamgaa
