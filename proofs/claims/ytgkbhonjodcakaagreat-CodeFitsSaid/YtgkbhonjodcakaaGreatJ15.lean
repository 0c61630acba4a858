/- What stands in this text: CodeForms, CodeLeaf. -/
import Derived.Test.YtgkbhonjodcakaaGreatJ10
import Derived.Test.YtgkbhonjodcakaaGreatJ14
import Derived.BigQuiet
import Derived.Deep.QuietTactic
namespace Go.Proofs.YtgkbhonjodcakaaGreat
open Go.RowKit
set_option linter.unusedVariables false
set_option linter.unusedSimpArgs false

theorem leave_a {o : Int} (h : 6 ≤ o ∧ o < 11) : ∀ l, leaveT o l = eachT 1 1 l := fun l => by
  unfold leaveT; rw [if_pos (by omega)]
theorem leave_l {o : Int} (h : 13 ≤ o ∧ o < 15) : ∀ l, leaveT o l = eachT 1 2 l := fun l => by
  unfold leaveT; rw [if_neg (by omega), if_neg (by omega), if_pos (by omega)]
theorem leave_b {o : Int} (h : 15 ≤ o ∧ o < 17) : ∀ l, leaveT o l = eachT 2 2 l := fun l => by
  unfold leaveT; rw [if_neg (by omega), if_pos (by omega)]
theorem many_2 {o : Int} (h : 6 ≤ o ∧ o ≤ 18 ∧ o ≠ 17) : (2 : Int) = manyP o := by
  unfold manyP; rw [if_neg (by omega), if_neg (by omega), if_pos (by omega)]; rfl
theorem ext_at {w w1 w2 : World} {M : Nat} (h : Ext w w1) (hM : w.heap.size ≤ M) (hc : Chg (fun q => q = M) w1 w2) : Ext w w2 := Ext.then h hc (fun b hb => by omega)
theorem ops5 {k : Nat} (h : k < 5) : (#[.int .u8 6, .int .u8 7, .int .u8 8, .int .u8 9, .int .u8 10] : Array Value)[k]? = some (.int .u8 (6 + (k : Int))) := by
  match k, h with
  | 0, _ => rfl
  | 1, _ => rfl
  | 2, _ => rfl
  | 3, _ => rfl
  | 4, _ => rfl
theorem ops2 (a : Int) {k : Nat} (h : k < 2) : (#[.int .u8 a, .int .u8 (a + 1)] : Array Value)[k]? = some (.int .u8 (a + (k : Int))) := by
  match k, h with
  | 0, _ => simp
  | 1, _ => rfl
set_option maxRecDepth 100000 in
set_option maxHeartbeats 8000000 in
theorem forms_any (w : World) : Calls Tryz.prog 39 #[] w fun e w' => ∃ M, e = .returned (.map (some M)) ∧ FmAll w' M ∧ Ext w w' := by
  have hmm := @run_makeMap Tryz.prog
  go_enter Tryz.func39, Tryz.ntmps39
  go_upto_region 2 with (fail)
  have hM0 := FmS.made w
  have e0 : Ext w (w.alloc (.map #[] 0)) := (Chg.refl _ _).alloc _
  generalize hMs : w.heap.size = M at *
  have hMw : w.heap.size ≤ M := by omega
  generalize (w.alloc (.map #[] 0)) = W0 at *
  clear hmm hMs

  have hA := heap_alloc_new W0 (.cells #[.int .u8 6, .int .u8 7, .int .u8 8, .int .u8 9, .int .u8 10] 38)
  have hFa := FmS.ext hM0 ((Chg.refl (fun _ => False) W0).alloc (.cells #[.int .u8 6, .int .u8 7, .int .u8 8, .int .u8 9, .int .u8 10] 38))
  have hXa := e0.alloc (.cells #[.int .u8 6, .int .u8 7, .int .u8 8, .int .u8 9, .int .u8 10] 38)
  have HFa : Hid (FmS _ M (0 + 0) (fun o => 6 ≤ o ∧ o < 6 + ((0 : Nat) : Int))) := hFa.eqv (fun o => by constructor <;> intro h <;> (try simp at h) <;> omega)
  clear hFa hM0 e0
  go_wp2_with fail
  generalize hAa : W0.heap.size = Aa at *
  clear hAa
  go_loopw [14] (fun iv wr => ∃ k : Nat, k ≤ 5 ∧ iv = .int .i64 k ∧ FmS wr M (0 + k) (fun o => 6 ≤ o ∧ o < 6 + (k : Int)) ∧ Ext w wr ∧ wr.heap[Aa]? = some (.cells #[.int .u8 6, .int .u8 7, .int .u8 8, .int .u8 9, .int .u8 10] 38 (0, 0))) (fun iv _ => 5 - (intOf iv).toNat)
  case atStart => exact ⟨0, Nat.zero_le _, rfl, HFa.out, hXa, hA⟩
  case round =>
    clear HFa hXa hA
    obtain ⟨k, hk, rfl, hm, hE, hb⟩ := hrel
    have HM := Lib.hid hm
    clear hm
    by_cases hlt : k < 5
    case pos =>
      have c0 := (blk_cell hb k).trans (ops5 hlt)
      have q1 : (k : Int) < 5 := by omega
      have hAl := lt_of_block hb
      have hlv := leave_a (o := 6 + (k : Int)) (by omega)
      have HLV := Lib.hid hlv
      have hm2 := many_2 (o := 6 + (k : Int)) (by omega)
      have HM2 := Lib.hid hm2
      have hu8 : isU8 (6 + (k : Int)) := by unfold isU8; omega
      have HU8 := Lib.hid hu8
      clear hlv hm2 hu8
      generalize hop : (6 + (k : Int)) = op at *
      have HOP := Lib.hid hop
      clear hop
      go_wp2_with fail
      refine (from_any 2 1 1 _).mono ?_
      rintro e w2 ⟨c, rfl, hfc, E2⟩
      obtain ⟨w3, hput, hm3, C3⟩ := (HM.out.ext E2).put HU8.out (by omega) (c := c) (.inl ⟨1, 1, hfc, HLV.out⟩) HM2.out
      have hE3 := ext_at (hE.trans E2) hMw C3
      have hb3 := C3.heap (Ext.heap E2 hb) ((HM.out.ext E2).ne (Ext.heap E2 hb))
      have hm4 : FmS w3 M (0 + (k + 1)) (fun o => 6 ≤ o ∧ o < 6 + ((k + 1 : Nat) : Int)) := hm3.eqv (fun o => by have := HOP.out; constructor <;> intro h <;> (try simp at h ⊢) <;> omega)
      have HM4 := Lib.hid hm4
      clear hfc E2 hm3 C3 hm4 hb c0
      go_wp2_with fail
      go_roundw
      case rel => exact ⟨k + 1, by omega, by go_num, HM4.out, hE3, hb3⟩
      case measure => simp [intOf]; omega
    obtain rfl : k = 5 := by omega
    rw [show (((5 : Nat) : Int)) = 5 from rfl]
    have hMa := HM.out
    clear HM hb hlt hk
    have hA := heap_alloc_new wr (.cells #[.int .u8 13, .int .u8 14] 38)
    have hFl := FmS.ext hMa ((Chg.refl (fun _ => False) wr).alloc (.cells #[.int .u8 13, .int .u8 14] 38))
    have hXl := hE.alloc (.cells #[.int .u8 13, .int .u8 14] 38)
    have HFl : Hid (FmS _ M (5 + 0) (fun o => (6 ≤ o ∧ o < 11) ∨ (13 ≤ o ∧ o < 13 + ((0 : Nat) : Int)))) := hFl.eqv (fun o => by constructor <;> intro h <;> (try simp at h) <;> omega)
    clear hFl hMa hE
    go_wp2_with fail
    obtain ⟨wol, rfl⟩ : ∃ wo : World, wo = wr := ⟨_, rfl⟩
    generalize hAal : wol.heap.size = Al at *
    go_loopw [24] (fun iv wr => ∃ k : Nat, k ≤ 2 ∧ iv = .int .i64 k ∧ FmS wr M (5 + k) (fun o => (6 ≤ o ∧ o < 11) ∨ (13 ≤ o ∧ o < 13 + (k : Int))) ∧ Ext w wr ∧ wr.heap[Al]? = some (.cells #[.int .u8 13, .int .u8 14] 38 (0, 0))) (fun iv _ => 2 - (intOf iv).toNat)
    case atStart => exact ⟨0, Nat.zero_le _, rfl, HFl.out, hXl, hA⟩
    case round =>
      clear HFl hXl hA
      obtain ⟨k, hk, rfl, hm, hE, hb⟩ := hrel
      have HM := Lib.hid hm
      clear hm
      by_cases hlt : k < 2
      case pos =>
        have c0 := (blk_cell hb k).trans (ops2 13 hlt)
        have q1 : (k : Int) < 2 := by omega
        have hAl := lt_of_block hb
        have hlv := leave_l (o := 13 + (k : Int)) (by omega)
        have HLV := Lib.hid hlv
        have hm2 := many_2 (o := 13 + (k : Int)) (by omega)
        have HM2 := Lib.hid hm2
        have hu8 : isU8 (13 + (k : Int)) := by unfold isU8; omega
        have HU8 := Lib.hid hu8
        clear hlv hm2 hu8
        generalize hop : (13 + (k : Int)) = op at *
        have HOP := Lib.hid hop
        clear hop
        go_wp2_with fail
        refine (from_any 2 1 2 _).mono ?_
        rintro e w2 ⟨c, rfl, hfc, E2⟩
        obtain ⟨w3, hput, hm3, C3⟩ := (HM.out.ext E2).put HU8.out (by omega) (c := c) (.inl ⟨1, 2, hfc, HLV.out⟩) HM2.out
        have hE3 := ext_at (hE.trans E2) hMw C3
        have hb3 := C3.heap (Ext.heap E2 hb) ((HM.out.ext E2).ne (Ext.heap E2 hb))
        have hm4 : FmS w3 M (5 + (k + 1)) (fun o => (6 ≤ o ∧ o < 11) ∨ (13 ≤ o ∧ o < 13 + ((k + 1 : Nat) : Int))) := hm3.eqv (fun o => by have := HOP.out; constructor <;> intro h <;> (try simp at h ⊢) <;> omega)
        have HM4 := Lib.hid hm4
        clear hfc E2 hm3 C3 hm4 hb c0
        go_wp2_with fail
        go_roundw
        case rel => exact ⟨k + 1, by omega, by go_num, HM4.out, hE3, hb3⟩
        case measure => simp [intOf]; omega
      obtain rfl : k = 2 := by omega
      rw [show (((2 : Nat) : Int)) = 2 from rfl]
      have hMl := HM.out
      clear HM hb hlt hk
      have hA := heap_alloc_new wr (.cells #[.int .u8 15, .int .u8 16] 38)
      have hFb := FmS.ext hMl ((Chg.refl (fun _ => False) wr).alloc (.cells #[.int .u8 15, .int .u8 16] 38))
      have hXb := hE.alloc (.cells #[.int .u8 15, .int .u8 16] 38)
      have HFb : Hid (FmS _ M (7 + 0) (fun o => ((6 ≤ o ∧ o < 11) ∨ (13 ≤ o ∧ o < 15)) ∨ (15 ≤ o ∧ o < 15 + ((0 : Nat) : Int)))) := hFb.eqv (fun o => by constructor <;> intro h <;> (try simp at h) <;> omega)
      clear hFb hMl hE
      go_wp2_with fail
      obtain ⟨wob, rfl⟩ : ∃ wo : World, wo = wr := ⟨_, rfl⟩
      generalize hAab : wob.heap.size = Ab at *
      go_loopw [34] (fun iv wr => ∃ k : Nat, k ≤ 2 ∧ iv = .int .i64 k ∧ FmS wr M (7 + k) (fun o => ((6 ≤ o ∧ o < 11) ∨ (13 ≤ o ∧ o < 15)) ∨ (15 ≤ o ∧ o < 15 + (k : Int))) ∧ Ext w wr ∧ wr.heap[Ab]? = some (.cells #[.int .u8 15, .int .u8 16] 38 (0, 0))) (fun iv _ => 2 - (intOf iv).toNat)
      case atStart => exact ⟨0, Nat.zero_le _, rfl, HFb.out, hXb, hA⟩
      case round =>
        clear HFb hXb hA
        obtain ⟨k, hk, rfl, hm, hE, hb⟩ := hrel
        have HM := Lib.hid hm
        clear hm
        by_cases hlt : k < 2
        case pos =>
          have c0 := (blk_cell hb k).trans (ops2 15 hlt)
          have q1 : (k : Int) < 2 := by omega
          have hAl := lt_of_block hb
          have hlv := leave_b (o := 15 + (k : Int)) (by omega)
          have HLV := Lib.hid hlv
          have hm2 := many_2 (o := 15 + (k : Int)) (by omega)
          have HM2 := Lib.hid hm2
          have hu8 : isU8 (15 + (k : Int)) := by unfold isU8; omega
          have HU8 := Lib.hid hu8
          clear hlv hm2 hu8
          generalize hop : (15 + (k : Int)) = op at *
          have HOP := Lib.hid hop
          clear hop
          go_wp2_with fail
          refine (from_any 2 2 2 _).mono ?_
          rintro e w2 ⟨c, rfl, hfc, E2⟩
          obtain ⟨w3, hput, hm3, C3⟩ := (HM.out.ext E2).put HU8.out (by omega) (c := c) (.inl ⟨2, 2, hfc, HLV.out⟩) HM2.out
          have hE3 := ext_at (hE.trans E2) hMw C3
          have hb3 := C3.heap (Ext.heap E2 hb) ((HM.out.ext E2).ne (Ext.heap E2 hb))
          have hm4 : FmS w3 M (7 + (k + 1)) (fun o => ((6 ≤ o ∧ o < 11) ∨ (13 ≤ o ∧ o < 15)) ∨ (15 ≤ o ∧ o < 15 + ((k + 1 : Nat) : Int))) := hm3.eqv (fun o => by have := HOP.out; constructor <;> intro h <;> (try simp at h ⊢) <;> omega)
          have HM4 := Lib.hid hm4
          clear hfc E2 hm3 C3 hm4 hb c0
          go_wp2_with fail
          go_roundw
          case rel => exact ⟨k + 1, by omega, by go_num, HM4.out, hE3, hb3⟩
          case measure => simp [intOf]; omega
        obtain rfl : k = 2 := by omega
        rw [show (((2 : Nat) : Int)) = 2 from rfl]
        have hMb := HM.out
        clear HM hb hlt hk
        have HM := Lib.hid (show FmS wr M 9 (fun o => (6 ≤ o ∧ o < 11) ∨ (13 ≤ o ∧ o < 15) ∨ (15 ≤ o ∧ o < 17)) from hMb.eqv (fun o => by constructor <;> intro h <;> omega))
        clear hMb
        go_wp2_with fail
        refine (from_any 1 1 1 _).mono ?_
        rintro e w2 ⟨c4, rfl, hf4, E2⟩
        go_wp2_with fail
        refine (from_any 1 2 2 _).mono ?_
        rintro e w3 ⟨c5, rfl, hf5, E3⟩
        have hf4' : FromC w3 1 1 c4 := by
          obtain ⟨b0, b1, h1, h2, h3⟩ := hf4
          exact ⟨b0, b1, h1, Ext.cell E3 h2, Ext.cell E3 h3⟩
        obtain ⟨st, w4, hent, w5, hsto, hm5, C5⟩ := (HM.out.ext (E2.trans E3)).entry (o := 4) (m := 1) (by unfold isU8; omega) (by omega) (by omega) (c := c4) (.inl ⟨1, 1, hf4', fun l => by unfold leaveT; rw [if_pos (by omega)]⟩) (by decide)
        have hno : ∀ v, w3.cell? ⟨M, 0, none⟩ ≠ some v := fun v => by
          obtain ⟨f, h1, _⟩ := HM.out.ext (E2.trans E3)
          exact h1.nocell 0 v
        have hf5' : ClOk w5 5 c5 := (show ClOk w3 5 c5 from .inl ⟨2, 2, hf5, fun l => by unfold leaveT; rw [if_neg (by omega), if_pos (by omega)]⟩).chg C5 (fun b v hb => by subst hb; exact hno v)
        obtain ⟨w6, hput, hm6, C6⟩ := hm5.put (o := 5) (m := 1) (by unfold isU8; omega) (by omega) hf5' (by decide)
        have hE6 := ext_at (ext_at (hE.trans (E2.trans E3)) hMw C5) hMw C6
        have HM6 := Lib.hid hm6
        have hn3 := hno
        clear hf4 hf4' hf5 hf5' E2 E3 hm5 C5 C6 hm6 hE hno hn3
        unfold zeroFo at hent
        go_upto_region 19 with (fail)
        generalize hw7 : w6.alloc (.cells #[.func (.func 82) #[] #[]] 109) = w7
        obtain ⟨s7, b7, e7⟩ := chain1 hw7
        clear hw7
        generalize hBx : w6.heap.size = Bx at *
        have c7 := (blk_cell b7 0).trans rfl
        obtain ⟨w8, hput8, hm8, C8⟩ := (HM6.out.ext e7).put (o := 18) (m := 2) (c := .func (.func 82) #[] #[]) (by unfold isU8; omega) (by omega) (.inr (.inl ⟨rfl, rfl⟩)) (by decide)
        have hE8 := ext_at (hE6.trans e7) hMw C8
        have b8 := C8.heap b7 ((HM6.out.ext e7).ne b7)
        have HM8 := Lib.hid hm8
        simp only [List.getElem?_toArray, List.getElem?_cons_zero] at c7
        clear hput hent hsto HM6 hE6 s7 e7 C8 hm8 b7
        go_upto_region 20 with (fail)
        have hA := heap_alloc_new w8 (.cells #[.int .u8 11, .int .u8 12] 38)
        have hF := FmS.ext HM8.out ((Chg.refl (fun _ => False) w8).alloc (.cells #[.int .u8 11, .int .u8 12] 38))
        have hX := hE8.alloc (.cells #[.int .u8 11, .int .u8 12] 38)
        have hbx := Ext.heap ((Chg.refl (fun _ => False) w8).alloc (.cells #[.int .u8 11, .int .u8 12] 38)) b8
        have HF := Lib.hid hF
        clear hF HM8 hE8 hput8 b8 c7
        go_wp2_with fail
        generalize hAe : w8.heap.size = Ae at *
        go_loopw [53] (fun iv wr => ∃ k : Nat, k ≤ 2 ∧ iv = .int .i64 k ∧ FmS wr M (12 + k) (fun o => (((((6 ≤ o ∧ o < 11) ∨ (13 ≤ o ∧ o < 15) ∨ (15 ≤ o ∧ o < 17)) ∨ o = 4) ∨ o = 5) ∨ o = 18) ∨ (11 ≤ o ∧ o < 11 + (k : Int))) ∧ Ext w wr ∧ wr.heap[Ae]? = some (.cells #[.int .u8 11, .int .u8 12] 38 (0, 0)) ∧ wr.heap[Bx]? = some (.cells #[.func (.func 82) #[] #[]] 109 (0, 0))) (fun iv _ => 2 - (intOf iv).toNat)
        case atStart => exact ⟨0, Nat.zero_le _, rfl, HF.out.eqv (fun o => by constructor <;> intro h <;> omega), hX, hA, hbx⟩
        case round =>
          clear HF hX hA hbx
          obtain ⟨k, hk, rfl, hm, hE, hb, hbx⟩ := hrel
          have HM := Lib.hid hm
          clear hm
          by_cases hlt : k < 2
          case pos =>
            have c0 := (blk_cell hb k).trans (ops2 11 hlt)
            have q1 : (k : Int) < 2 := by omega
            have cb := (blk_cell hbx 0).trans rfl
            simp only [List.getElem?_toArray, List.getElem?_cons_zero] at cb
            have hm2 := many_2 (o := 11 + (k : Int)) (by omega)
            have HM2 := Lib.hid hm2
            have hu8 : isU8 (11 + (k : Int)) := by unfold isU8; omega
            have h1112 : 11 + (k : Int) = 11 ∨ 11 + (k : Int) = 12 := by omega
            have HU8 := Lib.hid hu8
            have HEQ := Lib.hid h1112
            clear hm2 hu8 h1112
            generalize hop : (11 + (k : Int)) = op at *
            have HOP := Lib.hid hop
            clear hop
            obtain ⟨w3, hput, hm3, C3⟩ := HM.out.put HU8.out (by omega) (c := .func (.func 84) #[] #[.pointer (some ⟨Bx, 0, none⟩)]) (.inr (.inr (.inl ⟨HEQ.out, Bx, rfl, cb⟩))) HM2.out
            have hE3 := ext_at hE hMw C3
            have hb3 := C3.heap hb (HM.out.ne hb)
            have hbx3 := C3.heap hbx (HM.out.ne hbx)
            have hm4 : FmS w3 M (12 + (k + 1)) (fun o => (((((6 ≤ o ∧ o < 11) ∨ (13 ≤ o ∧ o < 15) ∨ (15 ≤ o ∧ o < 17)) ∨ o = 4) ∨ o = 5) ∨ o = 18) ∨ (11 ≤ o ∧ o < 11 + ((k + 1 : Nat) : Int))) := hm3.eqv (fun o => by have := HOP.out; constructor <;> intro h <;> omega)
            have HM4 := Lib.hid hm4
            clear hm3 C3 hm4 hb cb hbx
            go_wp2_with fail
            go_roundw
            case rel => exact ⟨k + 1, by omega, by go_num, HM4.out, hE3, hb3, hbx3⟩
            case measure => simp [intOf]; omega
          obtain rfl : k = 2 := by omega
          rw [show (((2 : Nat) : Int)) = 2 from rfl]
          have cb := (blk_cell hbx 0).trans rfl
          simp only [List.getElem?_toArray, List.getElem?_cons_zero] at cb
          obtain ⟨w3, hput, hm3, C3⟩ := HM.out.put (o := 17) (m := 3) (by unfold isU8; omega) (by omega) (c := .func (.func 85) #[] #[.pointer (some ⟨Bx, 0, none⟩)]) (.inr (.inr (.inr ⟨rfl, Bx, rfl, cb⟩))) (by decide)
          have hE3 := ext_at hE hMw C3
          have hall : FmAll w3 M := hm3.eqv (fun o => by rw [manyP_pos]; constructor <;> intro h <;> omega)
          have HALL := Lib.hid hall
          clear hm3 C3 hall hb hbx cb HM
          go_wp2_with fail
          go_ret
          exact ⟨M, rfl, HALL.out, hE3⟩
end Go.Proofs.YtgkbhonjodcakaaGreat
namespace Go.Proofs.YtgkbhonjodcakaaGreat
open Go.RowKit
set_option linter.unusedVariables false
set_option linter.unusedSimpArgs false

theorem odd_one (x : PlD) (w : World) : Calls Tryz.prog 37 #[.agg #[.string x.name, .int .u8 x.ty, .int .i64 x.keep, .bool x.far, .int .i64 x.frm, .int .i64 x.df]] w (RetV (!placeOk x) w) := by
  have HO := Lib.hid (show placeOk x = ((decide (x.ty = 1) || decide (x.ty = 2)) && decide (0 ≤ x.keep) && decide (x.keep ≤ 4000)) from rfl)
  generalize hpo : placeOk x = b at *
  clear hpo
  obtain ⟨nm, ty, keep, far, frm, df⟩ := x
  simp only at HO ⊢
  have K : Ext w (w.alloc (.cells #[.string nm, .int .u8 ty, .int .i64 keep, .bool far, .int .i64 frm, .int .i64 df] 51)) := (Chg.refl _ _).alloc _
  by_cases t1 : ty = 1
  · subst t1
    by_cases k1 : keep < 0
    · go_enter Tryz.func37, Tryz.ntmps37
      go_wp2_with fail
      go_ret
      exact retV (by rw [HO.out]; by_cases h4 : keep ≤ 4000 <;> by_cases h5 : 0 ≤ keep <;> simp [h4, h5] <;> omega) K
    · go_enter Tryz.func37, Tryz.ntmps37
      go_wp2_with fail
      go_ret
      exact retV (by rw [HO.out]; by_cases h4 : keep ≤ 4000 <;> by_cases h5 : 0 ≤ keep <;> simp [h4, h5] <;> omega) K
  · have b1 : (ty != 1) = true := by simpa using t1
    by_cases t2 : ty = 2
    · subst t2
      by_cases k1 : keep < 0
      · go_enter Tryz.func37, Tryz.ntmps37
        go_wp2_with fail
        go_ret
        exact retV (by rw [HO.out]; by_cases h4 : keep ≤ 4000 <;> by_cases h5 : 0 ≤ keep <;> simp [h4, h5] <;> omega) K
      · go_enter Tryz.func37, Tryz.ntmps37
        go_wp2_with fail
        go_ret
        exact retV (by rw [HO.out]; by_cases h4 : keep ≤ 4000 <;> by_cases h5 : 0 ≤ keep <;> simp [h4, h5] <;> omega) K
    · have b2 : (ty != 2) = true := by simpa using t2
      go_enter Tryz.func37, Tryz.ntmps37
      go_wp2_with fail
      go_ret
      exact retV (by rw [HO.out]; simp [t1, t2]) K
def RetIxP (b : Bool) (w : World) (e : Ending) (w' : World) : Prop := (∃ n : Int, e = .returned (.int .i64 n) ∧ (0 ≤ n ↔ b = true)) ∧ Ext w w'
theorem anyP_at {α : Type} {l : List α} {k : Nat} {y : α} {f : α → Bool} (h : l[k]? = some y) : (l.drop k).any f = (f y || (l.drop (k + 1)).any f) := by
  obtain ⟨hk, rfl⟩ := List.getElem?_eq_some_iff.1 h
  rw [List.drop_eq_getElem_cons hk]
  rfl
set_option maxHeartbeats 1000000 in
theorem idxPl_any (l : List PlD) (v : Value) (w : World) (h : RdPlS w l v) :
    Calls Tryz.prog 80 #[v, .func (.func 37) #[] #[]] w (RetIxP (l.any fun x => !placeOk x) w) := by
  obtain ⟨a, cap, rfl, _, _, hf⟩ := h.form
  have hn : l.length ≤ 9000000000000000000 := by omega
  have H := Lib.hid h
  clear h hf
  generalize hpe : (fun x : PlD => !placeOk x) = P at *
  have HP : Hid (∀ (x : PlD) (W : World), Calls Tryz.prog 37 #[.agg #[.string x.name, .int .u8 x.ty, .int .i64 x.keep, .bool x.far, .int .i64 x.frm, .int .i64 x.df]] W (RetV (P x) W)) := fun x W => by rw [← hpe]; exact odd_one x W
  clear hpe
  go_enter Tryz.func80, Tryz.ntmps80
  go_wp2_with fail
  go_loopw [8] (fun i wr => ∃ k : Nat, k ≤ l.length ∧ i = .int .i64 k ∧ (l.any P) = ((l.drop k).any P) ∧ Ext w wr) (fun i _ => l.length - (intOf i).toNat)
  case atStart => exact ⟨0, Nat.zero_le _, rfl, rfl, Chg.refl _ _⟩
  case round =>
    obtain ⟨k, hk, rfl, hE, hX⟩ := hrel
    have HE := Lib.hid hE
    clear hE
    by_cases hlt : k < l.length
    · have hx : l[k]? = some l[k] := List.getElem?_eq_getElem hlt
      have q1 : (k : Int) < (l.length : Int) := by omega
      have HS := Lib.hid (anyP_at (f := P) hx)
      obtain ⟨b, o, rfl, hb, c0, c1, c2, c3, c4, c5⟩ := (H.out.ext hX).get hx
      generalize l[k] = y at *
      clear hx
      go_wp2_with fail
      refine (show Calls _ _ _ _ (RetV (P y) wr) from HP.out y wr).mono ?_
      rintro e w1 ⟨he, hE1⟩
      cases hb : P y
      · rw [hb] at he
        subst he
        have H2 : Hid ((l.any P) = ((l.drop (k + 1)).any P)) := by
          show _ = _
          rw [HE.out, HS.out, hb, Bool.false_or]
        have hX1 := hX.trans hE1
        clear hX hE1
        go_wp2_with fail
        go_roundw
        case rel => exact ⟨k + 1, by omega, by go_num, H2.out, hX1⟩
        case measure => simp [intOf]; omega
      · rw [hb] at he
        subst he
        have H2 : Hid ((l.any P) = true) := by
          show _ = _
          rw [HE.out, HS.out, hb, Bool.true_or]
        go_wp2_with fail
        go_ret
        exact ⟨⟨k, rfl, by rw [H2.out]; simp⟩, hX.trans hE1⟩
    · obtain rfl : k = l.length := by omega
      have H2 := Lib.hid (HE.out.trans (show ((l.drop l.length).any P) = false by rw [List.drop_length]; rfl))
      go_wp2_with fail
      go_ret
      exact ⟨⟨(-1 : Int), rfl, by rw [H2.out]; exact ⟨fun h => absurd h (by decide), fun h => by cases h⟩⟩, hX⟩
theorem hasPl_any (l : List PlD) (v : Value) (w : World) (h : RdPlS w l v) :
    Calls Tryz.prog 38 #[v, .func (.func 37) #[] #[]] w (RetV (l.any fun x => !placeOk x) w) := by
  have hi := idxPl_any l v w h
  obtain ⟨a, cap, rfl, _⟩ := h.form
  have HI := Lib.hid hi
  clear hi h
  generalize (l.any fun x => !placeOk x) = b at *
  go_enter Tryz.func38, Tryz.ntmps38
  go_wp2_with fail
  refine HI.out.mono ?_
  rintro e w1 ⟨⟨n, rfl, hn⟩, hE⟩
  have HN := Lib.hid hn
  clear hn
  go_wp2_with fail
  go_ret
  exact retV (Bool.eq_iff_iff.2 (decide_eq_true_iff.trans HN.out)) hE
theorem push_no {ps : List PlD} {x : IsD} (h1 : x.op ≠ 1) (h2 : x.op ≠ 2) (h3 : x.op ≠ 3) : pushP ps x = 0 := by unfold pushP; rw [if_neg h1, if_neg h2, if_neg h3]
set_option maxRecDepth 100000 in
set_option maxHeartbeats 2000000 in
theorem leaf_any (ps : List PlD) (pv : Value) (x : IsD) (w : World) (h : RdPlS w ps pv) : Calls Tryz.prog 40 #[pv, .agg #[.int .u8 x.op, .int .i64 x.n, .int .i64 x.ago]] w (fun e w' => e = .returned (.int .u8 (pushP ps x)) ∧ Ext w w') := by
  obtain ⟨op, n, ago⟩ := x
  simp only
  obtain ⟨a, cap, rfl, _, _, hf⟩ := h.form
  have hn : ps.length ≤ 9000000000000000000 := by omega
  have K : Ext w (w.alloc (.cells #[.int .u8 op, .int .i64 n, .int .i64 ago] 53)) := (Chg.refl _ _).alloc _
  have H := Lib.hid (h.ext K)
  clear h hf
  by_cases o1 : op = 1
  · subst o1
    by_cases ha : ago = 0
    · subst ha
      go_enter Tryz.func40, Tryz.ntmps40
      go_wp2_with fail
      go_ret
      exact ⟨rfl, K⟩
    · have hq : pushP ps ⟨1, n, ago⟩ = 0 := by simp [pushP, ha]
      have HQ := Lib.hid hq
      have ba : (ago == 0) = false := by simpa using ha
      clear hq
      go_enter Tryz.func40, Tryz.ntmps40
      go_wp2_with fail
      go_quiet (fail)
      go_wp2_with fail
      go_ret
      exact ⟨by rw [HQ.out]; rfl, K.drewN _⟩
  have b1 : (op == 1) = false := by simpa using o1
  by_cases o2 : op = 2
  · subst o2
    by_cases ha : ago = 0
    · subst ha
      by_cases hz : n = 0 ∨ n = 1
      · have hq : pushP ps ⟨2, n, 0⟩ = 2 := by simp [pushP, hz]
        have HQ := Lib.hid hq
        clear hq
        rcases hz with rfl | rfl
        · go_enter Tryz.func40, Tryz.ntmps40
          go_wp2_with fail
          go_ret
          exact ⟨by rw [HQ.out]; rfl, K⟩
        · go_enter Tryz.func40, Tryz.ntmps40
          go_wp2_with fail
          go_ret
          exact ⟨by rw [HQ.out]; rfl, K⟩
      · have hq : pushP ps ⟨2, n, 0⟩ = 0 := by simp [pushP, hz]
        have HQ := Lib.hid hq
        have bz : (n / 2 == 0) = false := by
          rw [beq_eq_false_iff_ne]
          omega
        clear hq
        go_enter Tryz.func40, Tryz.ntmps40
        go_wp2_with fail
        go_quiet (fail)
        go_wp2_with fail
        go_ret
        exact ⟨by rw [HQ.out]; rfl, K.drewN _⟩
    · have hq : pushP ps ⟨2, n, ago⟩ = 0 := by simp [pushP, ha]
      have HQ := Lib.hid hq
      have ba : (ago == 0) = false := by simpa using ha
      clear hq
      go_enter Tryz.func40, Tryz.ntmps40
      go_wp2_with fail
      go_quiet (fail)
      go_wp2_with fail
      go_ret
      exact ⟨by rw [HQ.out]; rfl, K.drewN _⟩
  have b2 : (op == 2) = false := by simpa using o2
  by_cases o3 : op = 3
  case neg =>
    have b3 : (op == 3) = false := by simpa using o3
    have HQ := Lib.hid (push_no (ps := ps) (x := ⟨op, n, ago⟩) o1 o2 o3)
    go_enter Tryz.func40, Tryz.ntmps40
    go_wp2_with fail
    go_quiet (fail)
    go_wp2_with fail
    go_ret
    exact ⟨by rw [HQ.out]; rfl, K.drewN _⟩
  subst o3
  have hP : pushP ps ⟨3, n, ago⟩ = if 0 ≤ n ∧ 0 ≤ ago then (match ps[n.toNat]? with | some q => if ago ≤ q.keep then q.ty else 0 | none => 0) else 0 := rfl
  have HP := Lib.hid hP
  clear hP
  by_cases n0 : 0 ≤ n
  case neg =>
    have HQ := Lib.hid (HP.out.trans (if_neg (fun h => n0 h.1)))
    clear HP
    have bn0 : decide (0 ≤ n) = false := decide_eq_false n0
    go_enter Tryz.func40, Tryz.ntmps40
    go_wp2_with fail
    go_quiet (fail)
    go_wp2_with fail
    go_ret
    exact ⟨by rw [HQ.out]; rfl, K.drewN _⟩
  obtain ⟨m, rfl⟩ : ∃ m : Nat, n = (m : Int) := ⟨n.toNat, by omega⟩
  by_cases a0 : 0 ≤ ago
  case neg =>
    have HQ := Lib.hid (HP.out.trans (if_neg (fun h => a0 h.2)))
    clear HP
    have ba0 : decide (0 ≤ ago) = false := decide_eq_false a0
    by_cases hlt : m < ps.length
    · have hlt2 : (m : Int) < (ps.length : Int) := by omega
      go_enter Tryz.func40, Tryz.ntmps40
      go_wp2_with fail
      go_quiet (fail)
      go_wp2_with fail
      go_ret
      exact ⟨by rw [HQ.out]; rfl, K.drewN _⟩
    · have blt : decide (m < ps.length) = false := decide_eq_false hlt
      have blt2 : decide ((m : Int) < (ps.length : Int)) = false := decide_eq_false (by omega)
      go_enter Tryz.func40, Tryz.ntmps40
      go_wp2_with fail
      go_quiet (fail)
      go_wp2_with fail
      go_ret
      exact ⟨by rw [HQ.out]; rfl, K.drewN _⟩
  have HP2 := Lib.hid (HP.out.trans (if_pos ⟨n0, a0⟩))
  rw [Int.toNat_natCast] at HP2
  clear HP
  by_cases hlt : m < ps.length
  case neg =>
    have blt : decide (m < ps.length) = false := decide_eq_false hlt
    have blt2 : decide ((m : Int) < (ps.length : Int)) = false := decide_eq_false (by omega)
    have HQ : Hid (pushP ps ⟨3, (m : Int), ago⟩ = 0) := by
      show _ = _
      rw [HP2.out, List.getElem?_eq_none (by omega)]
    clear HP2
    go_enter Tryz.func40, Tryz.ntmps40
    go_wp2_with fail
    go_quiet (fail)
    go_wp2_with fail
    go_ret
    exact ⟨by rw [HQ.out]; rfl, K.drewN _⟩
  have hx := List.getElem?_eq_getElem hlt
  have hltI : (m : Int) < (ps.length : Int) := by omega
  obtain ⟨b, o, rfl, hb, _, c1, c2, _⟩ := H.out.get hx
  rw [hx] at HP2
  generalize ps[m] = q at *
  clear hx
  by_cases hk : ago ≤ q.keep
  · have HQ : Hid (pushP ps ⟨3, (m : Int), ago⟩ = q.ty) := by
      show _ = _
      rw [HP2.out]
      exact if_pos hk
    clear HP2
    go_enter Tryz.func40, Tryz.ntmps40
    go_wp2_with fail
    go_quiet (fail)
    go_wp2_with fail
    go_ret
    exact ⟨by rw [HQ.out]; rfl, K.drewN _⟩
  · have HQ : Hid (pushP ps ⟨3, (m : Int), ago⟩ = 0) := by
      show _ = _
      rw [HP2.out]
      exact if_neg hk
    clear HP2
    go_enter Tryz.func40, Tryz.ntmps40
    go_wp2_with fail
    go_quiet (fail)
    go_wp2_with fail
    go_ret
    exact ⟨by rw [HQ.out]; rfl, K.drewN _⟩
end Go.Proofs.YtgkbhonjodcakaaGreat
