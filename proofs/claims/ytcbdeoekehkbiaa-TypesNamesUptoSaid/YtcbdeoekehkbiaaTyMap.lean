/- The rules of types, as a map in memory. -/
import Derived.Test.YtcbdeoekehkbiaaTyRules
import Derived.RangeFuncNested
namespace Go.Proofs.Ytcbdeoekehkbiaa
open Go.RowKit
set_option linter.unusedVariables false
set_option linter.unusedSimpArgs false

theorem each_one (a b : Int) (w : World) (b0 b1 : Nat) (h0 : w.heap.size = b0) (h1 : w.heap.size + 1 = b1) : Calls Try.prog 70 #[.int .u8 a, .int .u8 b] w fun e w' => e = .returned (.func (.func 86) #[] #[.pointer (some ⟨b0, 0, none⟩), .pointer (some ⟨b1, 0, none⟩)]) ∧ w' = (w.alloc (.cells #[.int .u8 a] 48)).alloc (.cells #[.int .u8 b] 48) := by
  subst h0 h1
  go_enter Try.func70, Try.ntmps70
  go_wp2_with fail
  go_ret
  exact ⟨rfl, rfl⟩
/-- The entries. -/
def tEs (B : Nat) : Array MapEntry := (((((((((((((((((#[] : Array MapEntry).push ⟨.int .u8 4, .func (.func 86) #[] #[.pointer (some ⟨B, 0, none⟩), .pointer (some ⟨B + 1, 0, none⟩)], 0⟩).push ⟨.int .u8 6, .func (.func 86) #[] #[.pointer (some ⟨B, 0, none⟩), .pointer (some ⟨B + 1, 0, none⟩)], 1⟩).push ⟨.int .u8 7, .func (.func 86) #[] #[.pointer (some ⟨B, 0, none⟩), .pointer (some ⟨B + 1, 0, none⟩)], 2⟩).push ⟨.int .u8 8, .func (.func 86) #[] #[.pointer (some ⟨B, 0, none⟩), .pointer (some ⟨B + 1, 0, none⟩)], 3⟩).push ⟨.int .u8 9, .func (.func 86) #[] #[.pointer (some ⟨B, 0, none⟩), .pointer (some ⟨B + 1, 0, none⟩)], 4⟩).push ⟨.int .u8 10, .func (.func 86) #[] #[.pointer (some ⟨B, 0, none⟩), .pointer (some ⟨B + 1, 0, none⟩)], 5⟩).push ⟨.int .u8 5, .func (.func 86) #[] #[.pointer (some ⟨B + 2, 0, none⟩), .pointer (some ⟨B + 3, 0, none⟩)], 6⟩).push ⟨.int .u8 15, .func (.func 86) #[] #[.pointer (some ⟨B + 2, 0, none⟩), .pointer (some ⟨B + 3, 0, none⟩)], 7⟩).push ⟨.int .u8 16, .func (.func 86) #[] #[.pointer (some ⟨B + 2, 0, none⟩), .pointer (some ⟨B + 3, 0, none⟩)], 8⟩).push ⟨.int .u8 13, .func (.func 86) #[] #[.pointer (some ⟨B + 4, 0, none⟩), .pointer (some ⟨B + 5, 0, none⟩)], 9⟩).push ⟨.int .u8 14, .func (.func 86) #[] #[.pointer (some ⟨B + 4, 0, none⟩), .pointer (some ⟨B + 5, 0, none⟩)], 10⟩).push ⟨.int .u8 11, .func (.func 73) #[] #[], 11⟩).push ⟨.int .u8 12, .func (.func 73) #[] #[], 12⟩).push ⟨.int .u8 18, .func (.func 71) #[] #[], 13⟩).push ⟨.int .u8 19, .func (.func 71) #[] #[], 14⟩).push ⟨.int .u8 17, .func (.func 74) #[] #[.pointer (some ⟨B + 6, 0, none⟩)], 15⟩)
def TyBoxes (w : World) (B : Nat) : Prop := Boxed w B 48 (.int .u8 1) ∧ Boxed w (B + 1) 48 (.int .u8 1) ∧ Boxed w (B + 2) 48 (.int .u8 2) ∧ Boxed w (B + 3) 48 (.int .u8 2) ∧ Boxed w (B + 4) 48 (.int .u8 1) ∧ Boxed w (B + 5) 48 (.int .u8 2) ∧
  Boxed w (B + 6) 113 (.func (.func 71) #[] #[])
def RulesT (w : World) (M B : Nat) : Prop := w.heap[M]? = some (.map (tEs B) 16) ∧ TyBoxes w B
theorem box_ext {w w' : World} {B : Nat} {t : TypeId} {v : Value} (h : Boxed w B t v) (hc : Ext w w') : Boxed w' B t v := Ext.heap hc h
theorem TyBoxes.ext {w w' : World} {B : Nat} (h : TyBoxes w B) (he : Ext w w') : TyBoxes w' B :=
  ⟨box_ext h.1 he, box_ext h.2.1 he, box_ext h.2.2.1 he, box_ext h.2.2.2.1 he, box_ext h.2.2.2.2.1 he, box_ext h.2.2.2.2.2.1 he, box_ext h.2.2.2.2.2.2 he⟩
theorem RulesT.ext {w w' : World} {M B : Nat} (h : RulesT w M B) (he : Ext w w') : RulesT w' M B := ⟨Ext.heap he h.1, h.2.ext he⟩
theorem look_at1 {P : Program} {mty kt et : TypeId} {r clock : Nat} {es : Array MapEntry} {q : IntKind} {n : Int} {w : World} (hm : P.underlying mty = some (.map kt et)) (hk : P.underlying kt = some (.int q)) (hb : w.heap[r]? = some (.map es clock))
    {i : Nat} {v : Value} (hf : Instr.findNow (.int q) (.int q n) es.toList 0 = some (some (i, v))) : (Instr.lookup mty (.map (some r)) (.int q n) false).run P w = .ok v w := by
  have hc : (Instr.checkKey es.isEmpty 10000 kt (.int q n)).run P w = .ok () w := MapKept.run_checkKey (k := .int q n) hk (by simp [MapKept.IsKey]) _ 9999
  simp [Instr.lookup, run_underlying hm, MapKept.run_getObj_map hb, hc, MapKept.run_findKey hk hf, Result.andThen]
theorem tlook_n {w : World} {M B : Nat} (h : RulesT w M B) {op : Int} (ho : op = 4 ∨ op = 6 ∨ op = 7 ∨ op = 8 ∨ op = 9 ∨ op = 10) : (Instr.lookup 91 (.map (some M)) (.int .u8 op) false).run Try.prog w = .ok (.func (.func 86) #[] #[.pointer (some ⟨B, 0, none⟩), .pointer (some ⟨B + 1, 0, none⟩)]) w := by
  rcases ho with rfl | rfl | rfl | rfl | rfl | rfl
  · exact look_at1 Try.underlying91 Try.underlying22 h.1 (i := 0) (by simp [tEs, Instr.findNow, Instr.sameNow])
  · exact look_at1 Try.underlying91 Try.underlying22 h.1 (i := 1) (by simp [tEs, Instr.findNow, Instr.sameNow])
  · exact look_at1 Try.underlying91 Try.underlying22 h.1 (i := 2) (by simp [tEs, Instr.findNow, Instr.sameNow])
  · exact look_at1 Try.underlying91 Try.underlying22 h.1 (i := 3) (by simp [tEs, Instr.findNow, Instr.sameNow])
  · exact look_at1 Try.underlying91 Try.underlying22 h.1 (i := 4) (by simp [tEs, Instr.findNow, Instr.sameNow])
  · exact look_at1 Try.underlying91 Try.underlying22 h.1 (i := 5) (by simp [tEs, Instr.findNow, Instr.sameNow])
theorem tlook_y {w : World} {M B : Nat} (h : RulesT w M B) {op : Int} (ho : op = 5 ∨ op = 15 ∨ op = 16) : (Instr.lookup 91 (.map (some M)) (.int .u8 op) false).run Try.prog w = .ok (.func (.func 86) #[] #[.pointer (some ⟨B + 2, 0, none⟩), .pointer (some ⟨B + 3, 0, none⟩)]) w := by
  rcases ho with rfl | rfl | rfl
  · exact look_at1 Try.underlying91 Try.underlying22 h.1 (i := 6) (by simp [tEs, Instr.findNow, Instr.sameNow])
  · exact look_at1 Try.underlying91 Try.underlying22 h.1 (i := 7) (by simp [tEs, Instr.findNow, Instr.sameNow])
  · exact look_at1 Try.underlying91 Try.underlying22 h.1 (i := 8) (by simp [tEs, Instr.findNow, Instr.sameNow])
theorem tlook_l {w : World} {M B : Nat} (h : RulesT w M B) {op : Int} (ho : op = 13 ∨ op = 14) : (Instr.lookup 91 (.map (some M)) (.int .u8 op) false).run Try.prog w = .ok (.func (.func 86) #[] #[.pointer (some ⟨B + 4, 0, none⟩), .pointer (some ⟨B + 5, 0, none⟩)]) w := by
  rcases ho with rfl | rfl
  · exact look_at1 Try.underlying91 Try.underlying22 h.1 (i := 9) (by simp [tEs, Instr.findNow, Instr.sameNow])
  · exact look_at1 Try.underlying91 Try.underlying22 h.1 (i := 10) (by simp [tEs, Instr.findNow, Instr.sameNow])
theorem tlook_e {w : World} {M B : Nat} (h : RulesT w M B) {op : Int} (ho : op = 11 ∨ op = 12) : (Instr.lookup 91 (.map (some M)) (.int .u8 op) false).run Try.prog w = .ok (.func (.func 73) #[] #[]) w := by
  rcases ho with rfl | rfl
  · exact look_at1 Try.underlying91 Try.underlying22 h.1 (i := 11) (by simp [tEs, Instr.findNow, Instr.sameNow])
  · exact look_at1 Try.underlying91 Try.underlying22 h.1 (i := 12) (by simp [tEs, Instr.findNow, Instr.sameNow])
theorem tlook_s {w : World} {M B : Nat} (h : RulesT w M B) {op : Int} (ho : op = 18 ∨ op = 19) : (Instr.lookup 91 (.map (some M)) (.int .u8 op) false).run Try.prog w = .ok (.func (.func 71) #[] #[]) w := by
  rcases ho with rfl | rfl
  · exact look_at1 Try.underlying91 Try.underlying22 h.1 (i := 13) (by simp [tEs, Instr.findNow, Instr.sameNow])
  · exact look_at1 Try.underlying91 Try.underlying22 h.1 (i := 14) (by simp [tEs, Instr.findNow, Instr.sameNow])
theorem tlook_i {w : World} {M B : Nat} (h : RulesT w M B) {op : Int} (ho : op = 17) : (Instr.lookup 91 (.map (some M)) (.int .u8 op) false).run Try.prog w = .ok (.func (.func 74) #[] #[.pointer (some ⟨B + 6, 0, none⟩)]) w := by
  subst ho
  · exact look_at1 Try.underlying91 Try.underlying22 h.1 (i := 15) (by simp [tEs, Instr.findNow, Instr.sameNow])
set_option maxRecDepth 100000 in
set_option maxHeartbeats 4000000 in
theorem trules_one (w : World) : Calls Try.prog 50 #[] w fun e w' => e = .returned (.map (some (w.heap.size + 7))) ∧ RulesT w' (w.heap.size + 7) w.heap.size ∧ Ext w w' := by
  have hmm := @run_makeMap Try.prog
  generalize hB : w.heap.size = B
  obtain ⟨W6, hW6⟩ : ∃ W6, (((((w.alloc (.cells #[.int .u8 1] 48)).alloc (.cells #[.int .u8 1] 48)).alloc (.cells #[.int .u8 2] 48)).alloc (.cells #[.int .u8 2] 48)).alloc (.cells #[.int .u8 1] 48)).alloc (.cells #[.int .u8 2] 48) = W6 := ⟨_, rfl⟩
  obtain ⟨W, hW0⟩ : ∃ W, W6.alloc (.cells #[.func (.func 71) #[] #[]] 113) = W := ⟨_, rfl⟩
  have hW : ((((((w.alloc (.cells #[.int .u8 1] 48)).alloc (.cells #[.int .u8 1] 48)).alloc (.cells #[.int .u8 2] 48)).alloc (.cells #[.int .u8 2] 48)).alloc (.cells #[.int .u8 1] 48)).alloc (.cells #[.int .u8 2] 48)).alloc (.cells #[.func (.func 71) #[] #[]] 113) = W := by rw [hW6, hW0]
  have hs6 : W6.heap.size = B + 6 := by rw [← hW6, ← hB]; simp
  have hTB : TyBoxes W B := by
    rw [← hW, ← hB]
    refine ⟨?_, ?_, ?_, ?_, ?_, ?_, ?_⟩
    · have := Boxed.new (w) 48 (.int .u8 1)
      exact ((((((this.alloc _).alloc _).alloc _).alloc _).alloc _).alloc _)
    · have := Boxed.new ((w).alloc (.cells #[.int .u8 1] 48)) 48 (.int .u8 1)
      simp only [World.size_alloc] at this
      exact (((((this.alloc _).alloc _).alloc _).alloc _).alloc _)
    · have := Boxed.new (((w).alloc (.cells #[.int .u8 1] 48)).alloc (.cells #[.int .u8 1] 48)) 48 (.int .u8 2)
      simp only [World.size_alloc] at this
      exact ((((this.alloc _).alloc _).alloc _).alloc _)
    · have := Boxed.new ((((w).alloc (.cells #[.int .u8 1] 48)).alloc (.cells #[.int .u8 1] 48)).alloc (.cells #[.int .u8 2] 48)) 48 (.int .u8 2)
      simp only [World.size_alloc] at this
      exact (((this.alloc _).alloc _).alloc _)
    · have := Boxed.new (((((w).alloc (.cells #[.int .u8 1] 48)).alloc (.cells #[.int .u8 1] 48)).alloc (.cells #[.int .u8 2] 48)).alloc (.cells #[.int .u8 2] 48)) 48 (.int .u8 1)
      simp only [World.size_alloc] at this
      exact ((this.alloc _).alloc _)
    · have := Boxed.new ((((((w).alloc (.cells #[.int .u8 1] 48)).alloc (.cells #[.int .u8 1] 48)).alloc (.cells #[.int .u8 2] 48)).alloc (.cells #[.int .u8 2] 48)).alloc (.cells #[.int .u8 1] 48)) 48 (.int .u8 2)
      simp only [World.size_alloc] at this
      exact (this.alloc _)
    · have := Boxed.new (((((((w).alloc (.cells #[.int .u8 1] 48)).alloc (.cells #[.int .u8 1] 48)).alloc (.cells #[.int .u8 2] 48)).alloc (.cells #[.int .u8 2] 48)).alloc (.cells #[.int .u8 1] 48)).alloc (.cells #[.int .u8 2] 48)) 113 (.func (.func 71) #[] #[])
      simp only [World.size_alloc] at this
      exact this
  have hE : Ext w W := by rw [← hW]; exact (((((((Chg.refl _ _).alloc _).alloc _).alloc _).alloc _).alloc _).alloc _).alloc _
  have hs : W.heap.size = B + 6 + 1 := by rw [← hW, ← hB]; simp
  have hb0 : (W.alloc (.map #[] 0)).heap[B + 6 + 1]? = some (.map #[] 0) := by rw [← hs]; exact heap_alloc_new W _
  obtain ⟨w0, r0, b0, c0⟩ := upd_new (.func (.func 86) #[] #[.pointer (some ⟨B, 0, none⟩), .pointer (some ⟨B + 1, 0, none⟩)]) (n := 4) Try.underlying91 Try.underlying22 hb0 (by simp [Instr.findNow, Instr.sameNow])
  obtain ⟨w1, r1, b1, c1⟩ := upd_new (.func (.func 86) #[] #[.pointer (some ⟨B, 0, none⟩), .pointer (some ⟨B + 1, 0, none⟩)]) (n := 6) Try.underlying91 Try.underlying22 b0 (by simp [Instr.findNow, Instr.sameNow])
  obtain ⟨w2, r2, b2, c2⟩ := upd_new (.func (.func 86) #[] #[.pointer (some ⟨B, 0, none⟩), .pointer (some ⟨B + 1, 0, none⟩)]) (n := 7) Try.underlying91 Try.underlying22 b1 (by simp [Instr.findNow, Instr.sameNow])
  obtain ⟨w3, r3, b3, c3⟩ := upd_new (.func (.func 86) #[] #[.pointer (some ⟨B, 0, none⟩), .pointer (some ⟨B + 1, 0, none⟩)]) (n := 8) Try.underlying91 Try.underlying22 b2 (by simp [Instr.findNow, Instr.sameNow])
  obtain ⟨w4, r4, b4, c4⟩ := upd_new (.func (.func 86) #[] #[.pointer (some ⟨B, 0, none⟩), .pointer (some ⟨B + 1, 0, none⟩)]) (n := 9) Try.underlying91 Try.underlying22 b3 (by simp [Instr.findNow, Instr.sameNow])
  obtain ⟨w5, r5, b5, c5⟩ := upd_new (.func (.func 86) #[] #[.pointer (some ⟨B, 0, none⟩), .pointer (some ⟨B + 1, 0, none⟩)]) (n := 10) Try.underlying91 Try.underlying22 b4 (by simp [Instr.findNow, Instr.sameNow])
  obtain ⟨w6, r6, b6, c6⟩ := upd_new (.func (.func 86) #[] #[.pointer (some ⟨B + 2, 0, none⟩), .pointer (some ⟨B + 3, 0, none⟩)]) (n := 5) Try.underlying91 Try.underlying22 b5 (by simp [Instr.findNow, Instr.sameNow])
  obtain ⟨w7, r7, b7, c7⟩ := upd_new (.func (.func 86) #[] #[.pointer (some ⟨B + 2, 0, none⟩), .pointer (some ⟨B + 3, 0, none⟩)]) (n := 15) Try.underlying91 Try.underlying22 b6 (by simp [Instr.findNow, Instr.sameNow])
  obtain ⟨w8, r8, b8, c8⟩ := upd_new (.func (.func 86) #[] #[.pointer (some ⟨B + 2, 0, none⟩), .pointer (some ⟨B + 3, 0, none⟩)]) (n := 16) Try.underlying91 Try.underlying22 b7 (by simp [Instr.findNow, Instr.sameNow])
  obtain ⟨w9, r9, b9, c9⟩ := upd_new (.func (.func 86) #[] #[.pointer (some ⟨B + 4, 0, none⟩), .pointer (some ⟨B + 5, 0, none⟩)]) (n := 13) Try.underlying91 Try.underlying22 b8 (by simp [Instr.findNow, Instr.sameNow])
  obtain ⟨w10, r10, b10, c10⟩ := upd_new (.func (.func 86) #[] #[.pointer (some ⟨B + 4, 0, none⟩), .pointer (some ⟨B + 5, 0, none⟩)]) (n := 14) Try.underlying91 Try.underlying22 b9 (by simp [Instr.findNow, Instr.sameNow])
  obtain ⟨w11, r11, b11, c11⟩ := upd_new (.func (.func 73) #[] #[]) (n := 11) Try.underlying91 Try.underlying22 b10 (by simp [Instr.findNow, Instr.sameNow])
  obtain ⟨w12, r12, b12, c12⟩ := upd_new (.func (.func 73) #[] #[]) (n := 12) Try.underlying91 Try.underlying22 b11 (by simp [Instr.findNow, Instr.sameNow])
  obtain ⟨w13, r13, b13, c13⟩ := upd_new (.func (.func 71) #[] #[]) (n := 18) Try.underlying91 Try.underlying22 b12 (by simp [Instr.findNow, Instr.sameNow])
  obtain ⟨w14, r14, b14, c14⟩ := upd_new (.func (.func 71) #[] #[]) (n := 19) Try.underlying91 Try.underlying22 b13 (by simp [Instr.findNow, Instr.sameNow])
  obtain ⟨w15, r15, b15, c15⟩ := upd_new (.func (.func 74) #[] #[.pointer (some ⟨B + 6, 0, none⟩)]) (n := 17) Try.underlying91 Try.underlying22 b14 (by simp [Instr.findNow, Instr.sameNow])
  have hC : Chg (fun k => k = B + 6 + 1) (W.alloc (.map #[] 0)) w15 := (((((((((((((((c0).trans c1).trans c2).trans c3).trans c4).trans c5).trans c6).trans c7).trans c8).trans c9).trans c10).trans c11).trans c12).trans c13).trans c14).trans c15
  have hE2 : Ext W w15 := Ext.then ((Chg.refl _ _).alloc _) hC (fun b hb => by omega)
  have hR : RulesT w15 (B + 7) B := ⟨b15, hTB.ext hE2⟩
  have hEE := hE.trans hE2
  have h12 : Ext W w12 := Ext.then ((Chg.refl _ _).alloc _) (show Chg (fun k => k = B + 6 + 1) (W.alloc (.map #[] 0)) w12 from ((((((((((((c0).trans c1).trans c2).trans c3).trans c4).trans c5).trans c6).trans c7).trans c8).trans c9).trans c10).trans c11).trans c12) (fun b hb => by omega)
  have h13 : Ext W w13 := Ext.then ((Chg.refl _ _).alloc _) (show Chg (fun k => k = B + 6 + 1) (W.alloc (.map #[] 0)) w13 from (((((((((((((c0).trans c1).trans c2).trans c3).trans c4).trans c5).trans c6).trans c7).trans c8).trans c9).trans c10).trans c11).trans c12).trans c13) (fun b hb => by omega)
  have s12 := (hTB.ext h12).2.2.2.2.2.2.cell
  have s13 := (hTB.ext h13).2.2.2.2.2.2.cell
  clear b0 c0 b1 c1 b2 c2 b3 c3 b4 c4 b5 c5 b6 c6 b7 c7 b8 c8 b9 c9 b10 c10 b11 c11 b12 c12 b13 c13 b14 c14 b15 c15 hC hE hE2 hTB hb0 hs hW h12 h13
  go_enter Try.func50, Try.ntmps50
  go_wp2_with fail
  refine (each_one 1 1 w B (B + 1) hB (by rw [hB])).mono ?_
  rintro e w' ⟨rfl, rfl⟩
  go_wp2_with fail
  refine (each_one 2 2 _ (B + 2) (B + 3) (by simp; omega) (by simp; omega)).mono ?_
  rintro e w' ⟨rfl, rfl⟩
  go_wp2_with fail
  refine (each_one 1 2 _ (B + 4) (B + 5) (by simp; omega) (by simp; omega)).mono ?_
  rintro e w' ⟨rfl, rfl⟩
  rw [hW6]
  clear hW6
  subst hW0
  go_wp2_with fail
  go_ret
  exact ⟨rfl, hR, hEE⟩
end Go.Proofs.Ytcbdeoekehkbiaa
