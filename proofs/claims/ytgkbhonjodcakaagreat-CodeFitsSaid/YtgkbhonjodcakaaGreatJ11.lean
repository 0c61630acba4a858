/- What stands in this text: OfW, StOf, TyMap, TyOf, TyOfW. -/
import Derived.Test.YtgkbhonjodcakaaGreatJ1
import Derived.Test.YtgkbhonjodcakaaGreatJ2
import Derived.Test.YtgkbhonjodcakaaGreatJ3
import Derived.Test.YtgkbhonjodcakaaGreatJ5
import Derived.Test.YtgkbhonjodcakaaGreatJ7
import Derived.Deep.RegionHeld3
import Derived.RangeFuncNested
namespace Go.Proofs.YtgkbhonjodcakaaGreat
open Go.RowKit
set_option linter.unusedVariables false

theorem wfL_get {d : Nat} {l : List Ex} (h : wfL d l = true) : ∀ {i : Nat} {x : Ex}, l[i]? = some x → wfE d x = true := by
  induction l with
  | nil => intro i x hx; simp at hx
  | cons y r ih =>
    simp only [wfL, Bool.and_eq_true] at h
    intro i x hx
    cases i with
    | zero => simp only [List.getElem?_cons_zero, Option.some.injEq] at hx; subst hx; exact h.1
    | succ i => simp only [List.getElem?_cons_succ] at hx; exact ih h.2 hx
theorem nodesL_get {l : List Ex} {i : Nat} {x : Ex} (h : l[i]? = some x) : nodesE x ≤ nodesL l := by
  induction l generalizing i with
  | nil => simp at h
  | cons y r ih =>
    simp only [nodesL]
    cases i with
    | zero => simp only [List.getElem?_cons_zero, Option.some.injEq] at h; subst h; omega
    | succ i => simp only [List.getElem?_cons_succ] at h; have := ih h; omega
theorem wf_open {d : Nat} {op n : Int} {nm : ByteArray} {l : List Ex} (h : wfE d (.mk op n nm l) = true) : partsP op = (l.length : Int) ∧ ∃ d', wfL d' l = true := by
  cases d with
  | zero => simp [wfE] at h
  | succ d =>
    simp only [wfE, Bool.and_eq_true, decide_eq_true_eq] at h
    exact ⟨h.1.1, d, h.2⟩
theorem nodesE_pos' (x : Ex) : 1 ≤ nodesE x := by cases x; simp only [nodesE]; omega
theorem nodesL_len : ∀ l : List Ex, l.length ≤ nodesL l
  | [] => Nat.zero_le _
  | x :: r => by
    simp only [nodesL, List.length_cons]
    have := nodesL_len r
    have := nodesE_pos' x
    omega
end Go.Proofs.YtgkbhonjodcakaaGreat
namespace Go.Proofs.YtgkbhonjodcakaaGreat
open Go.RowKit
set_option linter.unusedVariables false

/-- Is all that is asked for there? -/
def thereP (p : PrD) (l : List Rf) : Bool := l.all fun r => (findP r.1 p.flows p.ins).2.2.2
theorem there_drop {p : PrD} {l : List Rf} {k : Nat} {r : Rf} (h : l[k]? = some r) : thereP p (l.drop k) = ((findP r.1 p.flows p.ins).2.2.2 && thereP p (l.drop (k + 1))) := by
  obtain ⟨hk, rfl⟩ := List.getElem?_eq_some_iff.1 h
  rw [List.drop_eq_getElem_cons hk]
  rfl
theorem results_two {fn : Func} {t u : Tmp} (h : fn.results = #[.tmp t, .tmp u]) (tmps : Array Value) (P : Program) (w : World) :
    (results fn tmps).run P w = .ok (.tuple #[tmps.getD t undef, tmps.getD u undef]) w := by
  simp [results, h]
theorem ok_wf {x : Ex} (h : okE 32 200 x = true) : wfE 32 x = true ∧ nodesE x ≤ 200 := by
  obtain ⟨h1, h2⟩ := okE_iff.1 h
  exact ⟨h1, by omega⟩
end Go.Proofs.YtgkbhonjodcakaaGreat
namespace Go.Proofs.YtgkbhonjodcakaaGreat
open Go.RowKit
set_option linter.unusedVariables false
set_option linter.unusedSimpArgs false

theorem each_one (a b : Int) (w : World) (b0 b1 : Nat) (h0 : w.heap.size = b0) (h1 : w.heap.size + 1 = b1) : Calls Tryz.prog 108 #[.int .u8 a, .int .u8 b] w fun e w' => e = .returned (.func (.func 134) #[] #[.pointer (some ⟨b0, 0, none⟩), .pointer (some ⟨b1, 0, none⟩)]) ∧ w' = (w.alloc (.cells #[.int .u8 a] 37)).alloc (.cells #[.int .u8 b] 37) := by
  subst h0 h1
  go_enter Tryz.func108, Tryz.ntmps108
  go_wp2_with fail
  go_ret
  exact ⟨rfl, rfl⟩
/-- The entries. -/
def tEs (B : Nat) : Array MapEntry := (((((((((((((((((#[] : Array MapEntry).push ⟨.int .u8 4, .func (.func 134) #[] #[.pointer (some ⟨B, 0, none⟩), .pointer (some ⟨B + 1, 0, none⟩)], 0⟩).push ⟨.int .u8 6, .func (.func 134) #[] #[.pointer (some ⟨B, 0, none⟩), .pointer (some ⟨B + 1, 0, none⟩)], 1⟩).push ⟨.int .u8 7, .func (.func 134) #[] #[.pointer (some ⟨B, 0, none⟩), .pointer (some ⟨B + 1, 0, none⟩)], 2⟩).push ⟨.int .u8 8, .func (.func 134) #[] #[.pointer (some ⟨B, 0, none⟩), .pointer (some ⟨B + 1, 0, none⟩)], 3⟩).push ⟨.int .u8 9, .func (.func 134) #[] #[.pointer (some ⟨B, 0, none⟩), .pointer (some ⟨B + 1, 0, none⟩)], 4⟩).push ⟨.int .u8 10, .func (.func 134) #[] #[.pointer (some ⟨B, 0, none⟩), .pointer (some ⟨B + 1, 0, none⟩)], 5⟩).push ⟨.int .u8 5, .func (.func 134) #[] #[.pointer (some ⟨B + 2, 0, none⟩), .pointer (some ⟨B + 3, 0, none⟩)], 6⟩).push ⟨.int .u8 15, .func (.func 134) #[] #[.pointer (some ⟨B + 2, 0, none⟩), .pointer (some ⟨B + 3, 0, none⟩)], 7⟩).push ⟨.int .u8 16, .func (.func 134) #[] #[.pointer (some ⟨B + 2, 0, none⟩), .pointer (some ⟨B + 3, 0, none⟩)], 8⟩).push ⟨.int .u8 13, .func (.func 134) #[] #[.pointer (some ⟨B + 4, 0, none⟩), .pointer (some ⟨B + 5, 0, none⟩)], 9⟩).push ⟨.int .u8 14, .func (.func 134) #[] #[.pointer (some ⟨B + 4, 0, none⟩), .pointer (some ⟨B + 5, 0, none⟩)], 10⟩).push ⟨.int .u8 11, .func (.func 111) #[] #[], 11⟩).push ⟨.int .u8 12, .func (.func 111) #[] #[], 12⟩).push ⟨.int .u8 18, .func (.func 109) #[] #[], 13⟩).push ⟨.int .u8 19, .func (.func 109) #[] #[], 14⟩).push ⟨.int .u8 17, .func (.func 112) #[] #[.pointer (some ⟨B + 6, 0, none⟩)], 15⟩)
def TyBoxes (w : World) (B : Nat) : Prop := Boxed w B 37 (.int .u8 1) ∧ Boxed w (B + 1) 37 (.int .u8 1) ∧ Boxed w (B + 2) 37 (.int .u8 2) ∧ Boxed w (B + 3) 37 (.int .u8 2) ∧ Boxed w (B + 4) 37 (.int .u8 1) ∧ Boxed w (B + 5) 37 (.int .u8 2) ∧
  Boxed w (B + 6) 109 (.func (.func 109) #[] #[])
def RulesT (w : World) (M B : Nat) : Prop := w.heap[M]? = some (.map (tEs B) 16) ∧ TyBoxes w B
theorem box_ext {w w' : World} {B : Nat} {t : TypeId} {v : Value} (h : Boxed w B t v) (hc : Ext w w') : Boxed w' B t v := Ext.heap hc h
theorem TyBoxes.ext {w w' : World} {B : Nat} (h : TyBoxes w B) (he : Ext w w') : TyBoxes w' B :=
  ⟨box_ext h.1 he, box_ext h.2.1 he, box_ext h.2.2.1 he, box_ext h.2.2.2.1 he, box_ext h.2.2.2.2.1 he, box_ext h.2.2.2.2.2.1 he, box_ext h.2.2.2.2.2.2 he⟩
theorem RulesT.ext {w w' : World} {M B : Nat} (h : RulesT w M B) (he : Ext w w') : RulesT w' M B := ⟨Ext.heap he h.1, h.2.ext he⟩
theorem look_at1 {P : Program} {mty kt et : TypeId} {r clock : Nat} {es : Array MapEntry} {q : IntKind} {n : Int} {w : World} (hm : P.underlying mty = some (.map kt et)) (hk : P.underlying kt = some (.int q)) (hb : w.heap[r]? = some (.map es clock))
    {i : Nat} {v : Value} (hf : Instr.findNow (.int q) (.int q n) es.toList 0 = some (some (i, v))) : (Instr.lookup mty (.map (some r)) (.int q n) false).run P w = .ok v w := by
  have hc : (Instr.checkKey es.isEmpty 10000 kt (.int q n)).run P w = .ok () w := MapKept.run_checkKey (k := .int q n) hk (by simp [MapKept.IsKey]) _ 9999
  simp [Instr.lookup, run_underlying hm, MapKept.run_getObj_map hb, hc, MapKept.run_findKey hk hf, Result.andThen]
theorem tlook_n {w : World} {M B : Nat} (h : RulesT w M B) {op : Int} (ho : op = 4 ∨ op = 6 ∨ op = 7 ∨ op = 8 ∨ op = 9 ∨ op = 10) : (Instr.lookup 162 (.map (some M)) (.int .u8 op) false).run Tryz.prog w = .ok (.func (.func 134) #[] #[.pointer (some ⟨B, 0, none⟩), .pointer (some ⟨B + 1, 0, none⟩)]) w := by
  rcases ho with rfl | rfl | rfl | rfl | rfl | rfl
  · exact look_at1 Tryz.underlying162 Tryz.underlying38 h.1 (i := 0) (by simp [tEs, Instr.findNow, Instr.sameNow])
  · exact look_at1 Tryz.underlying162 Tryz.underlying38 h.1 (i := 1) (by simp [tEs, Instr.findNow, Instr.sameNow])
  · exact look_at1 Tryz.underlying162 Tryz.underlying38 h.1 (i := 2) (by simp [tEs, Instr.findNow, Instr.sameNow])
  · exact look_at1 Tryz.underlying162 Tryz.underlying38 h.1 (i := 3) (by simp [tEs, Instr.findNow, Instr.sameNow])
  · exact look_at1 Tryz.underlying162 Tryz.underlying38 h.1 (i := 4) (by simp [tEs, Instr.findNow, Instr.sameNow])
  · exact look_at1 Tryz.underlying162 Tryz.underlying38 h.1 (i := 5) (by simp [tEs, Instr.findNow, Instr.sameNow])
theorem tlook_y {w : World} {M B : Nat} (h : RulesT w M B) {op : Int} (ho : op = 5 ∨ op = 15 ∨ op = 16) : (Instr.lookup 162 (.map (some M)) (.int .u8 op) false).run Tryz.prog w = .ok (.func (.func 134) #[] #[.pointer (some ⟨B + 2, 0, none⟩), .pointer (some ⟨B + 3, 0, none⟩)]) w := by
  rcases ho with rfl | rfl | rfl
  · exact look_at1 Tryz.underlying162 Tryz.underlying38 h.1 (i := 6) (by simp [tEs, Instr.findNow, Instr.sameNow])
  · exact look_at1 Tryz.underlying162 Tryz.underlying38 h.1 (i := 7) (by simp [tEs, Instr.findNow, Instr.sameNow])
  · exact look_at1 Tryz.underlying162 Tryz.underlying38 h.1 (i := 8) (by simp [tEs, Instr.findNow, Instr.sameNow])
theorem tlook_l {w : World} {M B : Nat} (h : RulesT w M B) {op : Int} (ho : op = 13 ∨ op = 14) : (Instr.lookup 162 (.map (some M)) (.int .u8 op) false).run Tryz.prog w = .ok (.func (.func 134) #[] #[.pointer (some ⟨B + 4, 0, none⟩), .pointer (some ⟨B + 5, 0, none⟩)]) w := by
  rcases ho with rfl | rfl
  · exact look_at1 Tryz.underlying162 Tryz.underlying38 h.1 (i := 9) (by simp [tEs, Instr.findNow, Instr.sameNow])
  · exact look_at1 Tryz.underlying162 Tryz.underlying38 h.1 (i := 10) (by simp [tEs, Instr.findNow, Instr.sameNow])
theorem tlook_e {w : World} {M B : Nat} (h : RulesT w M B) {op : Int} (ho : op = 11 ∨ op = 12) : (Instr.lookup 162 (.map (some M)) (.int .u8 op) false).run Tryz.prog w = .ok (.func (.func 111) #[] #[]) w := by
  rcases ho with rfl | rfl
  · exact look_at1 Tryz.underlying162 Tryz.underlying38 h.1 (i := 11) (by simp [tEs, Instr.findNow, Instr.sameNow])
  · exact look_at1 Tryz.underlying162 Tryz.underlying38 h.1 (i := 12) (by simp [tEs, Instr.findNow, Instr.sameNow])
theorem tlook_s {w : World} {M B : Nat} (h : RulesT w M B) {op : Int} (ho : op = 18 ∨ op = 19) : (Instr.lookup 162 (.map (some M)) (.int .u8 op) false).run Tryz.prog w = .ok (.func (.func 109) #[] #[]) w := by
  rcases ho with rfl | rfl
  · exact look_at1 Tryz.underlying162 Tryz.underlying38 h.1 (i := 13) (by simp [tEs, Instr.findNow, Instr.sameNow])
  · exact look_at1 Tryz.underlying162 Tryz.underlying38 h.1 (i := 14) (by simp [tEs, Instr.findNow, Instr.sameNow])
theorem tlook_i {w : World} {M B : Nat} (h : RulesT w M B) {op : Int} (ho : op = 17) : (Instr.lookup 162 (.map (some M)) (.int .u8 op) false).run Tryz.prog w = .ok (.func (.func 112) #[] #[.pointer (some ⟨B + 6, 0, none⟩)]) w := by
  subst ho
  · exact look_at1 Tryz.underlying162 Tryz.underlying38 h.1 (i := 15) (by simp [tEs, Instr.findNow, Instr.sameNow])
set_option maxRecDepth 100000 in
set_option maxHeartbeats 4000000 in
theorem trules_one (w : World) : Calls Tryz.prog 70 #[] w fun e w' => e = .returned (.map (some (w.heap.size + 7))) ∧ RulesT w' (w.heap.size + 7) w.heap.size ∧ Ext w w' := by
  have hmm := @run_makeMap Tryz.prog
  generalize hB : w.heap.size = B
  obtain ⟨W6, hW6⟩ : ∃ W6, (((((w.alloc (.cells #[.int .u8 1] 37)).alloc (.cells #[.int .u8 1] 37)).alloc (.cells #[.int .u8 2] 37)).alloc (.cells #[.int .u8 2] 37)).alloc (.cells #[.int .u8 1] 37)).alloc (.cells #[.int .u8 2] 37) = W6 := ⟨_, rfl⟩
  obtain ⟨W, hW0⟩ : ∃ W, W6.alloc (.cells #[.func (.func 109) #[] #[]] 109) = W := ⟨_, rfl⟩
  have hW : ((((((w.alloc (.cells #[.int .u8 1] 37)).alloc (.cells #[.int .u8 1] 37)).alloc (.cells #[.int .u8 2] 37)).alloc (.cells #[.int .u8 2] 37)).alloc (.cells #[.int .u8 1] 37)).alloc (.cells #[.int .u8 2] 37)).alloc (.cells #[.func (.func 109) #[] #[]] 109) = W := by rw [hW6, hW0]
  have hs6 : W6.heap.size = B + 6 := by rw [← hW6, ← hB]; simp
  have hTB : TyBoxes W B := by
    rw [← hW, ← hB]
    refine ⟨?_, ?_, ?_, ?_, ?_, ?_, ?_⟩
    · have := Boxed.new (w) 37 (.int .u8 1)
      exact ((((((this.alloc _).alloc _).alloc _).alloc _).alloc _).alloc _)
    · have := Boxed.new ((w).alloc (.cells #[.int .u8 1] 37)) 37 (.int .u8 1)
      simp only [World.size_alloc] at this
      exact (((((this.alloc _).alloc _).alloc _).alloc _).alloc _)
    · have := Boxed.new (((w).alloc (.cells #[.int .u8 1] 37)).alloc (.cells #[.int .u8 1] 37)) 37 (.int .u8 2)
      simp only [World.size_alloc] at this
      exact ((((this.alloc _).alloc _).alloc _).alloc _)
    · have := Boxed.new ((((w).alloc (.cells #[.int .u8 1] 37)).alloc (.cells #[.int .u8 1] 37)).alloc (.cells #[.int .u8 2] 37)) 37 (.int .u8 2)
      simp only [World.size_alloc] at this
      exact (((this.alloc _).alloc _).alloc _)
    · have := Boxed.new (((((w).alloc (.cells #[.int .u8 1] 37)).alloc (.cells #[.int .u8 1] 37)).alloc (.cells #[.int .u8 2] 37)).alloc (.cells #[.int .u8 2] 37)) 37 (.int .u8 1)
      simp only [World.size_alloc] at this
      exact ((this.alloc _).alloc _)
    · have := Boxed.new ((((((w).alloc (.cells #[.int .u8 1] 37)).alloc (.cells #[.int .u8 1] 37)).alloc (.cells #[.int .u8 2] 37)).alloc (.cells #[.int .u8 2] 37)).alloc (.cells #[.int .u8 1] 37)) 37 (.int .u8 2)
      simp only [World.size_alloc] at this
      exact (this.alloc _)
    · have := Boxed.new (((((((w).alloc (.cells #[.int .u8 1] 37)).alloc (.cells #[.int .u8 1] 37)).alloc (.cells #[.int .u8 2] 37)).alloc (.cells #[.int .u8 2] 37)).alloc (.cells #[.int .u8 1] 37)).alloc (.cells #[.int .u8 2] 37)) 109 (.func (.func 109) #[] #[])
      simp only [World.size_alloc] at this
      exact this
  have hE : Ext w W := by rw [← hW]; exact (((((((Chg.refl _ _).alloc _).alloc _).alloc _).alloc _).alloc _).alloc _).alloc _
  have hs : W.heap.size = B + 6 + 1 := by rw [← hW, ← hB]; simp
  have hb0 : (W.alloc (.map #[] 0)).heap[B + 6 + 1]? = some (.map #[] 0) := by rw [← hs]; exact heap_alloc_new W _
  obtain ⟨w0, r0, b0, c0⟩ := upd_new (.func (.func 134) #[] #[.pointer (some ⟨B, 0, none⟩), .pointer (some ⟨B + 1, 0, none⟩)]) (n := 4) Tryz.underlying162 Tryz.underlying38 hb0 (by simp [Instr.findNow, Instr.sameNow])
  obtain ⟨w1, r1, b1, c1⟩ := upd_new (.func (.func 134) #[] #[.pointer (some ⟨B, 0, none⟩), .pointer (some ⟨B + 1, 0, none⟩)]) (n := 6) Tryz.underlying162 Tryz.underlying38 b0 (by simp [Instr.findNow, Instr.sameNow])
  obtain ⟨w2, r2, b2, c2⟩ := upd_new (.func (.func 134) #[] #[.pointer (some ⟨B, 0, none⟩), .pointer (some ⟨B + 1, 0, none⟩)]) (n := 7) Tryz.underlying162 Tryz.underlying38 b1 (by simp [Instr.findNow, Instr.sameNow])
  obtain ⟨w3, r3, b3, c3⟩ := upd_new (.func (.func 134) #[] #[.pointer (some ⟨B, 0, none⟩), .pointer (some ⟨B + 1, 0, none⟩)]) (n := 8) Tryz.underlying162 Tryz.underlying38 b2 (by simp [Instr.findNow, Instr.sameNow])
  obtain ⟨w4, r4, b4, c4⟩ := upd_new (.func (.func 134) #[] #[.pointer (some ⟨B, 0, none⟩), .pointer (some ⟨B + 1, 0, none⟩)]) (n := 9) Tryz.underlying162 Tryz.underlying38 b3 (by simp [Instr.findNow, Instr.sameNow])
  obtain ⟨w5, r5, b5, c5⟩ := upd_new (.func (.func 134) #[] #[.pointer (some ⟨B, 0, none⟩), .pointer (some ⟨B + 1, 0, none⟩)]) (n := 10) Tryz.underlying162 Tryz.underlying38 b4 (by simp [Instr.findNow, Instr.sameNow])
  obtain ⟨w6, r6, b6, c6⟩ := upd_new (.func (.func 134) #[] #[.pointer (some ⟨B + 2, 0, none⟩), .pointer (some ⟨B + 3, 0, none⟩)]) (n := 5) Tryz.underlying162 Tryz.underlying38 b5 (by simp [Instr.findNow, Instr.sameNow])
  obtain ⟨w7, r7, b7, c7⟩ := upd_new (.func (.func 134) #[] #[.pointer (some ⟨B + 2, 0, none⟩), .pointer (some ⟨B + 3, 0, none⟩)]) (n := 15) Tryz.underlying162 Tryz.underlying38 b6 (by simp [Instr.findNow, Instr.sameNow])
  obtain ⟨w8, r8, b8, c8⟩ := upd_new (.func (.func 134) #[] #[.pointer (some ⟨B + 2, 0, none⟩), .pointer (some ⟨B + 3, 0, none⟩)]) (n := 16) Tryz.underlying162 Tryz.underlying38 b7 (by simp [Instr.findNow, Instr.sameNow])
  obtain ⟨w9, r9, b9, c9⟩ := upd_new (.func (.func 134) #[] #[.pointer (some ⟨B + 4, 0, none⟩), .pointer (some ⟨B + 5, 0, none⟩)]) (n := 13) Tryz.underlying162 Tryz.underlying38 b8 (by simp [Instr.findNow, Instr.sameNow])
  obtain ⟨w10, r10, b10, c10⟩ := upd_new (.func (.func 134) #[] #[.pointer (some ⟨B + 4, 0, none⟩), .pointer (some ⟨B + 5, 0, none⟩)]) (n := 14) Tryz.underlying162 Tryz.underlying38 b9 (by simp [Instr.findNow, Instr.sameNow])
  obtain ⟨w11, r11, b11, c11⟩ := upd_new (.func (.func 111) #[] #[]) (n := 11) Tryz.underlying162 Tryz.underlying38 b10 (by simp [Instr.findNow, Instr.sameNow])
  obtain ⟨w12, r12, b12, c12⟩ := upd_new (.func (.func 111) #[] #[]) (n := 12) Tryz.underlying162 Tryz.underlying38 b11 (by simp [Instr.findNow, Instr.sameNow])
  obtain ⟨w13, r13, b13, c13⟩ := upd_new (.func (.func 109) #[] #[]) (n := 18) Tryz.underlying162 Tryz.underlying38 b12 (by simp [Instr.findNow, Instr.sameNow])
  obtain ⟨w14, r14, b14, c14⟩ := upd_new (.func (.func 109) #[] #[]) (n := 19) Tryz.underlying162 Tryz.underlying38 b13 (by simp [Instr.findNow, Instr.sameNow])
  obtain ⟨w15, r15, b15, c15⟩ := upd_new (.func (.func 112) #[] #[.pointer (some ⟨B + 6, 0, none⟩)]) (n := 17) Tryz.underlying162 Tryz.underlying38 b14 (by simp [Instr.findNow, Instr.sameNow])
  have hC : Chg (fun k => k = B + 6 + 1) (W.alloc (.map #[] 0)) w15 := (((((((((((((((c0).trans c1).trans c2).trans c3).trans c4).trans c5).trans c6).trans c7).trans c8).trans c9).trans c10).trans c11).trans c12).trans c13).trans c14).trans c15
  have hE2 : Ext W w15 := Ext.then ((Chg.refl _ _).alloc _) hC (fun b hb => by omega)
  have hR : RulesT w15 (B + 7) B := ⟨b15, hTB.ext hE2⟩
  have hEE := hE.trans hE2
  have h12 : Ext W w12 := Ext.then ((Chg.refl _ _).alloc _) (show Chg (fun k => k = B + 6 + 1) (W.alloc (.map #[] 0)) w12 from ((((((((((((c0).trans c1).trans c2).trans c3).trans c4).trans c5).trans c6).trans c7).trans c8).trans c9).trans c10).trans c11).trans c12) (fun b hb => by omega)
  have h13 : Ext W w13 := Ext.then ((Chg.refl _ _).alloc _) (show Chg (fun k => k = B + 6 + 1) (W.alloc (.map #[] 0)) w13 from (((((((((((((c0).trans c1).trans c2).trans c3).trans c4).trans c5).trans c6).trans c7).trans c8).trans c9).trans c10).trans c11).trans c12).trans c13) (fun b hb => by omega)
  have s12 := (hTB.ext h12).2.2.2.2.2.2.cell
  have s13 := (hTB.ext h13).2.2.2.2.2.2.cell
  clear b0 c0 b1 c1 b2 c2 b3 c3 b4 c4 b5 c5 b6 c6 b7 c7 b8 c8 b9 c9 b10 c10 b11 c11 b12 c12 b13 c13 b14 c14 b15 c15 hC hE hE2 hTB hb0 hs hW h12 h13
  go_enter Tryz.func70, Tryz.ntmps70
  go_wp2_with fail
  refine (each_one 1 1 w B (B + 1) hB (by rw [hB])).mono ?_
  rintro e w' ⟨rfl, rfl⟩
  go_wp2_with fail
  refine (each_one 2 2 _ (B + 2) (B + 3) (by simp; omega) (by simp; omega)).mono ?_
  rintro e w' ⟨rfl, rfl⟩
  go_wp2_with fail
  refine (each_one 1 2 _ (B + 4) (B + 5) (by simp; omega) (by simp; omega)).mono ?_
  rintro e w' ⟨rfl, rfl⟩
  rw [hW6]
  clear hW6
  subst hW0
  go_wp2_with fail
  go_ret
  exact ⟨rfl, hR, hEE⟩
end Go.Proofs.YtgkbhonjodcakaaGreat
namespace Go.Proofs.YtgkbhonjodcakaaGreat
open Go.RowKit
set_option linter.unusedVariables false
set_option linter.unusedSimpArgs false

def ruleT (op : Int) (l : List Int) : Int := if op = 4 ∨ op = 6 ∨ op = 7 ∨ op = 8 ∨ op = 9 ∨ op = 10 then eachT 1 1 l else if op = 5 ∨ op = 15 ∨ op = 16 then eachT 2 2 l else if op = 13 ∨ op = 14 then eachT 1 2 l else if op = 11 ∨ op = 12 then equalT l else if op = 18 ∨ op = 19 then sameT l else if op = 17 then ifT l else 0
def nameT (p : PrD) (nm : ByteArray) : Int := if 2 < (findP nm p.flows p.ins).2.1 then 0 else (findP nm p.flows p.ins).2.1
mutual
def tyE (p : PrD) : Ex → Int
  | .mk op _ nm args => if op = 1 then 1 else if op = 2 then 2 else if op = 3 then nameT p nm else ruleT op (tyL p args)
def tyL (p : PrD) : List Ex → List Int
  | [] => []
  | x :: r => tyE p x :: tyL p r
end
theorem tyL_len (p : PrD) : ∀ l : List Ex, (tyL p l).length = l.length
  | [] => rfl
  | x :: r => by simp only [tyL, List.length_cons, tyL_len p r]
theorem tyL_get (p : PrD) : ∀ (l : List Ex) (i : Nat), (tyL p l)[i]? = (l[i]?).map (tyE p)
  | [], i => by simp [tyL]
  | x :: r, 0 => by simp [tyL]
  | x :: r, i + 1 => by simp [tyL, tyL_get p r i]
/-- A list of types of one's own. -/
def TyV (w : World) (base : Nat) (l : List Int) (v : Value) : Prop := w.ownsRow base 37 1 v l.length (l.map (Value.int .u8))
theorem TyV.form {w : World} {base : Nat} {l : List Int} {v : Value} (h : TyV w base l v) : ∃ a cap, v = .slice a l.length cap := by
  rcases h.2 with ⟨h0, h1⟩ | ⟨g, cap, cur, h1, _⟩
  · exact ⟨none, 0, by rw [h0, h1]⟩
  · exact ⟨_, _, h1⟩
theorem TyV.rd {w : World} {base : Nat} {l : List Int} {v : Value} (h : TyV w base l v) (h0 : 1 ≤ l.length) : TyR w l v := by
  have h' := h
  rcases h.2 with ⟨h0, h1⟩ | ⟨g, c', cur, h1, h2, h3, h4, h5⟩
  · omega
  · subst h1
    refine ⟨g, 0, c', rfl, h4, fun i x hx => ?_⟩
    have hi : i < l.length := (List.getElem?_eq_some_iff.1 hx).1
    have c0 := World.ownsRow.cellAt h' i (by omega)
    rw [List.getElem?_map, hx] at c0
    rw [Nat.zero_add]
    exact c0
theorem TyV.chg {w w' : World} {base : Nat} {l : List Int} {v : Value} (h : TyV w base l v) {S : Nat → Prop} (hc : Chg S w w') (hS : ∀ g, v.ownBlock = some g → ¬ S g) : TyV w' base l v := by
  refine ⟨h.1, ?_⟩
  rcases h.2 with ⟨h0, h1⟩ | ⟨g, cap, cur, h1, h2, h3, h4⟩
  · exact .inl ⟨h0, h1⟩
  · exact .inr ⟨g, cap, cur, h1, h2, (hc.block g (lt_of_block h3) (hS g (by rw [h1]; rfl))).trans h3, h4⟩
theorem TyV.nil (w : World) (base : Nat) : TyV w base [] (.slice none 0 0) := World.ownsRow_nil _ _ _ _
theorem TyV.snoc {w : World} {base : Nat} {l : List Int} {r : Int} {v : Value} (h : w.ownsRow base 37 1 v (l.length + 1) (l.map (Value.int .u8) ++ [.int .u8 r])) : TyV w base (l ++ [r]) v := by
  unfold TyV
  rw [List.length_append, List.map_append]
  exact h
theorem TyV.form1 {w : World} {base : Nat} {l : List Int} {r : Int} {v : Value} (h : TyV w base (l ++ [r]) v) : ∃ a cap, v = .slice a (l.length + 1) cap := by
  have := h.form
  simpa using this
theorem infoTy : (Tryz.prog.info? 37).map (fun i => (i.zero, i.size, i.bytes)) = some (some (.int .u8 0), 1, 1) := by kernel_rfl
/-- The checker in memory. -/
def CkAt (w : World) (C M : Nat) (cs : Array Value) : Prop := w.heap[C]? = some (.cells (cs.push (.map (some M))) 165 (0, 0))
/-- of's contract at x. -/
def ETy (p : PrD) (x : Ex) : Prop := ∀ (v : Value) (w : World) (cs : Array Value) (C M B d : Nat), RdExV w 0 false x.args v → RdPr w 0 false p cs → CkAt w C M cs → RulesT w M B → wfE d x = true → nodesE x ≤ 100000 →
  Calls Tryz.prog 71 #[.pointer (some ⟨C, 0, none⟩), .agg #[.int .u8 x.op, .int .i64 x.n, .string x.name, v]] w (RetTy (tyE p x) w)
theorem pr_form' {w : World} {lo : Nat} {t : Bool} {p : PrD} {cs : Array Value} (h : RdPr w lo t p cs) : ∃ ai ci af cf ao co, cs = #[.int .i64 p.st, .slice ai p.ins.length ci, .slice af p.flows.length cf, .slice ao p.outs.length co] := by
  obtain ⟨vi, vf, vo, rfl, _, ⟨ai, ci, rfl, _⟩, ⟨af, cf, rfl, _⟩, ⟨ao, co, rfl, _⟩⟩ := h
  exact ⟨ai, ci, af, cf, ao, co, rfl⟩
set_option maxRecDepth 100000 in
set_option maxHeartbeats 4000000 in
theorem ty_any (p : PrD) : ∀ x, ETy p x := by
  refine Ex.ind fun op n nm args ih => ?_
  intro v w cs C M B d hv hP hK hR hwf hlen
  simp only [Ex.op, Ex.n, Ex.name, Ex.args] at *
  simp only [nodesE] at hlen
  obtain ⟨hpa, d', hwl⟩ := wf_open hwf
  have HP := Lib.hid hP
  obtain ⟨ai, ci, af, cf, ao, co, rfl⟩ := pr_form' hP
  clear hP
  obtain ⟨a, cap, rfl, hrest⟩ := hv
  have hv : RdExV w 0 false args (.slice a args.length cap) := ⟨a, cap, rfl, hrest⟩
  have hlen2 : args.length ≤ 9000000000000000000 := by have := hrest.1; unfold fitsR at this; omega
  have hal := nodesL_len args
  clear hrest hwf
  have HI := Lib.hid ih
  clear ih
  have hof : tyE p (.mk op n nm args) = if op = 1 then 1 else if op = 2 then 2 else if op = 3 then nameT p nm else ruleT op (tyL p args) := by simp only [tyE]
  have WX := heap_alloc_new w (.cells #[.int .u8 op, .int .i64 n, .string nm, .slice a args.length cap] 41)
  have WC : Ext w (w.alloc (.cells #[.int .u8 op, .int .i64 n, .string nm, .slice a args.length cap] 41)) := (Chg.refl _ _).alloc _
  have HPA := Lib.hid hpa
  clear hpa
  by_cases h1 : op = 1
  · have HO := Lib.hid (hof.trans (if_pos h1))
    subst h1
    clear hof
    go_enter Tryz.func71, Tryz.ntmps71
    go_wp2_with fail
    go_ret
    exact ⟨by rw [HO.out]; rfl, WC⟩
  rw [if_neg h1] at hof
  by_cases h2 : op = 2
  · have HO := Lib.hid (hof.trans (if_pos h2))
    subst h2
    clear hof
    go_enter Tryz.func71, Tryz.ntmps71
    go_wp2_with fail
    go_ret
    exact ⟨by rw [HO.out]; rfl, WC⟩
  rw [if_neg h2] at hof
  by_cases h3 : op = 3
  · have HO := Lib.hid (hof.trans (if_pos h3))
    subst h3
    clear hof h1 h2
    have HN := Lib.hid (show nameT p nm = if 2 < (findP nm p.flows p.ins).2.1 then 0 else (findP nm p.flows p.ins).2.1 from rfl)
    go_enter Tryz.func71, Tryz.ntmps71
    go_wp2_with fail
    generalize (w.alloc (.cells #[.int .u8 3, .int .i64 n, .string nm, .slice a args.length cap] 41)) = W at *
    have hKW := Ext.heap WC hK
    have k0 := blk_cell hKW 0
    have k1 := blk_cell hKW 1
    have k2 := blk_cell hKW 2
    have k3 := blk_cell hKW 3
    have x2 := blk_cell WX 2
    simp only [List.getElem?_toArray, List.getElem?_cons_zero, List.getElem?_cons_succ, List.push_toArray, List.cons_append, List.nil_append] at k0 k1 k2 k3 x2
    have z0 := (World.cell?_drew (w := W) (a := ⟨C, 0, none⟩)).trans k0
    have z1 := (World.cell?_drew (w := W) (a := ⟨C, 1, none⟩)).trans k1
    have z2 := (World.cell?_drew (w := W) (a := ⟨C, 2, none⟩)).trans k2
    have z3 := (World.cell?_drew (w := W) (a := ⟨C, 3, none⟩)).trans k3
    have y2 := (World.cell?_drew (w := W) (a := ⟨w.heap.size, 2, none⟩)).trans x2
    have hf := find_any p nm _ W.drew (HP.out.ext WC.drew)
    unfold RetFind fourV at hf
    have HF := Lib.hid hf
    clear hf k0 k1 k2 k3 x2 hKW
    generalize findP nm p.flows p.ins = q at *
    obtain ⟨qa, qb, qc, qd⟩ := q
    go_region_held3 (fun X => X.cell? ⟨C, 0, none⟩ = some (.int .i64 p.st) ∧ X.cell? ⟨C, 1, none⟩ = some (.slice ai p.ins.length ci) ∧ X.cell? ⟨C, 2, none⟩ = some (.slice af p.flows.length cf) ∧ X.cell? ⟨C, 3, none⟩ = some (.slice ao p.outs.length co) ∧ X.cell? ⟨w.heap.size, 2, none⟩ = some (.string nm))
      (first | (with_reducible exact ⟨z0, z1, z2, z3, y2⟩) | (with_reducible exact ⟨Ext.cell E3 z0, Ext.cell E3 z1, Ext.cell E3 z2, Ext.cell E3 z3, Ext.cell E3 y2⟩))
      (first
        | (go_at_call 32; refine HF.out.mono ?_; rintro e w3 ⟨rfl, E3⟩))
    have F3 := WC.drew.trans E3
    by_cases hq : 2 < qb
    · have HN2 := Lib.hid (HN.out.trans (if_pos hq))
      go_wp2_with fail
      go_ret
      exact ⟨by rw [HO.out, HN2.out]; rfl, F3⟩
    · have HN2 := Lib.hid (HN.out.trans (if_neg hq))
      go_wp2_with fail
      go_ret
      exact ⟨by rw [HO.out, HN2.out]; rfl, F3⟩
  rw [if_neg h3] at hof
  have HOF := Lib.hid hof
  have b1 : (op == 1) = false := by simpa using h1
  have b2 : (op == 2) = false := by simpa using h2
  have b3 : (op == 3) = false := by simpa using h3
  clear hof
  go_enter Tryz.func71, Tryz.ntmps71
  go_wp2_with fail
  generalize (w.alloc (.cells #[.int .u8 op, .int .i64 n, .string nm, .slice a args.length cap] 41)) = W at *
  have hWs := lt_of_block WX
  obtain ⟨i0, hi, hz0, hz1, hz2⟩ := info_parts infoTy
  clear b1 b2 b3
  go_loopw [5, 34] (fun lv i wr => ∃ (k : Nat) (lk : List Int), k ≤ args.length ∧ i = .int .i64 k ∧ lk = (tyL p args).take k ∧ lk.length = k ∧ TyV wr (w.heap.size + 1) lk lv ∧
      wr.heap[w.heap.size]? = some (.cells #[.int .u8 op, .int .i64 n, .string nm, .slice a args.length cap] 41 (0, 0)) ∧ Ext w wr) (fun _ i _ => args.length - (intOf i).toNat)
  case atStart => exact ⟨0, [], Nat.zero_le _, rfl, rfl, rfl, TyV.nil _ _, WX, WC⟩
  case round =>
    obtain ⟨k, lk, hk, rfl, hlk, hll, rV, rX, rE⟩ := hrel
    have HLK := Lib.hid hlk
    clear hlk
    obtain ⟨av, cv, rfl⟩ := rV.form
    rw [hll] at rV ⊢
    have HLL := Lib.hid hll
    have hkk : lk.length ≤ k := by omega
    clear hll
    by_cases hlt : k < args.length
    · have hx := List.getElem?_eq_getElem hlt
      have hix := HI.out _ (List.getElem_mem hlt)
      obtain ⟨b, o, v0, rfl, _, hb, c0, c1, c2, c3, _, _, _, hvx⟩ := (hv.ext rE).get hx
      have hnx := nodesL_get hx
      have hwx := wfL_get hwl hx
      have hog : (tyL p args).take (k + 1) = (tyL p args).take k ++ [tyE p args[k]] := by
        rw [List.take_add_one, tyL_get, hx]; rfl
      have q1 : (k : Int) < (args.length : Int) := by omega
      generalize args[k] = x at *
      obtain ⟨a2, cap2, rfl, _⟩ := hvx.form
      have K1 : Ext wr (wr.alloc (.cells #[.int .u8 x.op, .int .i64 x.n, .string x.name, .slice a2 x.args.length cap2] 41)) := (Chg.refl _ _).alloc _
      have hcall := hix _ (wr.alloc (.cells #[.int .u8 x.op, .int .i64 x.n, .string x.name, .slice a2 x.args.length cap2] 41)) _ C M B d' (hvx.ext K1) (HP.out.ext (rE.trans K1)) (Ext.heap (rE.trans K1) hK) (hR.ext (rE.trans K1)) hwx (by omega)
      have HCa := Lib.hid hcall
      have HOG := Lib.hid hog
      have rX2 := Lib.hid rX
      have hsz := rE.size
      have hXl := lt_of_block rX
      clear hcall hix hx hvx hog rX K1
      go_wp2_with fail
      refine HCa.out.mono ?_
      rintro e w4 ⟨rfl, E4⟩
      have E5 : Ext w w4 := (rE.alloc _).trans E4
      have X5 := Ext.heap E4 (Ext.heap ((Chg.refl _ _).alloc _) rX2.out)
      have V5 := (rV.chg ((Chg.refl (fun _ => False) _).alloc _) (fun _ _ h => h)).chg E4 (fun _ _ h => h)
      have hs5 := E5.size
      generalize tyE p x = y at *
      go_wp2_with (at_builtin; refine wpList_append_own_at _ rfl _ _ 106 rfl (w.heap.size + 1) 37 i0 _ 1 1 Tryz.underlying106 hi hz0 hz1 hz2 rfl (by decide) _ _ _ rfl (World.ownsRow.alloc V5 _) ⟨w4.heap.size, 0, none⟩ 1 1 [.int .u8 y] rfl rfl (cell_one_new _ _ _) (by simp [Value.oneCell']) (by unfold maxLen; omega) (by omega) (by simp; omega) ?_; intro v6 w6 hown6 hgrow6 _ hat6; have V6 := TyV.snoc hown6; obtain ⟨a6, c6, hv6⟩ := V6.form1; rw [HLL.out] at hv6; subst hv6)
      have D6 := Chg.of_grownBy hgrow6
      have E6 : Ext w w6 := Ext.then (E5.alloc _) D6 (fun b hb => by have := (World.ownsRow.lt V5 b hb).1; omega)
      have X6 := D6.heap (Ext.heap ((Chg.refl _ _).alloc _) X5) (fun h => by have := (World.ownsRow.lt V5 _ h).1; omega)
      have hlk6 : Hid (lk ++ [y] = (tyL p args).take (k + 1)) := by show _ = _; rw [HOG.out, HLK.out]
      have hll6 : Hid ((lk ++ [y]).length = k + 1) := by show _ = _; rw [List.length_append, HLL.out]; rfl
      clear hown6 hgrow6 hat6 D6 V5 X5 rV
      go_wp2_with fail
      go_roundw
      case rel => exact ⟨k + 1, _, by omega, by go_num, hlk6.out, hll6.out, V6, X6, E6⟩
      case measure => simp [intOf]; omega
    · obtain rfl : k = args.length := by omega
      have hfull : lk = tyL p args := by rw [HLK.out, List.take_of_length_le (by rw [tyL_len]; exact Nat.le_refl _)]
      subst hfull
      clear HLK
      have hlo := tyL_len p args
      have hpos : 1 ≤ args.length := by
        rcases Nat.eq_zero_or_pos args.length with h | h
        · exfalso
          have hpp := HPA.out
          rw [h] at hpp
          simp only [partsP, if_neg (show ¬ (op = 1 ∨ op = 2 ∨ op = 3) from fun e => e.elim h1 (fun e => e.elim h2 h3))] at hpp
          split at hpp
          · omega
          · split at hpp
            · omega
            · split at hpp <;> omega
        · exact h
      have hRr := hR.ext rE
      have hKr := Ext.heap rE hK
      have rT := (show TyV wr (w.heap.size + 1) (tyL p args) (.slice av (tyL p args).length cv) by rw [hlo]; exact rV).rd (by omega)
      have k4 := blk_cell hKr 4
      have x0 := blk_cell rX 0
      simp only [List.getElem?_toArray, List.getElem?_cons_zero, List.getElem?_cons_succ, List.push_toArray, List.cons_append, List.nil_append] at k4 x0
      have z4 := (World.cell?_drew (w := wr) (a := ⟨C, 4, none⟩)).trans k4
      have z0 := (World.cell?_drew (w := wr) (a := ⟨w.heap.size, 0, none⟩)).trans x0
      have rT2 : TyR wr.drew (tyL p args) (.slice av (tyL p args).length cv) := rT
      have rR2 : RulesT wr.drew M B := hRr
      have F1 := rE.drew
      clear k4 x0 rT hKr hRr rV rX
      by_cases hn : op = 4 ∨ op = 6 ∨ op = 7 ∨ op = 8 ∨ op = 9 ∨ op = 10
      · have hlk := tlook_n rR2 hn
        have HO := Lib.hid (HOF.out.trans (show ruleT op (tyL p args) = eachT 1 1 (tyL p args) by unfold ruleT; rw [if_pos hn]))
        have HC := Lib.hid (show Calls Tryz.prog 134 #[.slice av args.length cv, .pointer (some ⟨B, 0, none⟩), .pointer (some ⟨B + 1, 0, none⟩)] wr.drew (RetTy (eachT 1 1 (tyL p args)) wr.drew) by rw [← hlo]; exact each1_any 1 1 _ _ _ _ _ rT2 (by omega) rR2.2.1.cell rR2.2.2.1.cell)
        generalize eachT 1 1 (tyL p args) = tt at *
        go_wp2_with fail
        go_region_held3 (fun X => X.cell? ⟨C, 4, none⟩ = some (.map (some M)) ∧ X.cell? ⟨w.heap.size, 0, none⟩ = some (.int .u8 op))
          (first | (with_reducible exact ⟨z4, z0⟩) | (with_reducible exact ⟨Ext.cell E3 z4, Ext.cell E3 z0⟩))
          (first
            | (go_at_call 134; refine HC.out.mono ?_; rintro e w3 ⟨rfl, E3⟩))
        go_wp2_with fail
        go_ret
        exact ⟨by rw [HO.out]; rfl, F1.trans E3⟩
      by_cases hy : op = 5 ∨ op = 15 ∨ op = 16
      · have hlk := tlook_y rR2 hy
        have HO := Lib.hid (HOF.out.trans (show ruleT op (tyL p args) = eachT 2 2 (tyL p args) by unfold ruleT; rw [if_neg hn, if_pos hy]))
        have HC := Lib.hid (show Calls Tryz.prog 134 #[.slice av args.length cv, .pointer (some ⟨B + 2, 0, none⟩), .pointer (some ⟨B + 3, 0, none⟩)] wr.drew (RetTy (eachT 2 2 (tyL p args)) wr.drew) by rw [← hlo]; exact each1_any 2 2 _ _ _ _ _ rT2 (by omega) rR2.2.2.2.1.cell rR2.2.2.2.2.1.cell)
        generalize eachT 2 2 (tyL p args) = tt at *
        go_wp2_with fail
        go_region_held3 (fun X => X.cell? ⟨C, 4, none⟩ = some (.map (some M)) ∧ X.cell? ⟨w.heap.size, 0, none⟩ = some (.int .u8 op))
          (first | (with_reducible exact ⟨z4, z0⟩) | (with_reducible exact ⟨Ext.cell E3 z4, Ext.cell E3 z0⟩))
          (first
            | (go_at_call 134; refine HC.out.mono ?_; rintro e w3 ⟨rfl, E3⟩))
        go_wp2_with fail
        go_ret
        exact ⟨by rw [HO.out]; rfl, F1.trans E3⟩
      by_cases hl : op = 13 ∨ op = 14
      · have hlk := tlook_l rR2 hl
        have HO := Lib.hid (HOF.out.trans (show ruleT op (tyL p args) = eachT 1 2 (tyL p args) by unfold ruleT; rw [if_neg hn, if_neg hy, if_pos hl]))
        have HC := Lib.hid (show Calls Tryz.prog 134 #[.slice av args.length cv, .pointer (some ⟨B + 4, 0, none⟩), .pointer (some ⟨B + 5, 0, none⟩)] wr.drew (RetTy (eachT 1 2 (tyL p args)) wr.drew) by rw [← hlo]; exact each1_any 1 2 _ _ _ _ _ rT2 (by omega) rR2.2.2.2.2.2.1.cell rR2.2.2.2.2.2.2.1.cell)
        generalize eachT 1 2 (tyL p args) = tt at *
        go_wp2_with fail
        go_region_held3 (fun X => X.cell? ⟨C, 4, none⟩ = some (.map (some M)) ∧ X.cell? ⟨w.heap.size, 0, none⟩ = some (.int .u8 op))
          (first | (with_reducible exact ⟨z4, z0⟩) | (with_reducible exact ⟨Ext.cell E3 z4, Ext.cell E3 z0⟩))
          (first
            | (go_at_call 134; refine HC.out.mono ?_; rintro e w3 ⟨rfl, E3⟩))
        go_wp2_with fail
        go_ret
        exact ⟨by rw [HO.out]; rfl, F1.trans E3⟩
      by_cases he : op = 11 ∨ op = 12
      · have hlk := tlook_e rR2 he
        have HO := Lib.hid (HOF.out.trans (show ruleT op (tyL p args) = equalT (tyL p args) by unfold ruleT; rw [if_neg hn, if_neg hy, if_neg hl, if_pos he]))
        have HC := Lib.hid (show Calls Tryz.prog 111 #[.slice av args.length cv] wr.drew (RetTy (equalT (tyL p args)) wr.drew) by rw [← hlo]; exact equal_any _ _ _ rT2 (by omega) (by omega))
        generalize equalT (tyL p args) = tt at *
        go_wp2_with fail
        go_region_held3 (fun X => X.cell? ⟨C, 4, none⟩ = some (.map (some M)) ∧ X.cell? ⟨w.heap.size, 0, none⟩ = some (.int .u8 op))
          (first | (with_reducible exact ⟨z4, z0⟩) | (with_reducible exact ⟨Ext.cell E3 z4, Ext.cell E3 z0⟩))
          (first
            | (go_at_call 111; refine HC.out.mono ?_; rintro e w3 ⟨rfl, E3⟩))
        go_wp2_with fail
        go_ret
        exact ⟨by rw [HO.out]; rfl, F1.trans E3⟩
      by_cases hs : op = 18 ∨ op = 19
      · have hlk := tlook_s rR2 hs
        have HO := Lib.hid (HOF.out.trans (show ruleT op (tyL p args) = sameT (tyL p args) by unfold ruleT; rw [if_neg hn, if_neg hy, if_neg hl, if_neg he, if_pos hs]))
        have HC := Lib.hid (show Calls Tryz.prog 109 #[.slice av args.length cv] wr.drew (RetTy (sameT (tyL p args)) wr.drew) by rw [← hlo]; exact same_any _ _ _ rT2 (by omega) (by omega))
        generalize sameT (tyL p args) = tt at *
        go_wp2_with fail
        go_region_held3 (fun X => X.cell? ⟨C, 4, none⟩ = some (.map (some M)) ∧ X.cell? ⟨w.heap.size, 0, none⟩ = some (.int .u8 op))
          (first | (with_reducible exact ⟨z4, z0⟩) | (with_reducible exact ⟨Ext.cell E3 z4, Ext.cell E3 z0⟩))
          (first
            | (go_at_call 109; refine HC.out.mono ?_; rintro e w3 ⟨rfl, E3⟩))
        go_wp2_with fail
        go_ret
        exact ⟨by rw [HO.out]; rfl, F1.trans E3⟩
      have h17 : op = 17 := by
        have hpp := HPA.out
        simp only [partsP, if_neg (show ¬ (op = 1 ∨ op = 2 ∨ op = 3) from fun e => e.elim h1 (fun e => e.elim h2 h3)), hasOp, pairsD, prefixesD, List.any_cons, List.any_nil, Bool.or_false, Bool.or_eq_true, decide_eq_true_eq] at hpp
        split at hpp
        · assumption
        · exfalso
          split at hpp
          · omega
          · split at hpp <;> omega
      have hl3 : args.length = 3 := by have := HPA.out; rw [h17, show partsP 17 = 3 from rfl] at this; omega
      have hi17 := h17
      · have hlk := tlook_i rR2 hi17
        have HO := Lib.hid (HOF.out.trans (show ruleT op (tyL p args) = ifT (tyL p args) by unfold ruleT; rw [if_neg hn, if_neg hy, if_neg hl, if_neg he, if_neg hs, if_pos hi17]))
        have HC := Lib.hid (show Calls Tryz.prog 112 #[.slice av args.length cv, .pointer (some ⟨B + 6, 0, none⟩)] wr.drew (RetTy (ifT (tyL p args)) wr.drew) by rw [← hlo]; exact if_any _ _ _ _ rT2 (by omega) rR2.2.2.2.2.2.2.2.cell)
        generalize ifT (tyL p args) = tt at *
        clear h17 hi17 hl3
        go_wp2_with fail
        go_region_held3 (fun X => X.cell? ⟨C, 4, none⟩ = some (.map (some M)) ∧ X.cell? ⟨w.heap.size, 0, none⟩ = some (.int .u8 op))
          (first | (with_reducible exact ⟨z4, z0⟩) | (with_reducible exact ⟨Ext.cell E3 z4, Ext.cell E3 z0⟩))
          (first
            | (go_at_call 112; refine HC.out.mono ?_; rintro e w3 ⟨rfl, E3⟩))
        go_wp2_with fail
        go_ret
        exact ⟨by rw [HO.out]; rfl, F1.trans E3⟩
end Go.Proofs.YtgkbhonjodcakaaGreat
namespace Go.Proofs.YtgkbhonjodcakaaGreat
open Go.RowKit
set_option linter.unusedVariables false
set_option linter.unusedSimpArgs false

/-- The plain answer, and the error's number. -/
def tyP (p : PrD) (x : Ex) : Int × Int := if okE 32 200 x = false then (0, 1) else if thereP p (gthE [] 0 x) = false then (0, 6) else if tyE p x = 0 then (0, 7) else (tyE p x, 0)
def RetTO (w : World) (q : Int × Int) (e : Ending) (w' : World) : Prop := e = .returned (.tuple #[.int .u8 q.1, .int .i64 q.2]) ∧ Ext w w'
set_option maxRecDepth 100000 in
set_option maxHeartbeats 4000000 in
theorem tyOf_any (p : PrD) (x : Ex) (cs : Array Value) (v : Value) (w : World) (h : RdPr w 0 false p cs) (hv : RdExV w 0 false x.args v) (hnm : x.name.size ≤ maxLen) :
    Calls Tryz.prog 25 #[.agg cs, .agg #[.int .u8 x.op, .int .i64 x.n, .string x.name, v]] w (RetTO w (tyP p x)) := by
  have H := Lib.hid h
  have HV := Lib.hid hv
  obtain ⟨ai, ci, af, cf, ao, co, rfl⟩ := pr_form h
  clear h
  obtain ⟨a, cap, rfl, _⟩ := hv.form
  clear hv
  have E0 : Ext w ((w.alloc (.cells #[.int .i64 p.st, .slice ai p.ins.length ci, .slice af p.flows.length cf, .slice ao p.outs.length co] 26)).alloc (.cells #[.int .u8 x.op, .int .i64 x.n, .string x.name, .slice a x.args.length cap] 41)) := ((Chg.refl _ _).alloc _).alloc _
  have BX := heap_alloc_new (w.alloc (.cells #[.int .i64 p.st, .slice ai p.ins.length ci, .slice af p.flows.length cf, .slice ao p.outs.length co] 26)) (.cells #[.int .u8 x.op, .int .i64 x.n, .string x.name, .slice a x.args.length cap] 41)
  rw [World.size_alloc] at BX
  have BP := Ext.heap ((Chg.refl (fun _ => False) (w.alloc (.cells #[.int .i64 p.st, .slice ai p.ins.length ci, .slice af p.flows.length cf, .slice ao p.outs.length co] 26))).alloc (.cells #[.int .u8 x.op, .int .i64 x.n, .string x.name, .slice a x.args.length cap] 41)) (heap_alloc_new w (.cells #[.int .i64 p.st, .slice ai p.ins.length ci, .slice af p.flows.length cf, .slice ao p.outs.length co] 26))
  have hq1 : okE 32 200 x = false → tyP p x = (0, 1) := fun h => by unfold tyP; rw [if_pos h]
  have hq2 : okE 32 200 x = true → thereP p (gthE [] 0 x) = false → tyP p x = (0, 6) := fun h h' => by unfold tyP; rw [if_neg (by rw [h]; simp), if_pos h']
  have hq3 : okE 32 200 x = true → thereP p (gthE [] 0 x) = true → tyP p x = if tyE p x = 0 then (0, 7) else (tyE p x, 0) := fun h h' => by unfold tyP; rw [if_neg (by rw [h]; simp), if_neg (by rw [h']; simp)]
  have HQ1 := Lib.hid hq1
  have HQ2 := Lib.hid hq2
  have HQ3 := Lib.hid hq3
  clear hq1 hq2 hq3
  have hchk := exCheck_any x _ _ (HV.out.ext E0) hnm
  generalize hok : okE 32 200 x = ok at *
  have HC := Lib.hid hchk
  clear hchk
  go_enter Tryz.func25, Tryz.ntmps25
  go_wp2_with fail
  refine HC.out.mono ?_
  rintro e w1 ⟨rfl, E1⟩
  have F1 := E0.trans E1
  have BX1 := Ext.heap E1 BX
  have BP1 := Ext.heap E1 BP
  clear HC
  cases ok
  · go_wp2_with fail
    refine bodyPost_ret (results_two rfl _ _ _) rfl ⟨?_, F1⟩
    rw [HQ1.out (by trivial)]
    rfl
  · obtain ⟨hwf, hnd⟩ := ok_wf hok
    have hrf := refs_any x _ _ (HV.out.ext F1) hnm (by omega)
    have HC := Lib.hid hrf
    clear hrf
    have x0 := blk_cell BX1 0
    have x1 := blk_cell BX1 1
    have x2 := blk_cell BX1 2
    have x3 := blk_cell BX1 3
    simp only [List.getElem?_toArray, List.getElem?_cons_zero, List.getElem?_cons_succ] at x0 x1 x2 x3
    have hgl := gthE_le x [] 0
    simp only [List.length_nil] at hgl
    generalize hl : gthE [] 0 x = l at *
    go_wp2_with fail
    refine HC.out.mono ?_
    rintro e w2 ⟨v2, rfl, V2, E2⟩
    obtain ⟨a2, c2, rfl⟩ := V2.form
    have F2 := F1.trans E2
    have BX2 := Ext.heap E2 BX1
    have BP2 := Ext.heap E2 BP1
    clear HC x0 x1 x2 x3 BX BP BX1 BP1 E0 E1 F1 E2
    go_wp2_with fail
    go_loopw [20] (fun i wr => ∃ k : Nat, k ≤ l.length ∧ i = .int .i64 k ∧ thereP p l = thereP p (l.drop k) ∧ Ext w2 wr) (fun i _ => l.length - (intOf i).toNat)
    case atStart => exact ⟨0, Nat.zero_le _, rfl, rfl, Chg.refl _ _⟩
    case round =>
      obtain ⟨k, hk, rfl, hth, rE⟩ := hrel
      have HT := Lib.hid hth
      clear hth
      have BX3 := Ext.heap rE BX2
      have BP3 := Ext.heap rE BP2
      by_cases hlt : k < l.length
      · have hx := List.getElem?_eq_getElem hlt
        obtain ⟨g, rfl, c0, c1⟩ := (V2.chg rE (fun _ _ h => h)).get hx
        have q1 : (k : Int) < (l.length : Int) := by omega
        have HD := Lib.hid (there_drop (p := p) hx)
        generalize l[k] = r at *
        obtain ⟨r1, r2⟩ := r
        simp only at c0 c1 HD
        have hf := find_any p r1 _ (wr.alloc (.cells #[.string r1, .int .i64 r2] 78)) (H.out.ext ((F2.trans rE).alloc _))
        have BP4 := Ext.heap ((Chg.refl (fun _ => False) wr).alloc (.cells #[.string r1, .int .i64 r2] 78)) BP3
        have y0 := blk_cell BP4 0
        have y1 := blk_cell BP4 1
        have y2 := blk_cell BP4 2
        have y3 := blk_cell BP4 3
        simp only [List.getElem?_toArray, List.getElem?_cons_zero, List.getElem?_cons_succ] at y0 y1 y2 y3
        unfold RetFind fourV at hf
        have HF := Lib.hid hf
        clear hf hx
        generalize findP r1 p.flows p.ins = q at *
        obtain ⟨qa, qb, qc, qd⟩ := q
        go_wp2_with fail
        refine HF.out.mono ?_
        rintro e w5 ⟨rfl, E5⟩
        have F5 := (rE.alloc _).trans E5
        cases qd
        · have hfin : thereP p l = false := by rw [HT.out, HD.out]; rfl
          have HFin := Lib.hid hfin
          clear hfin
          go_wp2_with fail
          refine bodyPost_ret (results_two rfl _ _ _) rfl ⟨?_, F2.trans F5⟩
          rw [HQ2.out (by trivial) HFin.out]
          rfl
        · have hfin : thereP p l = thereP p (l.drop (k + 1)) := by rw [HT.out, HD.out]; rfl
          have HFin := Lib.hid hfin
          clear hfin
          go_wp2_with fail
          go_roundw
          case rel => exact ⟨k + 1, by omega, by go_num, HFin.out, F5⟩
          case measure => simp [intOf]; omega
      · obtain rfl : k = l.length := by omega
        have hfin : thereP p l = true := by rw [HT.out, List.drop_length]; rfl
        have HFin := Lib.hid hfin
        clear hfin
        have p0 := blk_cell BP3 0
        have p1 := blk_cell BP3 1
        have p2 := blk_cell BP3 2
        have p3 := blk_cell BP3 3
        simp only [List.getElem?_toArray, List.getElem?_cons_zero, List.getElem?_cons_succ] at p0 p1 p2 p3
        have z0 := (World.cell?_drew (w := wr) (a := ⟨w.heap.size, 0, none⟩)).trans p0
        have z1 := (World.cell?_drew (w := wr) (a := ⟨w.heap.size, 1, none⟩)).trans p1
        have z2 := (World.cell?_drew (w := wr) (a := ⟨w.heap.size, 2, none⟩)).trans p2
        have z3 := (World.cell?_drew (w := wr) (a := ⟨w.heap.size, 3, none⟩)).trans p3
        clear p0 p1 p2 p3
        have F6 := (F2.trans rE).drew
        have BX6 : wr.drew.heap[w.heap.size + 1]? = _ := BX3
        go_wp2_with fail
        go_region_held3 (fun X => X.cell? ⟨w.heap.size, 0, none⟩ = some (.int .i64 p.st) ∧ X.cell? ⟨w.heap.size, 1, none⟩ = some (.slice ai p.ins.length ci) ∧ X.cell? ⟨w.heap.size, 2, none⟩ = some (.slice af p.flows.length cf) ∧ X.cell? ⟨w.heap.size, 3, none⟩ = some (.slice ao p.outs.length co))
          (first | (with_reducible exact ⟨z0, z1, z2, z3⟩) | (with_reducible exact ⟨Ext.cell E7 z0, Ext.cell E7 z1, Ext.cell E7 z2, Ext.cell E7 z3⟩) | (exact ⟨Ext.cell (Chg.alloc (Chg.refl _ _) _) (Ext.cell E7 z0), Ext.cell (Chg.alloc (Chg.refl _ _) _) (Ext.cell E7 z1), Ext.cell (Chg.alloc (Chg.refl _ _) _) (Ext.cell E7 z2), Ext.cell (Chg.alloc (Chg.refl _ _) _) (Ext.cell E7 z3)⟩))
          (first
            | (go_at_call 70; refine (trules_one _).mono ?_; rintro e w7 ⟨rfl, hR7, E7⟩))
        have K8 : Ext w7 (w7.alloc (.cells #[.int .i64 p.st, .slice ai p.ins.length ci, .slice af p.flows.length cf, .slice ao p.outs.length co, .map (some (wr.heap.size + 7))] 165)) := (Chg.refl _ _).alloc _
        have hCk : CkAt (w7.alloc (.cells #[.int .i64 p.st, .slice ai p.ins.length ci, .slice af p.flows.length cf, .slice ao p.outs.length co, .map (some (wr.heap.size + 7))] 165)) w7.heap.size (wr.heap.size + 7) #[.int .i64 p.st, .slice ai p.ins.length ci, .slice af p.flows.length cf, .slice ao p.outs.length co] := heap_alloc_new w7 _
        have F8 := (F6.trans E7).trans K8
        have BX8 := Ext.heap K8 (Ext.heap E7 BX6)
        have hty := ty_any p x _ _ _ w7.heap.size (wr.heap.size + 7) wr.heap.size 32 (HV.out.ext F8) (H.out.ext F8) hCk (hR7.ext K8) hwf (by omega)
        have HO := Lib.hid hty
        clear hty hCk hR7 E7 z0 z1 z2 z3 K8
        have x0 := blk_cell BX8 0
        have x1 := blk_cell BX8 1
        have x2 := blk_cell BX8 2
        have x3 := blk_cell BX8 3
        simp only [List.getElem?_toArray, List.getElem?_cons_zero, List.getElem?_cons_succ] at x0 x1 x2 x3
        go_wp2_with fail
        refine HO.out.mono ?_
        rintro e w9 ⟨rfl, E9⟩
        have HQ := Lib.hid (HQ3.out (by trivial) HFin.out)
        generalize tyE p x = t at *
        by_cases ht : t = 0
        · have b0 : (t == 0) = true := by simpa using ht
          have HQQ := Lib.hid (HQ.out.trans (if_pos ht))
          have ht2 := Lib.hid ht
          clear ht
          go_wp2_with fail
          refine bodyPost_ret (results_two rfl _ _ _) rfl ⟨?_, F8.trans E9⟩
          rw [HQQ.out, ← ht2.out]
          rfl
        · have b0 : (t == 0) = false := by simpa using ht
          have HQQ := Lib.hid (HQ.out.trans (if_neg ht))
          clear ht
          go_wp2_with fail
          refine bodyPost_ret (results_two rfl _ _ _) rfl ⟨?_, F8.trans E9⟩
          rw [HQQ.out]
          rfl
end Go.Proofs.YtgkbhonjodcakaaGreat
