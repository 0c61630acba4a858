/- What a name is: the plain answer; the document's walk. -/
import Derived.Test.YtjdficgejjkaoaaLeft
namespace Go.Proofs.Ytjdficgejjkaoaa
open Go.RowKit
set_option linter.unusedVariables false

/-- The first flow of the name, counted from i. -/
def findFl (s : ByteArray) : Nat → List FlD → Int × Int × Int × Bool
  | _, [] => (0, 0, 0, false)
  | i, x :: r => if x.name = s then (x.st, x.ty, (i : Int), true) else findFl s (i + 1) r
/-- The first that comes from without, else the first flow. -/
def findP (s : ByteArray) (fl : List FlD) : List InD → Int × Int × Int × Bool
  | [] => findFl s 0 fl
  | x :: r => if x.name = s then (x.st, x.ty, -1, true) else findP s fl r
def fourV (q : Int × Int × Int × Bool) : Value := .tuple #[.int .i64 q.1, .int .u8 q.2.1, .int .i64 q.2.2.1, .bool q.2.2.2]
theorem findP_at {s : ByteArray} {fl : List FlD} {l : List InD} {k : Nat} {x : InD} (h : l[k]? = some x) : findP s fl (l.drop k) = if x.name = s then (x.st, x.ty, -1, true) else findP s fl (l.drop (k + 1)) := by
  obtain ⟨hk, rfl⟩ := List.getElem?_eq_some_iff.1 h
  rw [List.drop_eq_getElem_cons hk, findP]
theorem findFl_at {s : ByteArray} {l : List FlD} {k : Nat} {x : FlD} (h : l[k]? = some x) : findFl s k (l.drop k) = if x.name = s then (x.st, x.ty, (k : Int), true) else findFl s (k + 1) (l.drop (k + 1)) := by
  obtain ⟨hk, rfl⟩ := List.getElem?_eq_some_iff.1 h
  rw [List.drop_eq_getElem_cons hk, findFl]
theorem str_eq {a b : ByteArray} : (a.toList == b.toList) = true ↔ a = b := by
  rw [beq_iff_eq, ByteArray.toList_eq, ByteArray.toList_eq, Array.toList_inj]
  exact ⟨fun h => by cases a; cases b; cases h; rfl, fun h => by rw [h]⟩
theorem str_ne {a b : ByteArray} (h : (a.toList == b.toList) = false) : ¬ a = b := fun e => by rw [str_eq.2 e] at h; cases h
theorem results_four {fn : Func} {t u v x : Tmp} (h : fn.results = #[.tmp t, .tmp u, .tmp v, .tmp x]) (tmps : Array Value) (P : Program) (w : World) :
    (results fn tmps).run P w = .ok (.tuple #[tmps.getD t undef, tmps.getD u undef, tmps.getD v undef, tmps.getD x undef]) w := by
  simp [results, h]
def progC (p : PrD) (ai af ao : Option Addr) (ci cf co : Nat) : Array Value := #[.int .i64 p.st, .slice ai p.ins.length ci, .slice af p.flows.length cf, .slice ao p.outs.length co]
def RetFind (w : World) (p : PrD) (s : ByteArray) (e : Ending) (w' : World) : Prop := e = .returned (fourV (findP s p.flows p.ins)) ∧ Ext w w'
set_option maxHeartbeats 2000000 in
theorem refFind_any (p : PrD) (s : ByteArray) (cs : Array Value) (w : World) (h : RdPr w 0 false p cs) : Calls Try.prog 68 #[.agg cs, .string s] w (RetFind w p s) := by
  obtain ⟨vi, vf, vo, rfl, _, hi, hf, ho⟩ := h
  obtain ⟨ai, ci, rfl, ri⟩ := hi
  obtain ⟨af, cf, rfl, rf⟩ := hf
  obtain ⟨ao, co, rfl, _⟩ := ho
  have hi : RdInV w 0 false p.ins (.slice ai p.ins.length ci) := ⟨_, _, rfl, ri⟩
  have hf : RdFlV w 0 false p.flows (.slice af p.flows.length cf) := ⟨_, _, rfl, rf⟩
  have n1 : p.ins.length ≤ 9000000000000000000 := by have := ri.1; unfold fitsR at this; omega
  have n2 : p.flows.length ≤ 9000000000000000000 := by have := rf.1; unfold fitsR at this; omega
  clear ri rf
  generalize hl1 : p.ins = l1 at *
  generalize hl2 : p.flows = l2 at *
  have e0 : Ext w (w.alloc (.cells #[.int .i64 p.st, .slice ai l1.length ci, .slice af l2.length cf, .slice ao p.outs.length co] 26)) := (Chg.refl _ _).alloc _
  have y1 : (w.alloc (.cells #[.int .i64 p.st, .slice ai l1.length ci, .slice af l2.length cf, .slice ao p.outs.length co] 26)).cell? ⟨w.heap.size, 1, none⟩ = some (.slice ai l1.length ci) := by rw [World.cell?_alloc_at _ _ _ _ rfl]; rfl
  have y2 : (w.alloc (.cells #[.int .i64 p.st, .slice ai l1.length ci, .slice af l2.length cf, .slice ao p.outs.length co] 26)).cell? ⟨w.heap.size, 2, none⟩ = some (.slice af l2.length cf) := by rw [World.cell?_alloc_at _ _ _ _ rfl]; rfl
  go_enter Try.func68, Try.ntmps68
  go_wp2_with fail
  generalize hw0 : w.alloc (.cells #[.int .i64 p.st, .slice ai l1.length ci, .slice af l2.length cf, .slice ao p.outs.length co] 26) = w0 at *
  clear hw0
  go_loop [8] (fun i => ∃ k : Nat, k ≤ l1.length ∧ i = .int .i64 k ∧ findP s l2 l1 = findP s l2 (l1.drop k)) (fun i => l1.length - (intOf i).toNat)
  case atStart => exact ⟨0, Nat.zero_le _, rfl, rfl⟩
  case round =>
    obtain ⟨k, hk, rfl, hE⟩ := hrel
    have HE := Lib.hid hE
    clear hE
    by_cases hlt : k < l1.length
    · have hx := List.getElem?_eq_getElem hlt
      obtain ⟨_, _, e, _, _, _, hr, _⟩ := hi.ext e0
      simp only [Value.slice.injEq, true_and] at e
      obtain ⟨rfl, rfl⟩ := e
      obtain ⟨_, _, _, b, o, rfl, _, hb, c0, c1, c2⟩ := hr k _ hx
      have q1 : (k : Int) < (l1.length : Int) := by omega
      have hstep := findP_at (s := s) (fl := l2) hx
      generalize l1[k] = x at *
      clear hr hx hi hf
      have HS := Lib.hid hstep
      clear hstep
      go_wp2_with fail
      · have hxs := str_eq.1 ‹(x.name.toList == s.toList) = true›
        go_quiet (fail)
        go_wp2_with fail
        refine bodyPost_ret (results_four rfl _ _ _) rfl ⟨?_, e0.drewN _⟩
        rw [hl1, hl2, HE.out, HS.out, if_pos hxs]
        rfl
      · have hxs := str_ne ‹(x.name.toList == s.toList) = false›
        go_round
        case rel => exact ⟨k + 1, by omega, by go_num, by rw [HE.out, HS.out, if_neg hxs]⟩
        case measure => simp [intOf]; omega
    · obtain rfl : k = l1.length := by omega
      have HE := Lib.hid (show findP s l2 l1 = findFl s 0 l2 by rw [HE.out, List.drop_length]; rfl)
      clear hi
      go_wp2_with fail
      go_loop [9] (fun i => ∃ k : Nat, k ≤ l2.length ∧ i = .int .i64 k ∧ findFl s 0 l2 = findFl s k (l2.drop k)) (fun i => l2.length - (intOf i).toNat)
      case atStart => exact ⟨0, Nat.zero_le _, rfl, rfl⟩
      case round =>
        obtain ⟨k, hk, rfl, hE⟩ := hrel
        have HE2 := Lib.hid hE
        clear hE
        by_cases hlt : k < l2.length
        · have hx := List.getElem?_eq_getElem hlt
          obtain ⟨_, _, e, _, _, _, hr, _⟩ := hf.ext e0
          simp only [Value.slice.injEq, true_and] at e
          obtain ⟨rfl, rfl⟩ := e
          obtain ⟨_, _, _, _, b, o, rfl, _, hb, c0, c1, c2, c3, _⟩ := hr k _ hx
          have q1 : (k : Int) < (l2.length : Int) := by omega
          have hstep := findFl_at (s := s) hx
          generalize l2[k] = x at *
          clear hr hx hf
          have HS := Lib.hid hstep
          clear hstep
          go_wp2_with fail
          · have hxs := str_eq.1 ‹(x.name.toList == s.toList) = true›
            go_quiet (fail)
            go_wp2_with fail
            refine bodyPost_ret (results_four rfl _ _ _) rfl ⟨?_, e0.drewN _⟩
            rw [hl1, hl2, HE.out, HE2.out, HS.out, if_pos hxs]
            rfl
          · have hxs := str_ne ‹(x.name.toList == s.toList) = false›
            go_round
            case rel => exact ⟨k + 1, by omega, by go_num, by rw [HE2.out, HS.out, if_neg hxs]⟩
            case measure => simp [intOf]; omega
        · obtain rfl : k = l2.length := by omega
          go_wp2_with fail
          refine bodyPost_ret (results_four rfl _ _ _) rfl ⟨?_, e0⟩
          rw [hl1, hl2, HE.out, HE2.out, List.drop_length]
          rfl
end Go.Proofs.Ytjdficgejjkaoaa
