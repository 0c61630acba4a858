/- What stands in this text: Has, PrC, FindN. -/
import Derived.Test.YtgkbhonjodcakaaGreatJ0
import Derived.Test.YtgkbhonjodcakaaGreatJ2
import Derived.RangeFuncNested
import Derived.RangeFuncCalls
namespace Go.Proofs.YtgkbhonjodcakaaGreat
open Go.RowKit
set_option linter.unusedVariables false
set_option linter.unusedSimpArgs false

def RetIxB (b : Bool) (w : World) (e : Ending) (w' : World) : Prop := (∃ n : Int, e = .returned (.int .i64 n) ∧ (0 ≤ n ↔ b = true)) ∧ Ext w w'
theorem anyG_at {α : Type} {l : List α} {k : Nat} {y : α} {f : α → Bool} (h : l[k]? = some y) : (l.drop k).any f = (f y || (l.drop (k + 1)).any f) := by
  obtain ⟨hk, rfl⟩ := List.getElem?_eq_some_iff.1 h
  rw [List.drop_eq_getElem_cons hk]
  rfl

set_option maxHeartbeats 1000000 in
theorem idxI_any (l : List InD) (v : Value) (st : Int) (B : Nat) (w : World) (h : RdInV w 0 false l v) (hb : w.cell? ⟨B, 0, none⟩ = some (.int .i64 st)) :
    Calls Tryz.prog 127 #[v, .func (.func 98) #[] #[.pointer (some ⟨B, 0, none⟩)]] w (RetIxB (l.any (inBad st)) w) := by
  obtain ⟨a, cap, rfl, hrest⟩ := h
  have h : RdInV w 0 false l (.slice a l.length cap) := ⟨_, _, rfl, hrest⟩
  have hn : l.length ≤ 9000000000000000000 := by have := hrest.1; unfold fitsR at this; omega
  clear hrest
  have hp := fun (x : InD) (W : World) (hs : x.name.size ≤ maxLen) (hE : Ext w W) => inBad_one x st B W hs (Ext.cell hE hb)
  have HP := Lib.hid hp
  clear hp
  generalize hpe : inBad st = P at *
  go_enter Tryz.func127, Tryz.ntmps127
  go_wp2_with fail
  go_loopw [8] (fun i wr => ∃ k : Nat, k ≤ l.length ∧ i = .int .i64 k ∧ (l.any P) = ((l.drop k).any P) ∧ Ext w wr) (fun i _ => l.length - (intOf i).toNat)
  case atStart => exact ⟨0, Nat.zero_le _, rfl, rfl, Chg.refl _ _⟩
  case round =>
    obtain ⟨k, hk, rfl, hE, hX⟩ := hrel
    have HE := Lib.hid hE
    clear hE
    by_cases hlt : k < l.length
    · have hx : l[k]? = some l[k] := List.getElem?_eq_getElem hlt
      have q1 : (k : Int) < (l.length : Int) := by omega
      have HS := Lib.hid (anyG_at (f := P) hx)
      obtain ⟨_, _, e, _, _, _, hr, _⟩ := h.ext hX
      simp only [Value.slice.injEq, true_and] at e
      obtain ⟨rfl, rfl⟩ := e
      obtain ⟨hnm, _, _, b, o, rfl, _, hlt2, c0, c1, c2⟩ := hr k _ hx
      generalize l[k] = y at *
      clear hr hx
      go_wp2_with fail
      refine (show Calls _ _ _ _ (RetV (P y) wr) from HP.out y wr hnm hX).mono ?_
      rintro e w1 ⟨he, hE1⟩
      cases hb : P y
      · rw [hb] at he
        subst he
        have H2 : Hid ((l.any P) = ((l.drop (k + 1)).any P)) := by
          show _ = _
          rw [HE.out, HS.out, hb, Bool.false_or]
        have hX1 := hX.trans hE1
        clear hX hE1
        go_wp2_with fail
        go_roundw
        case rel => exact ⟨k + 1, by omega, by go_num, H2.out, hX1⟩
        case measure => simp [intOf]; omega
      · rw [hb] at he
        subst he
        have H2 : Hid ((l.any P) = true) := by
          show _ = _
          rw [HE.out, HS.out, hb, Bool.true_or]
        go_wp2_with fail
        go_ret
        exact ⟨⟨k, rfl, by rw [H2.out]; simp⟩, hX.trans hE1⟩
    · obtain rfl : k = l.length := by omega
      have H2 := Lib.hid (HE.out.trans (show ((l.drop l.length).any P) = false by rw [List.drop_length]; rfl))
      go_wp2_with fail
      go_ret
      exact ⟨⟨(-1 : Int), rfl, by rw [H2.out]; exact ⟨fun h => absurd h (by decide), fun h => by cases h⟩⟩, hX⟩
theorem hasI_any (l : List InD) (v : Value) (st : Int) (B : Nat) (w : World) (h : RdInV w 0 false l v) (hb : w.cell? ⟨B, 0, none⟩ = some (.int .i64 st)) :
    Calls Tryz.prog 97 #[v, .func (.func 98) #[] #[.pointer (some ⟨B, 0, none⟩)]] w (RetV (l.any (inBad st)) w) := by
  have hi := idxI_any l v st B w h hb
  obtain ⟨a, cap, rfl, _⟩ := h
  have HI := Lib.hid hi
  clear hi
  generalize (l.any (inBad st)) = b at *
  go_enter Tryz.func97, Tryz.ntmps97
  go_wp2_with fail
  refine HI.out.mono ?_
  rintro e w1 ⟨⟨n, rfl, hn⟩, hE⟩
  have HN := Lib.hid hn
  clear hn
  go_wp2_with fail
  go_ret
  exact retV (Bool.eq_iff_iff.2 (decide_eq_true_iff.trans HN.out)) hE
set_option maxHeartbeats 1000000 in
theorem idxF_any (l : List FlD) (v : Value) (st : Int) (B : Nat) (w : World) (h : RdFlV w 0 false l v) (hb : w.cell? ⟨B, 0, none⟩ = some (.int .i64 st)) :
    Calls Tryz.prog 128 #[v, .func (.func 101) #[] #[.pointer (some ⟨B, 0, none⟩)]] w (RetIxB (l.any (flBad st)) w) := by
  obtain ⟨a, cap, rfl, hrest⟩ := h
  have h : RdFlV w 0 false l (.slice a l.length cap) := ⟨_, _, rfl, hrest⟩
  have hn : l.length ≤ 9000000000000000000 := by have := hrest.1; unfold fitsR at this; omega
  clear hrest
  have hp := fun (x : FlD) (v : Value) (W : World) (hs : x.name.size ≤ maxLen) (hv : RdExV W 0 false x.body.args v) (hbn : x.body.name.size ≤ maxLen) (hE : Ext w W) => flBad_one x v st B W hs hv hbn (Ext.cell hE hb)
  have HP := Lib.hid hp
  clear hp
  generalize hpe : flBad st = P at *
  go_enter Tryz.func128, Tryz.ntmps128
  go_wp2_with fail
  go_loopw [8] (fun i wr => ∃ k : Nat, k ≤ l.length ∧ i = .int .i64 k ∧ (l.any P) = ((l.drop k).any P) ∧ Ext w wr) (fun i _ => l.length - (intOf i).toNat)
  case atStart => exact ⟨0, Nat.zero_le _, rfl, rfl, Chg.refl _ _⟩
  case round =>
    obtain ⟨k, hk, rfl, hE, hX⟩ := hrel
    have HE := Lib.hid hE
    clear hE
    by_cases hlt : k < l.length
    · have hx : l[k]? = some l[k] := List.getElem?_eq_getElem hlt
      have q1 : (k : Int) < (l.length : Int) := by omega
      have HS := Lib.hid (anyG_at (f := P) hx)
      obtain ⟨_, _, e, _, _, _, hr, _⟩ := h.ext hX
      simp only [Value.slice.injEq, true_and] at e
      obtain ⟨rfl, rfl⟩ := e
      obtain ⟨hnm, _, _, _, b, o, rfl, _, hlt2, c0, c1, c2, c3, _, _, hbn, v, hvx, c4, c5, c6, c7⟩ := hr k _ hx
      generalize l[k] = y at *
      clear hr hx
      go_wp2_with fail
      refine (show Calls _ _ _ _ (RetV (P y) wr) from HP.out y v wr hnm hvx hbn hX).mono ?_
      rintro e w1 ⟨he, hE1⟩
      cases hb : P y
      · rw [hb] at he
        subst he
        have H2 : Hid ((l.any P) = ((l.drop (k + 1)).any P)) := by
          show _ = _
          rw [HE.out, HS.out, hb, Bool.false_or]
        have hX1 := hX.trans hE1
        clear hX hE1
        go_wp2_with fail
        go_roundw
        case rel => exact ⟨k + 1, by omega, by go_num, H2.out, hX1⟩
        case measure => simp [intOf]; omega
      · rw [hb] at he
        subst he
        have H2 : Hid ((l.any P) = true) := by
          show _ = _
          rw [HE.out, HS.out, hb, Bool.true_or]
        go_wp2_with fail
        go_ret
        exact ⟨⟨k, rfl, by rw [H2.out]; simp⟩, hX.trans hE1⟩
    · obtain rfl : k = l.length := by omega
      have H2 := Lib.hid (HE.out.trans (show ((l.drop l.length).any P) = false by rw [List.drop_length]; rfl))
      go_wp2_with fail
      go_ret
      exact ⟨⟨(-1 : Int), rfl, by rw [H2.out]; exact ⟨fun h => absurd h (by decide), fun h => by cases h⟩⟩, hX⟩
theorem hasF_any (l : List FlD) (v : Value) (st : Int) (B : Nat) (w : World) (h : RdFlV w 0 false l v) (hb : w.cell? ⟨B, 0, none⟩ = some (.int .i64 st)) :
    Calls Tryz.prog 100 #[v, .func (.func 101) #[] #[.pointer (some ⟨B, 0, none⟩)]] w (RetV (l.any (flBad st)) w) := by
  have hi := idxF_any l v st B w h hb
  obtain ⟨a, cap, rfl, _⟩ := h
  have HI := Lib.hid hi
  clear hi
  generalize (l.any (flBad st)) = b at *
  go_enter Tryz.func100, Tryz.ntmps100
  go_wp2_with fail
  refine HI.out.mono ?_
  rintro e w1 ⟨⟨n, rfl, hn⟩, hE⟩
  have HN := Lib.hid hn
  clear hn
  go_wp2_with fail
  go_ret
  exact retV (Bool.eq_iff_iff.2 (decide_eq_true_iff.trans HN.out)) hE
set_option maxHeartbeats 1000000 in
theorem idxS_any (l : List ByteArray) (v : Value) (w : World) (h : RdStrV w 0 false l v) :
    Calls Tryz.prog 129 #[v, .func (.func 103) #[] #[]] w (RetIxB (l.any ((fun s : ByteArray => !nameP s))) w) := by
  obtain ⟨a, cap, rfl, hrest⟩ := h
  have h : RdStrV w 0 false l (.slice a l.length cap) := ⟨_, _, rfl, hrest⟩
  have hn : l.length ≤ 9000000000000000000 := by have := hrest.1; unfold fitsR at this; omega
  clear hrest
  have hp := fun (x : ByteArray) (W : World) (hs : x.size ≤ maxLen) => sBad_one x W hs
  have HP := Lib.hid hp
  clear hp
  generalize hpe : (fun s : ByteArray => !nameP s) = P at *
  go_enter Tryz.func129, Tryz.ntmps129
  go_wp2_with fail
  go_loopw [8] (fun i wr => ∃ k : Nat, k ≤ l.length ∧ i = .int .i64 k ∧ (l.any P) = ((l.drop k).any P) ∧ Ext w wr) (fun i _ => l.length - (intOf i).toNat)
  case atStart => exact ⟨0, Nat.zero_le _, rfl, rfl, Chg.refl _ _⟩
  case round =>
    obtain ⟨k, hk, rfl, hE, hX⟩ := hrel
    have HE := Lib.hid hE
    clear hE
    by_cases hlt : k < l.length
    · have hx : l[k]? = some l[k] := List.getElem?_eq_getElem hlt
      have q1 : (k : Int) < (l.length : Int) := by omega
      have HS := Lib.hid (anyG_at (f := P) hx)
      obtain ⟨_, _, e, _, _, _, hr, _⟩ := h.ext hX
      simp only [Value.slice.injEq, true_and] at e
      obtain ⟨rfl, rfl⟩ := e
      obtain ⟨hnm, b, o, rfl, _, hlt2, c0⟩ := hr k _ hx
      generalize l[k] = y at *
      clear hr hx
      go_wp2_with fail
      refine (show Calls _ _ _ _ (RetV (P y) wr) by rw [← hpe]; exact HP.out y wr hnm).mono ?_
      rintro e w1 ⟨he, hE1⟩
      cases hb : P y
      · rw [hb] at he
        subst he
        have H2 : Hid ((l.any P) = ((l.drop (k + 1)).any P)) := by
          show _ = _
          rw [HE.out, HS.out, hb, Bool.false_or]
        have hX1 := hX.trans hE1
        clear hX hE1
        go_wp2_with fail
        go_roundw
        case rel => exact ⟨k + 1, by omega, by go_num, H2.out, hX1⟩
        case measure => simp [intOf]; omega
      · rw [hb] at he
        subst he
        have H2 : Hid ((l.any P) = true) := by
          show _ = _
          rw [HE.out, HS.out, hb, Bool.true_or]
        go_wp2_with fail
        go_ret
        exact ⟨⟨k, rfl, by rw [H2.out]; simp⟩, hX.trans hE1⟩
    · obtain rfl : k = l.length := by omega
      have H2 := Lib.hid (HE.out.trans (show ((l.drop l.length).any P) = false by rw [List.drop_length]; rfl))
      go_wp2_with fail
      go_ret
      exact ⟨⟨(-1 : Int), rfl, by rw [H2.out]; exact ⟨fun h => absurd h (by decide), fun h => by cases h⟩⟩, hX⟩
theorem hasS_any (l : List ByteArray) (v : Value) (w : World) (h : RdStrV w 0 false l v) :
    Calls Tryz.prog 102 #[v, .func (.func 103) #[] #[]] w (RetV (l.any ((fun s : ByteArray => !nameP s))) w) := by
  have hi := idxS_any l v w h
  obtain ⟨a, cap, rfl, _⟩ := h
  have HI := Lib.hid hi
  clear hi
  generalize (l.any ((fun s : ByteArray => !nameP s))) = b at *
  go_enter Tryz.func102, Tryz.ntmps102
  go_wp2_with fail
  refine HI.out.mono ?_
  rintro e w1 ⟨⟨n, rfl, hn⟩, hE⟩
  have HN := Lib.hid hn
  clear hn
  go_wp2_with fail
  go_ret
  exact retV (Bool.eq_iff_iff.2 (decide_eq_true_iff.trans HN.out)) hE
end Go.Proofs.YtgkbhonjodcakaaGreat
namespace Go.Proofs.YtgkbhonjodcakaaGreat
open Go.RowKit
set_option linter.unusedVariables false
set_option linter.unusedSimpArgs false

set_option maxHeartbeats 2000000 in
theorem prCheck_any (p : PrD) (cs : Array Value) (w : World) (h : RdPr w 0 false p cs) : Calls Tryz.prog 64 #[.agg cs] w (RetV (progP p) w) := by
  obtain ⟨vi, vf, vo, rfl, hst, hi, hf, ho⟩ := h
  obtain ⟨ai, ci, rfl, ri⟩ := hi
  obtain ⟨af, cf, rfl, rf⟩ := hf
  obtain ⟨ao, co, rfl, ro⟩ := ho
  have hi : RdInV w 0 false p.ins (.slice ai p.ins.length ci) := ⟨_, _, rfl, ri⟩
  have hf : RdFlV w 0 false p.flows (.slice af p.flows.length cf) := ⟨_, _, rfl, rf⟩
  have ho : RdStrV w 0 false p.outs (.slice ao p.outs.length co) := ⟨_, _, rfl, ro⟩
  have n1 : p.ins.length ≤ 9000000000000000000 := by have := ri.1; unfold fitsR at this; omega
  have n2 : p.flows.length ≤ 9000000000000000000 := by have := rf.1; unfold fitsR at this; omega
  have n3 : p.outs.length ≤ 9000000000000000000 := by have := ro.1; unfold fitsR at this; omega
  clear ri rf ro
  have hP : progP p = (decide (1 ≤ p.st) && decide (p.st ≤ 8) && decide (p.ins.length ≤ 64) && decide (p.flows.length ≤ 128) && decide (p.outs.length ≤ p.ins.length + p.flows.length) && !(p.ins.any (inBad p.st)) && !(p.flows.any (flBad p.st)) && !(p.outs.any fun s => !nameP s)) := rfl
  have HP := Lib.hid hP
  clear hP
  have e0 : Ext w (w.alloc (.cells #[.int .i64 p.st, .slice ai p.ins.length ci, .slice af p.flows.length cf, .slice ao p.outs.length co] 26)) := (Chg.refl _ _).alloc _
  have xb : (w.alloc (.cells #[.int .i64 p.st, .slice ai p.ins.length ci, .slice af p.flows.length cf, .slice ao p.outs.length co] 26)).heap[w.heap.size]? = some (.cells #[.int .i64 p.st, .slice ai p.ins.length ci, .slice af p.flows.length cf, .slice ao p.outs.length co] 26 (0, 0)) := heap_alloc_new _ _
  have x0 := blk_cell xb 0
  have x1 := blk_cell xb 1
  have x2 := blk_cell xb 2
  have x3 := blk_cell xb 3
  simp only [List.getElem?_toArray, List.getElem?_cons_zero, List.getElem?_cons_succ] at x0 x1 x2 x3
  go_enter Tryz.func64, Tryz.ntmps64
  by_cases h1 : 1 ≤ p.st
  case neg =>
    go_wp2_with fail
    go_ret
    exact retV (by rw [HP.out, show decide (1 ≤ p.st) = false from decide_eq_false (by omega)]; simp only [Bool.false_and, Bool.and_false]) e0
  have h1' : ¬ p.st < 1 := by omega
  by_cases h2 : p.st ≤ 8
  case neg =>
    have h2' : 8 < p.st := by omega
    go_wp2_with fail
    go_ret
    exact retV (by rw [HP.out, show decide (p.st ≤ 8) = false from decide_eq_false (by omega)]; simp only [Bool.false_and, Bool.and_false]) e0
  have h2' : ¬ 8 < p.st := by omega
  by_cases h3 : p.ins.length ≤ 64
  case neg =>
    have h3' : (64 : Int) < (p.ins.length : Int) := by omega
    go_wp2_with fail
    go_ret
    exact retV (by rw [HP.out, show decide (p.ins.length ≤ 64) = false from decide_eq_false (by omega)]; simp only [Bool.false_and, Bool.and_false]) e0
  have h3' : ¬ (64 : Int) < (p.ins.length : Int) := by omega
  by_cases h4 : p.flows.length ≤ 128
  case neg =>
    have h4' : (128 : Int) < (p.flows.length : Int) := by omega
    go_wp2_with fail
    go_ret
    exact retV (by rw [HP.out, show decide (p.flows.length ≤ 128) = false from decide_eq_false (by omega)]; simp only [Bool.false_and, Bool.and_false]) e0
  have h4' : ¬ (128 : Int) < (p.flows.length : Int) := by omega
  by_cases h5 : p.outs.length ≤ p.ins.length + p.flows.length
  case neg =>
    have h5' : (p.ins.length : Int) + (p.flows.length : Int) < (p.outs.length : Int) := by omega
    go_wp2_with fail
    go_ret
    exact retV (by rw [HP.out, show decide (p.outs.length ≤ p.ins.length + p.flows.length) = false from decide_eq_false (by omega)]; simp only [Bool.false_and, Bool.and_false]) e0
  have h5' : ¬ (p.ins.length : Int) + (p.flows.length : Int) < (p.outs.length : Int) := by omega
  have HP2 : Hid (progP p = (!(p.ins.any (inBad p.st)) && !(p.flows.any (flBad p.st)) && !(p.outs.any fun s => !nameP s))) := by
    show _ = _
    rw [HP.out]
    simp only [h1, h2, h3, h4, h5, decide_true, Bool.true_and]
  clear HP
  have hiw := hi.ext e0
  have HF := Lib.hid hf
  have HO := Lib.hid ho
  clear hi hf ho h1 h2 h3 h4 h5
  go_wp2_with fail
  generalize (w.alloc (.cells #[.int .i64 p.st, .slice ai p.ins.length ci, .slice af p.flows.length cf, .slice ao p.outs.length co] 26)) = W0 at *
  refine (hasI_any p.ins _ p.st _ _ hiw x0).mono ?_
  rintro e w1 ⟨rfl, hE1⟩
  have E1 := e0.trans hE1
  have xb1 := Ext.heap hE1 xb
  clear x0 x1 x2 x3 hiw xb
  have x0 := blk_cell xb1 0
  have x1 := blk_cell xb1 1
  have x2 := blk_cell xb1 2
  have x3 := blk_cell xb1 3
  simp only [List.getElem?_toArray, List.getElem?_cons_zero, List.getElem?_cons_succ] at x0 x1 x2 x3
  generalize p.ins.any (inBad p.st) = b1 at *
  cases b1
  case true =>
    go_wp2_with fail
    go_ret
    exact retV (by rw [HP2.out]; rfl) E1
  have hfw := HF.out.ext E1
  go_wp2_with fail
  refine (hasF_any p.flows _ p.st _ _ hfw x0).mono ?_
  rintro e w2 ⟨rfl, hE2⟩
  have E2 := E1.trans hE2
  have xb2 := Ext.heap hE2 xb1
  clear x0 x1 x2 x3 hfw xb1
  have x3 := blk_cell xb2 3
  simp only [List.getElem?_toArray, List.getElem?_cons_zero, List.getElem?_cons_succ] at x3
  generalize p.flows.any (flBad p.st) = b2 at *
  cases b2
  case true =>
    go_wp2_with fail
    go_ret
    exact retV (by rw [HP2.out]; rfl) E2
  have how := HO.out.ext E2
  go_wp2_with fail
  refine (hasS_any p.outs _ _ how).mono ?_
  rintro e w3 ⟨rfl, hE3⟩
  generalize (p.outs.any fun s => !nameP s) = b3 at *
  go_wp2_with fail
  go_ret
  exact retV (by rw [HP2.out]; rfl) (E2.trans hE3)

end Go.Proofs.YtgkbhonjodcakaaGreat
namespace Go.Proofs.YtgkbhonjodcakaaGreat
open Go.RowKit Go.Shelf
set_option linter.unusedVariables false

theorem things_any (cs : Array Value) (a b c d : Value) (w : World) (h : cs = #[a, b, c, d]) : Calls Tryz.prog 65 #[.agg cs] w fun e w' =>
    e = .returned (.func (.func 105) #[] #[.pointer (some ⟨w.heap.size, 0, none⟩)]) ∧ w' = w.alloc (.cells cs 26) := by
  subst h
  go_enter Tryz.func65, Tryz.ntmps65
  go_wp2_with fail
  go_ret
  exact ⟨rfl, rfl⟩
/-- The world when the loop begins, but for the iterator's box. -/
def findW (w : World) (cs : Array Value) (s : ByteArray) : World := (((((w.alloc (.cells cs 26)).alloc (.cells #[.string s] 9)).alloc (.cells #[.int .i64 0] 3)).alloc (.cells #[.int .u8 0] 37)).alloc (.cells #[.int .i64 0] 3)).alloc (.cells #[.bool false] 4)
theorem findW_facts (w : World) (cs : Array Value) (s : ByteArray) : (findW w cs s).heap.size = w.heap.size + 6 ∧ Ext w (findW w cs s) ∧ Boxed (findW w cs s) (w.heap.size + 1) 9 (.string s) ∧ Boxed (findW w cs s) (w.heap.size + 1 + 1) 3 (.int .i64 0) ∧
    Boxed (findW w cs s) (w.heap.size + 1 + 1 + 1) 37 (.int .u8 0) ∧ Boxed (findW w cs s) (w.heap.size + 1 + 1 + 1 + 1) 3 (.int .i64 0) ∧ Boxed (findW w cs s) (w.heap.size + 1 + 1 + 1 + 1 + 1) 4 (.bool false) := by
  unfold findW
  refine ⟨by simp, (((((((Chg.refl _ _).alloc _).alloc _).alloc _).alloc _).alloc _).alloc _), ?_, ?_, ?_, ?_, ?_⟩
  · have := Boxed.new (w.alloc (.cells cs 26)) 9 (.string s)
    rw [World.size_alloc] at this
    exact (((this.alloc _).alloc _).alloc _).alloc _
  · have := Boxed.new ((w.alloc (.cells cs 26)).alloc (.cells #[.string s] 9)) 3 (.int .i64 0)
    simp only [World.size_alloc] at this
    exact ((this.alloc _).alloc _).alloc _
  · have := Boxed.new (((w.alloc (.cells cs 26)).alloc (.cells #[.string s] 9)).alloc (.cells #[.int .i64 0] 3)) 37 (.int .u8 0)
    simp only [World.size_alloc] at this
    exact (this.alloc _).alloc _
  · have := Boxed.new ((((w.alloc (.cells cs 26)).alloc (.cells #[.string s] 9)).alloc (.cells #[.int .i64 0] 3)).alloc (.cells #[.int .u8 0] 37)) 3 (.int .i64 0)
    simp only [World.size_alloc] at this
    exact this.alloc _
  · have := Boxed.new (((((w.alloc (.cells cs 26)).alloc (.cells #[.string s] 9)).alloc (.cells #[.int .i64 0] 3)).alloc (.cells #[.int .u8 0] 37)).alloc (.cells #[.int .i64 0] 3)) 4 (.bool false)
    simp only [World.size_alloc] at this
    exact this
/-- What the loop has found among the first. -/
def Miss (s : ByteArray) (pre : List Thing) : Prop := ∀ y, y ∈ pre → y.1 ≠ s
def Hit (s : ByteArray) (pre : List Thing) (x : Thing) : Prop := ∃ ys, pre = ys ++ [x] ∧ Miss s ys ∧ x.1 = s
def lookT (s : ByteArray) : List Thing → Int × Int × Int × Bool
  | [] => (0, 0, 0, false)
  | y :: r => if y.1 = s then (y.2.1, y.2.2.1, y.2.2.2, true) else lookT s r
theorem findFl_look (s : ByteArray) : ∀ (i : Nat) (l : List FlD), findFl s i l = lookT s (flTs i l)
  | _, [] => rfl
  | i, x :: r => by
    simp only [findFl, flTs, lookT, flT]
    rw [findFl_look s (i + 1) r]
    all_goals (by_cases hx : x.name = s <;> simp [hx])
theorem findP_look (s : ByteArray) (fl : List FlD) : ∀ l : List InD, findP s fl l = lookT s (l.map inT ++ flTs 0 fl)
  | [] => by simp [findP, findFl_look]
  | x :: r => by
    simp only [findP, List.map_cons, List.cons_append, lookT, inT]
    rw [findP_look s fl r]
    all_goals (by_cases hx : x.name = s <;> simp [hx])
theorem look_miss {s : ByteArray} : ∀ {l : List Thing}, Miss s l → lookT s l = (0, 0, 0, false)
  | [], _ => rfl
  | y :: r, h => by
    rw [lookT, if_neg (h y (by simp)), look_miss (fun z hz => h z (by simp [hz]))]
theorem look_hit {s : ByteArray} {x : Thing} {zs : List Thing} (hx : x.1 = s) : ∀ {ys : List Thing}, Miss s ys → lookT s (ys ++ x :: zs) = (x.2.1, x.2.2.1, x.2.2.2, true)
  | [], _ => by rw [List.nil_append, lookT, if_pos hx]
  | y :: r, h => by
    rw [List.cons_append, lookT, if_neg (h y (by simp)), look_hit hx (fun z hz => h z (by simp [hz]))]
theorem find_miss {s : ByteArray} {p : PrD} (h : Miss s (thingsL p)) : findP s p.flows p.ins = (0, 0, 0, false) := by rw [findP_look]; exact look_miss h
theorem find_hit {s : ByteArray} {p : PrD} {pre : List Thing} {x : Thing} {k : Nat} (hk : pre = (thingsL p).take k) (h : Hit s pre x) : findP s p.flows p.ins = (x.2.1, x.2.2.1, x.2.2.2, true) := by
  obtain ⟨ys, rfl, hm, hx⟩ := h
  have e : thingsL p = ys ++ x :: (thingsL p).drop k := by
    have := List.take_append_drop k (thingsL p)
    rw [← hk, List.append_assoc] at this
    exact this.symm
  rw [findP_look, show p.ins.map inT ++ flTs 0 p.flows = thingsL p from rfl, e]
  exact look_hit hx hm
theorem bkept {W W' : World} {row : Option Nat} {B N : Nat} {t : TypeId} {v : Value} (h : Boxed W B t v) (hg : W.grownBy W' row) (hr : ∀ r, row = some r → N ≤ r ∧ ∃ o : Obj, W.heap[r]? = some o ∧ o.isCells = false) : Boxed W' B t v :=
  boxed_own B t (fun _ : Unit => v) () W W' row h hg (fun r e => (hr r e).2)
theorem blkept {W W' : World} {row : Option Nat} {B N : Nat} {t : TypeId} {cs : Array Value} (h : W.heap[B]? = some (.cells cs t (0, 0))) (hg : W.grownBy W' row) (hr : ∀ r, row = some r → N ≤ r ∧ ∃ o : Obj, W.heap[r]? = some o ∧ o.isCells = false) : W'.heap[B]? = some (.cells cs t (0, 0)) :=
  (hg.block B (Array.getElem?_eq_some_iff.1 h).1 (fun e => by obtain ⟨_, o, ho, hc⟩ := hr B e.symm; rw [h] at ho; cases ho; cases hc)).trans h
/-- The four results' boxes and the name's. -/
def FBox (B : Nat) (s : ByteArray) (a b c : Int) (d : Bool) (W : World) : Prop := Boxed W (B + 1) 9 (.string s) ∧ Boxed W (B + 1 + 1) 3 (.int .i64 a) ∧ Boxed W (B + 1 + 1 + 1) 37 (.int .u8 b) ∧ Boxed W (B + 1 + 1 + 1 + 1) 3 (.int .i64 c) ∧ Boxed W (B + 1 + 1 + 1 + 1 + 1) 4 (.bool d)
theorem FBox.kept {B N : Nat} {s : ByteArray} {a b c : Int} {d : Bool} {W W' : World} {row : Option Nat} (h : FBox B s a b c d W) (hg : W.grownBy W' row) (hr : ∀ r, row = some r → N ≤ r ∧ ∃ o : Obj, W.heap[r]? = some o ∧ o.isCells = false) : FBox B s a b c d W' :=
  ⟨bkept h.1 hg hr, bkept h.2.1 hg hr, bkept h.2.2.1 hg hr, bkept h.2.2.2.1 hg hr, bkept h.2.2.2.2 hg hr⟩
/-- The four results' boxes written. -/
def fSets (B : Nat) (a b c : Int) (d : Bool) (W : World) : World := (((W.setCell ⟨B + 1 + 1, 0, none⟩ (.int .i64 a)).setCell ⟨B + 1 + 1 + 1, 0, none⟩ (.int .u8 b)).setCell ⟨B + 1 + 1 + 1 + 1, 0, none⟩ (.int .i64 c)).setCell ⟨B + 1 + 1 + 1 + 1 + 1, 0, none⟩ (.bool d)
theorem FBox.sets {B : Nat} {s : ByteArray} {a b c a' b' c' : Int} {d d' : Bool} {W : World} (h : FBox B s a b c d W) : FBox B s a' b' c' d' (fSets B a' b' c' d' W) := by
  obtain ⟨h1, h2, h3, h4, h5⟩ := h
  unfold fSets
  exact ⟨(((h1.other (by omega) _).other (by omega) _).other (by omega) _).other (by omega) _, ((Boxed.set (.int .i64 a') h2).other (by omega) _).other (by omega) _ |>.other (by omega) _,
    ((Boxed.set (.int .u8 b') (h3.other (by omega) _)).other (by omega) _).other (by omega) _, (Boxed.set (.int .i64 c') ((h4.other (by omega) _).other (by omega) _)).other (by omega) _,
    Boxed.set (.bool d') (((h5.other (by omega) _).other (by omega) _).other (by omega) _)⟩
theorem fSets_others (B : Nat) (a b c : Int) (d : Bool) (W : World) : KeepsOthers W (fSets B a b c d W) :=
  (((KeepsOthers.setCell _ _ _).trans (KeepsOthers.setCell _ _ _)).trans (KeepsOthers.setCell _ _ _)).trans (KeepsOthers.setCell _ _ _)
theorem fSets_below (B : Nat) (a b c : Int) (d : Bool) (w W : World) (hn : w.heap.size ≤ B) (hB : Below w.heap.size w W) : Below w.heap.size w (fSets B a b c d W) :=
  (((hB.setCell (p := ⟨B + 1 + 1, 0, none⟩) (by show _ ≤ B + 1 + 1; omega) _).setCell (p := ⟨B + 1 + 1 + 1, 0, none⟩) (by show _ ≤ B + 1 + 1 + 1; omega) _).setCell (p := ⟨B + 1 + 1 + 1 + 1, 0, none⟩) (by show _ ≤ B + 1 + 1 + 1 + 1; omega) _).setCell (p := ⟨B + 1 + 1 + 1 + 1 + 1, 0, none⟩) (by show _ ≤ B + 1 + 1 + 1 + 1 + 1; omega) _
/-- How the loop is left. -/
def FIx (w : World) (s : ByteArray) (c : Code) (pre : List Thing) (W : World) : Prop := (c = .ret ∧ ∃ x, Hit s pre x ∧ FBox w.heap.size s x.2.1 x.2.2.1 x.2.2.2 true W) ∧ Below w.heap.size w W
theorem FIx.own (w : World) (s : ByteArray) (B : Nat) (hB : w.heap.size ≤ B) (c : Code) : OwnFrom B (FIx w s c) := fun pre X Y row hs hg hr =>
  ⟨⟨hs.1.1, hs.1.2.choose, hs.1.2.choose_spec.1, hs.1.2.choose_spec.2.kept hg hr⟩, ownFrom_below (β := Unit) (Nat.le_refl _) hB () X Y row hs.2 hg hr⟩
attribute [local go_sem] Oper.semAt_some
set_option maxRecDepth 100000 in
set_option maxHeartbeats 4000000 in
theorem find_any (p : PrD) (s : ByteArray) (cs : Array Value) (w : World) (h : RdPr w 0 false p cs) : Calls Tryz.prog 32 #[.agg cs, .string s] w (RetFind w p s) := by
  obtain ⟨vi, vf, vo, rfl, _, hi, hf, ho⟩ := h
  obtain ⟨ai, ci, rfl, ri⟩ := hi
  obtain ⟨af, cf, rfl, rf⟩ := hf
  obtain ⟨ao, co, rfl, _⟩ := ho
  have hi : RdInV w 0 false p.ins (.slice ai p.ins.length ci) := ⟨_, _, rfl, ri⟩
  have hf : RdFlV w 0 false p.flows (.slice af p.flows.length cf) := ⟨_, _, rfl, rf⟩
  clear ri rf
  refine (callsIn_wide (n := 8)).1 ?_
  refine callsIn_of_wp_marks Tryz.func32 rfl trivial ?_ rfl
  simp only [Tryz.ntmps32, List.size_toArray, List.length_cons, List.length_nil, Nat.reduceAdd, Nat.reduceSub, Array.replicate_succ, Array.replicate_zero, List.push_toArray, List.append_toArray, List.nil_append, List.cons_append]
  gi_wp2
  refine ⟨trivial, (callsIn_wide.2 (things_any _ _ _ _ _ _ rfl)).mono ?_⟩
  rintro e w' ⟨rfl, rfl⟩
  obtain ⟨hs0, hE0, x1, x2, x3, x4, x5⟩ := findW_facts w #[.int .i64 p.st, .slice ai p.ins.length ci, .slice af p.flows.length cf, .slice ao p.outs.length co] s
  obtain ⟨A0, hA0⟩ : ∃ A, findW w #[.int .i64 p.st, .slice ai p.ins.length ci, .slice af p.flows.length cf, .slice ao p.outs.length co] s = A := ⟨_, rfl⟩
  rw [hA0] at hs0 hE0 x1 x2 x3 x4 x5
  unfold findW at hA0
  rw [hA0]
  clear hA0
  have y1 : (A0.alloc (.cells #[.int .i64 p.st, .slice ai p.ins.length ci, .slice af p.flows.length cf, .slice ao p.outs.length co] 26)).cell? ⟨w.heap.size + 6, 1, none⟩ = some (.slice ai p.ins.length ci) := by rw [World.cell?_alloc_at _ _ _ _ hs0.symm]; rfl
  have y2 : (A0.alloc (.cells #[.int .i64 p.st, .slice ai p.ins.length ci, .slice af p.flows.length cf, .slice ao p.outs.length co] 26)).cell? ⟨w.heap.size + 6, 2, none⟩ = some (.slice af p.flows.length cf) := by rw [World.cell?_alloc_at _ _ _ _ hs0.symm]; rfl
  have hE1 : Ext w (A0.alloc (.cells #[.int .i64 p.st, .slice ai p.ins.length ci, .slice af p.flows.length cf, .slice ao p.outs.length co] 26)) := hE0.alloc _
  have z1 := x1.alloc (.cells #[.int .i64 p.st, .slice ai p.ins.length ci, .slice af p.flows.length cf, .slice ao p.outs.length co] 26)
  have z2 := x2.alloc (.cells #[.int .i64 p.st, .slice ai p.ins.length ci, .slice af p.flows.length cf, .slice ao p.outs.length co] 26)
  have z3 := x3.alloc (.cells #[.int .i64 p.st, .slice ai p.ins.length ci, .slice af p.flows.length cf, .slice ao p.outs.length co] 26)
  have z4 := x4.alloc (.cells #[.int .i64 p.st, .slice ai p.ins.length ci, .slice af p.flows.length cf, .slice ao p.outs.length co] 26)
  have z5 := x5.alloc (.cells #[.int .i64 p.st, .slice ai p.ins.length ci, .slice af p.flows.length cf, .slice ao p.outs.length co] 26)
  have hsz : (A0.alloc (.cells #[.int .i64 p.st, .slice ai p.ins.length ci, .slice af p.flows.length cf, .slice ao p.outs.length co] 26)).heap.size = w.heap.size + 7 := by simp [hs0]
  rw [hs0]
  generalize A0.alloc (.cells #[.int .i64 p.st, .slice ai p.ins.length ci, .slice af p.flows.length cf, .slice ao p.outs.length co] 26) = W0 at *
  clear x1 x2 x3 x4 x5 hs0 hE0
  gi_wp2
  refine wpIn_rangeFunc_ownH rfl (by omega) (gf := 105) (lb := #[.pointer (some ⟨w.heap.size + 6, 0, none⟩)]) rfl trivial (enters_of Tryz.func105 (by kernel_rfl) rfl)
    (things_iter Fence.wide 7 trivial rfl (by omega) (w.heap.size + 6) p W0 ai af ao ci cf co (hi.ext hE1) (hf.ext hE1) (by omega) y1 y2) belowK_t (belowK_b (Nat.le_refl _)) (Below.refl _ _) (fun _ => rfl)
    (fun pre W => (Miss s pre ∧ FBox w.heap.size s 0 0 0 false W) ∧ Below W0.heap.size W0 W)
    (FIx w s)
    (OwnFrom.and (fun _ _ _ _ hs hg hr => ⟨hs.1, hs.2.kept hg hr⟩) (ownFrom_below (Nat.le_refl _) (Nat.le_refl _)))
    (FIx.own w s _ (by omega))
    ⟨⟨fun _ h => by simp at h, z1, z2, z3, z4, z5⟩, Below.refl _ _⟩
    (fun x a' W => ∃ Bx, W0.heap.size ≤ Bx ∧ W.heap[Bx]? = some (.cells #[.int .i64 x.2.1, .int .u8 x.2.2.1, .int .i64 x.2.2.2] 153 (0, 0)) ∧ a' = { tmps := #[.agg #[.int .i64 p.st, .slice ai p.ins.length ci, .slice af p.flows.length cf, .slice ao p.outs.length co], .string s, .pointer (some ⟨w.heap.size, 0, none⟩), .pointer (some ⟨w.heap.size + 1, 0, none⟩), .pointer (some ⟨w.heap.size + 1 + 1, 0, none⟩), .pointer (some ⟨w.heap.size + 1 + 1 + 1, 0, none⟩), .pointer (some ⟨w.heap.size + 1 + 1 + 1 + 1, 0, none⟩), .pointer (some ⟨w.heap.size + 1 + 1 + 1 + 1 + 1, 0, none⟩), .string x.1, .pointer (some ⟨Bx, 0, none⟩), .agg #[.int .i64 p.st, .slice ai p.ins.length ci, .slice af p.flows.length cf, .slice ao p.outs.length co], .func (.func 105) #[] #[.pointer (some ⟨w.heap.size + 6, 0, none⟩)], .string x.1, .agg #[.int .i64 x.2.1, .int .u8 x.2.2.1, .int .i64 x.2.2.2], undef, undef, undef, undef, undef, undef, undef, undef, undef], defers := [] })
    (fun x a' _ X Y row hs hg hr => by obtain ⟨Bx, h1, h2, h3⟩ := hs; exact ⟨Bx, h1, blkept h2 hg hr, h3⟩)
    ?assign ?body ?done ?stop
  case assign =>
    rintro l pre x W K ⟨⟨hm, b1, b2, b3, b4, b5⟩, hB⟩ hK
    simp only [thingV]
    gi_wp2
    exact hK _ _ ((KeepsOthers.alloc _ _).from _) ((Below.refl _ W).alloc hB.size _) ⟨⟨hm, b1.alloc _, b2.alloc _, b3.alloc _, b4.alloc _, b5.alloc _⟩, hB.alloc hB.size _⟩ ⟨W.heap.size, hB.size, World.alloc_heap_new W _, rfl⟩
  case body =>
    rintro l pre x a' W hl ⟨r, hr⟩ ⟨⟨hm, b1, b2, b3, b4, b5⟩, hB⟩ ⟨Bx, hBx, bX, rfl⟩ hlt
    have k1 := b1.cell
    have q0 := blk_cell bX 0
    have q1 := blk_cell bX 1
    have q2 := blk_cell bX 2
    have k2 := b2.cell
    have k3 := b3.cell
    have k4 := b4.cell
    have k5 := b5.cell
    have g2 := b2.frozen
    have g3 := b3.frozen
    have g4 := b4.frozen
    have g5 := b5.frozen
    gi_wp2
    · have hxs := str_eq.1 ‹(x.fst.toList == s.toList) = true›
      have n1 : Bx ≠ w.heap.size + 1 + 1 := by omega
      have n2 : Bx ≠ w.heap.size + 1 + 1 + 1 := by omega
      have n3 : Bx ≠ w.heap.size + 1 + 1 + 1 + 1 := by omega
      have n4 : Bx ≠ w.heap.size + 1 + 1 + 1 + 1 + 1 := by omega
      have q0' : W.cell? ⟨Bx, 0, none⟩ = some (.int .i64 x.2.1) := q0
      have q1' : W.cell? ⟨Bx, 1, none⟩ = some (.int .u8 x.2.2.1) := q1
      have q2' : W.cell? ⟨Bx, 2, none⟩ = some (.int .i64 x.2.2.2) := q2
      have hbox : FBox w.heap.size s x.2.1 x.2.2.1 x.2.2.2 true (World.drew (fSets w.heap.size x.2.1 x.2.2.1 x.2.2.2 true W)) := (FBox.sets (a := 0) (b := 0) (c := 0) (d := false) ⟨b1, b2, b3, b4, b5⟩ : FBox w.heap.size s x.2.1 x.2.2.1 x.2.2.2 true (fSets w.heap.size x.2.1 x.2.2.1 x.2.2.2 true W))
      have hko : KeepsFrom W0.heap.size W (World.drew (fSets w.heap.size x.2.1 x.2.2.1 x.2.2.2 true W)) := ((fSets_others w.heap.size x.2.1 x.2.2.1 x.2.2.2 true W).trans (KeepsOthers.drew _)).from _
      have hbw : Below w.heap.size w (World.drew (fSets w.heap.size x.2.1 x.2.2.1 x.2.2.2 true W)) := (fSets_below w.heap.size x.2.1 x.2.2.1 x.2.2.2 true w W (Nat.le_refl _) ((Ext.below hE1).trans (hB.mono (by omega)))).drew
      have HH := Lib.hid (show KeepsFrom W0.heap.size W (World.drew (fSets w.heap.size x.2.1 x.2.2.1 x.2.2.2 true W)) ∧ FIx w s .ret (pre ++ [x]) (World.drew (fSets w.heap.size x.2.1 x.2.2.1 x.2.2.2 true W)) from ⟨hko, ⟨rfl, x, ⟨pre, rfl, hm, hxs⟩, hbox⟩, hbw⟩)
      have hfol : Tryz.prog.follows .mixedOrders = true := by kernel_rfl
      clear q0 q1 q2 hE1 hB hm b1 b2 b3 b4 b5 hsz hxs hi hf y1 y2 z1 z2 z3 z4 z5 hl hr hBx bX hlt k1 hbox hko hbw
      gi_region_o
      all_goals (gi_wp2; exact HH.out)
    · have hxs := str_ne ‹(x.fst.toList == s.toList) = false›
      exact ⟨(KeepsOthers.refl _).from _, Below.refl _ _, ⟨fun y hy => (List.mem_append.1 hy).elim (hm y) (fun e => by simp at e; subst e; exact hxs), b1, b2, b3, b4, b5⟩, hB⟩
  case done =>
    rintro D ys W hD rfl ⟨⟨hm, b1, b2, b3, b4, b5⟩, hB⟩ hK
    have k2 := b2.cell
    have k3 := b3.cell
    have k4 := b4.cell
    have k5 := b5.cell
    have g2 := b2.frozen
    have g3 := b3.frozen
    have g4 := b4.frozen
    have g5 := b5.frozen
    have hbox : FBox w.heap.size s 0 0 0 false (fSets w.heap.size 0 0 0 false W) := FBox.sets ⟨b1, b2, b3, b4, b5⟩
    have hBw : Below w.heap.size w W := (Ext.below hE1).trans (hB.mono (by omega))
    have hBf := fSets_below w.heap.size 0 0 0 false w W (Nat.le_refl _) hBw
    have hK' := (fSets_others w.heap.size 0 0 0 false W).same D _ hK rfl
    have hp := grownBy_putObj' (fSets w.heap.size 0 0 0 false W) D (.deferred none)
    have hrr : ∀ r, some D = some r → 0 ≤ r ∧ ∃ o : Obj, (fSets w.heap.size 0 0 0 false W).heap[r]? = some o ∧ o.isCells = false := fun r e => by cases e; exact ⟨Nat.zero_le _, _, hK', rfl⟩
    have hb2 := hbox.kept hp hrr
    have d2 := hb2.2.1.cell
    have d3 := hb2.2.2.1.cell
    have d4 := hb2.2.2.2.1.cell
    have d5 := hb2.2.2.2.2.cell
    have hfin : Ext w ((fSets w.heap.size 0 0 0 false W).putObj D (.deferred none)) := Ext.of_below (hBf.trans (belowK_b (w := w) (Nat.le_refl _) _ D _ _ (by omega) hK' rfl rfl))
    clear hb2 hrr hp hBf hBw hbox
    gi_wp2
    refine ⟨by simp, .inl ⟨_, _, rfl, run_takeDeferred hK', ?_⟩⟩
    refine ⟨fourV (findP s p.flows p.ins), ?_, rfl, hfin⟩
    rw [find_miss hm]
    unfold fSets at d2 d3 d4 d5
    simp [results, Tryz.results32, go_sem, d2, d3, d4, d5, fourV]
  case stop =>
    rintro D c pre W hD ⟨k, _, hpre⟩ ⟨⟨rfl, x, hx, b1, b2, b3, b4, b5⟩, hB⟩ hK
    have hp := grownBy_putObj' W D (.deferred none)
    have hrr : ∀ r, some D = some r → 0 ≤ r ∧ ∃ o : Obj, W.heap[r]? = some o ∧ o.isCells = false := fun r e => by cases e; exact ⟨Nat.zero_le _, _, hK, rfl⟩
    have d2 := (bkept b2 hp hrr).cell
    have d3 := (bkept b3 hp hrr).cell
    have d4 := (bkept b4 hp hrr).cell
    have d5 := (bkept b5 hp hrr).cell
    have hfin : Ext w (W.putObj D (.deferred none)) := Ext.of_below (hB.trans (belowK_b (w := w) (Nat.le_refl _) W D _ _ (by omega) hK rfl rfl))
    gi_wp2
    refine ⟨by simp, .inl ⟨_, _, rfl, run_takeDeferred hK, ?_⟩⟩
    refine ⟨fourV (findP s p.flows p.ins), ?_, rfl, hfin⟩
    rw [find_hit hpre hx]
    simp [results, Tryz.results32, go_sem, d2, d3, d4, d5, fourV]
end Go.Proofs.YtgkbhonjodcakaaGreat
