/- The iterator over a program's things, for a round that writes. -/
import Derived.Test.YtjdficgejjkaoaaThings
import Derived.Test.YtjdficgejjkaoaaStrMap
namespace Go.Proofs.Ytjdficgejjkaoaa
open Go.RowKit Go.Shelf
attribute [local go_sem] Oper.semAt_some
set_option linter.unusedVariables false
set_option linter.unusedSimpArgs false

/-- What a round may write: nothing that lay ahead of w0, nor the iterator's box. -/
def KpS (n0 Bs : Nat) (k : Nat) : Prop := n0 ≤ k ∧ k ≠ Bs
def clipS (s : ByteArray) : ByteArray := if s.size ≤ maxLen then s else ⟨#[]⟩
theorem clipS_size (s : ByteArray) : (clipS s).size ≤ maxLen := by
  unfold clipS
  split
  · assumption
  · decide
theorem clipS_same {s : ByteArray} (h : s.size ≤ maxLen) : clipS s = s := by unfold clipS; rw [if_pos h]
/-- A thing's value, of a name that may be. -/
def thingC (x : Thing) : Array Value := #[.string (clipS x.1), .agg #[.int .i64 x.2.1, .int .u8 x.2.2.1, .int .i64 x.2.2.2]]
theorem kpC_t {S : Nat → Prop} {A B C : World} (h : Chg S A B) (k : Chg S B C) : Chg S A C := h.trans k
theorem kpC_b {n0 Bs : Nat} {w : World} (hn : n0 ≤ w.heap.size) (hB : Bs < w.heap.size) (W : World) (l : Nat) (o o' : Obj) (hl : w.heap.size ≤ l) (h : W.heap[l]? = some o) (_ : o.isCells = false) (_ : o.isWalk = false) : Chg (KpS n0 Bs) W (W.putObj l o') := by
  have hg := grownBy_putObj' W l o'
  exact ⟨hg.os, hg.tape, hg.output, hg.size, fun k hk hS => hg.block k hk (fun e => by
    simp only [Option.some.injEq] at e
    subst e
    exact hS ⟨by omega, by omega⟩)⟩
set_option maxRecDepth 100000 in
set_option maxHeartbeats 4000000 in
theorem things_iterC (F : Fence) (n : Nat) (hf : F.fn 80) (hro : F.round = none) (hn : 1 ≤ n) (Bs : Nat) (p : PrD) (w0 w : World) (hE0 : Ext w0 w) (ai af ao : Option Addr) (ci cf co : Nat)
    (hi : RdInV w0 0 false p.ins (.slice ai p.ins.length ci)) (hfl : RdFlV w0 0 false p.flows (.slice af p.flows.length cf)) (hB : Bs < w.heap.size)
    (b1 : w.cell? ⟨Bs, 1, none⟩ = some (.slice ai p.ins.length ci)) (b2 : w.cell? ⟨Bs, 2, none⟩ = some (.slice af p.flows.length cf)) :
    SeqStopsK F n Try.prog 80 #[.pointer (some ⟨Bs, 0, none⟩)] thingC (Chg (KpS w0.heap.size Bs)) (fun ys => ys = thingsL p) (fun pre => ∃ k, k ≤ (thingsL p).length ∧ pre = (thingsL p).take k) (thingsL p).length w := fun l J Jx W hW hJ hJx hY h0 => by
  have n1 : p.ins.length ≤ 9000000000000000000 := by obtain ⟨_, _, e, h, _⟩ := hi; unfold fitsR at h; omega
  have n2 : p.flows.length ≤ 9000000000000000000 := by obtain ⟨_, _, e, h, _⟩ := hfl; unfold fitsR at h; omega
  have hC0 : Chg (KpS w0.heap.size Bs) w W := (Ext.of_below hW).mono (fun _ _ h => h.elim)
  have hnB : ¬ KpS w0.heap.size Bs Bs := fun h => h.2 rfl
  have hX : ∀ {V : World}, Chg (KpS w0.heap.size Bs) w V → Ext w0 V := fun h => Ext.then hE0 h (fun b hb => hb.1)
  have y1 := hC0.cell b1 hnB
  have hal : ∀ (pre : List Thing) (wr : World) (o : Obj), J pre wr → J pre (wr.alloc o) := fun pre wr o h => hJ pre wr _ none h ⟨rfl, rfl, rfl, by simp, fun k hk _ => Below.heap_alloc _ _ _ hk⟩ (fun r e => by cases e)
  refine callsIn_of_wp Try.func80 rfl hf ?_ hro
  simp only [Try.ntmps80, List.size_toArray, List.length_cons, List.length_nil, Nat.reduceAdd, Nat.reduceSub, Array.replicate_succ, Array.replicate_zero, List.push_toArray, List.append_toArray, List.nil_append, List.cons_append]
  gi_wp2
  gi_loopw [10] (fun i wr => ∃ k : Nat, k ≤ p.ins.length ∧ i = .int .i64 k ∧ J ((thingsL p).take k) wr ∧ Chg (KpS w0.heap.size Bs) w wr) (fun i _ => p.ins.length - (intOf i).toNat)
  case atStart => exact ⟨0, Nat.zero_le _, rfl, h0, hC0⟩
  case round =>
    obtain ⟨k, hk, rfl, hJs, hE⟩ := hrel
    by_cases hlt : k < p.ins.length
    · have hx := List.getElem?_eq_getElem hlt
      obtain ⟨_, _, e, _, _, _, hr, _⟩ := hi.ext (hX hE)
      simp only [Value.slice.injEq, true_and] at e
      obtain ⟨rfl, rfl⟩ := e
      obtain ⟨hnm, _, _, b, o, rfl, _, hb, c0, c1, c2⟩ := hr k _ hx
      have htk := take_in hx
      generalize p.ins[k] = x at *
      have hJ2 := hal _ wr (.cells #[.string x.name, .int .u8 x.ty, .int .i64 x.st] 59) hJs
      obtain ⟨fn, tmps, assign, body, hy, hR⟩ := hY _ (inT x) _ hJ2 (by rw [List.length_take, thingsL_len]; omega)
      simp only [thingC, inT] at hy
      rw [clipS_same hnm] at hy
      gi_wp2
      refine hR.mono ?_
      rintro e W3 (⟨rfl, hJ3, hk3⟩ | ⟨rfl, hJx3⟩)
      · have hE3 : Chg (KpS w0.heap.size Bs) w W3 := (Chg.alloc hE _).trans hk3
        rw [← htk] at hJ3
        have H3 := Lib.hid hJ3
        clear hJ3 hk3 hy hR hr hJ2 hJs hE
        gi_wp2
        go_roundw
        case rel => exact ⟨k + 1, by omega, by go_num, H3.out, hE3⟩
        case measure => simp [intOf]; omega
      · rw [← htk] at hJx3
        have H3 := Lib.hid hJx3
        clear hJx3 hy hR hr hJ2 hJs hE
        gi_wp2
        refine bodyPost_ret (results_none rfl _ _ _) rfl ?_
        exact ⟨⟨_, rfl⟩, .inr ⟨_, ⟨k + 1, by rw [thingsL_len]; omega, rfl⟩, H3.out⟩⟩
    · obtain rfl : k = p.ins.length := by omega
      have y2 := hE.cell b2 hnB
      gi_wp2
      gi_loopw [28] (fun i wr => ∃ k : Nat, k ≤ p.flows.length ∧ i = .int .i64 k ∧ J ((thingsL p).take (p.ins.length + k)) wr ∧ Chg (KpS w0.heap.size Bs) w wr) (fun i _ => p.flows.length - (intOf i).toNat)
      case atStart => exact ⟨0, Nat.zero_le _, rfl, hJs, hE⟩
      case round =>
        clear hJs hE y2
        obtain ⟨k, hk, rfl, hJs, hE⟩ := hrel
        by_cases hlt : k < p.flows.length
        · have hx := List.getElem?_eq_getElem hlt
          obtain ⟨_, _, e, _, _, _, hr, _⟩ := hfl.ext (hX hE)
          simp only [Value.slice.injEq, true_and] at e
          obtain ⟨rfl, rfl⟩ := e
          obtain ⟨hnm, _, _, _, b, o, rfl, _, hb, c0, c1, c2, c3, _, _, _, v, hvx, c4, c5, c6, c7⟩ := hr k _ hx
          obtain ⟨va, vc, rfl, _⟩ := hvx
          have htk := take_fl hx
          generalize p.flows[k] = x at *
          have hJ2 := hal _ wr (.cells #[.string x.name, .int .u8 x.ty, .int .i64 x.st, .int .i64 x.df, .int .u8 x.body.op, .int .i64 x.body.n, .string x.body.name, .slice va x.body.args.length vc] 55) hJs
          obtain ⟨fn, tmps, assign, body, hy, hR⟩ := hY _ (flT k x) _ hJ2 (by rw [List.length_take, thingsL_len]; omega)
          simp only [thingC, flT] at hy
          rw [clipS_same hnm] at hy
          clear hr
          gi_wp2
          refine hR.mono ?_
          rintro e W3 (⟨rfl, hJ3, hk3⟩ | ⟨rfl, hJx3⟩)
          · have hE3 : Chg (KpS w0.heap.size Bs) w W3 := (Chg.alloc hE _).trans hk3
            rw [← htk] at hJ3
            have H3 := Lib.hid hJ3
            clear hJ3 hk3 hy hR hJ2 hJs hE
            gi_wp2
            go_roundw
            case rel => exact ⟨k + 1, by omega, by go_num, H3.out, hE3⟩
            case measure => simp [intOf]; omega
          · rw [← htk] at hJx3
            have H3 := Lib.hid hJx3
            clear hJx3 hy hR hJ2 hJs hE
            gi_wp2
            refine bodyPost_ret (results_none rfl _ _ _) rfl ?_
            exact ⟨⟨_, rfl⟩, .inr ⟨_, ⟨p.ins.length + k + 1, by rw [thingsL_len]; omega, rfl⟩, H3.out⟩⟩
        · obtain rfl : k = p.flows.length := by omega
          rw [← thingsL_len, List.take_length] at hJs
          have H3 := Lib.hid hJs
          clear hJs
          gi_wp2
          go_end0
          exact ⟨⟨_, rfl⟩, .inl ⟨_, rfl, H3.out⟩⟩
end Go.Proofs.Ytjdficgejjkaoaa
