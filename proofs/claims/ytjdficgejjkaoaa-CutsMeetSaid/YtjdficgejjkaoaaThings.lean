/- The iterator over a program's things. -/
import Derived.Test.YtjdficgejjkaoaaFind
import Derived.RangeFuncBox
import Derived.RangeFuncBound
import Derived.RangeFuncLeaves
import Derived.RangeFuncFrom
import Derived.Shelf.Abstract
import Derived.Shelf.RegionOpen
import Derived.WalkKit
import Derived.OwnWalkIn
import Derived.TacticsInMore
import Derived.LoopNIn
import Derived.LoopIn
namespace Go.Proofs.Ytjdficgejjkaoaa
open Go.RowKit Go.Shelf
attribute [local go_sem] Oper.semAt_some
set_option linter.unusedVariables false

abbrev Thing := ByteArray × Int × Int × Int
def thingV (x : Thing) : Array Value := #[.string x.1, .agg #[.int .i64 x.2.1, .int .u8 x.2.2.1, .int .i64 x.2.2.2]]
def inT (x : InD) : Thing := (x.name, x.st, x.ty, -1)
def flT (i : Nat) (x : FlD) : Thing := (x.name, x.st, x.ty, (i : Int))
def flTs : Nat → List FlD → List Thing
  | _, [] => []
  | i, x :: r => flT i x :: flTs (i + 1) r
def thingsL (p : PrD) : List Thing := p.ins.map inT ++ flTs 0 p.flows
theorem flTs_len : ∀ (i : Nat) (l : List FlD), (flTs i l).length = l.length
  | _, [] => rfl
  | i, x :: r => by simp [flTs, flTs_len (i + 1) r]
theorem flTs_at : ∀ (i : Nat) (l : List FlD) (k : Nat), k < l.length → (flTs i l)[k]? = (l[k]?).map (flT (i + k))
  | _, [], k, h => by simp at h
  | i, x :: r, 0, h => by simp [flTs]
  | i, x :: r, k + 1, h => by
    have := flTs_at (i + 1) r k (by simpa using h)
    simp only [flTs, List.getElem?_cons_succ]
    rw [this, show i + 1 + k = i + (k + 1) from by omega]
theorem thingsL_len (p : PrD) : (thingsL p).length = p.ins.length + p.flows.length := by simp [thingsL, flTs_len]
theorem take_in {p : PrD} {k : Nat} {x : InD} (h : p.ins[k]? = some x) : (thingsL p).take (k + 1) = (thingsL p).take k ++ [inT x] := by
  obtain ⟨hk, e⟩ := List.getElem?_eq_some_iff.1 h
  have hl : k < (thingsL p).length := by rw [thingsL_len]; omega
  rw [List.take_succ_eq_append_getElem hl]
  congr 2
  have : (thingsL p)[k]? = some (inT x) := by
    unfold thingsL
    rw [List.getElem?_append_left (by simpa using hk), List.getElem?_map, h]; rfl
  rw [List.getElem?_eq_getElem hl] at this
  exact Option.some.inj this
theorem take_fl {p : PrD} {k : Nat} {x : FlD} (h : p.flows[k]? = some x) : (thingsL p).take (p.ins.length + k + 1) = (thingsL p).take (p.ins.length + k) ++ [flT k x] := by
  obtain ⟨hk, e⟩ := List.getElem?_eq_some_iff.1 h
  have hl : p.ins.length + k < (thingsL p).length := by rw [thingsL_len]; omega
  rw [List.take_succ_eq_append_getElem hl]
  congr 2
  have : (thingsL p)[p.ins.length + k]? = some (flT k x) := by
    unfold thingsL
    rw [List.getElem?_append_right (by simp), List.length_map, Nat.add_sub_cancel_left, flTs_at 0 _ k hk, h]; simp
  rw [List.getElem?_eq_getElem hl] at this
  exact Option.some.inj this
set_option maxRecDepth 100000 in
set_option maxHeartbeats 4000000 in
theorem things_iter (F : Fence) (n : Nat) (hf : F.fn 80) (hro : F.round = none) (hn : 1 ≤ n) (Bs : Nat) (p : PrD) (w : World) (ai af ao : Option Addr) (ci cf co : Nat)
    (hi : RdInV w 0 false p.ins (.slice ai p.ins.length ci)) (hfl : RdFlV w 0 false p.flows (.slice af p.flows.length cf)) (hB : Bs < w.heap.size)
    (b1 : w.cell? ⟨Bs, 1, none⟩ = some (.slice ai p.ins.length ci)) (b2 : w.cell? ⟨Bs, 2, none⟩ = some (.slice af p.flows.length cf)) :
    SeqStopsK F n Try.prog 80 #[.pointer (some ⟨Bs, 0, none⟩)] thingV (Below w.heap.size) (fun ys => ys = thingsL p) (fun pre => ∃ k, k ≤ (thingsL p).length ∧ pre = (thingsL p).take k) (thingsL p).length w := fun l J Jx W hW hJ hJx hY h0 => by
  have n1 : p.ins.length ≤ 9000000000000000000 := by obtain ⟨_, _, e, h, _⟩ := hi; unfold fitsR at h; omega
  have n2 : p.flows.length ≤ 9000000000000000000 := by obtain ⟨_, _, e, h, _⟩ := hfl; unfold fitsR at h; omega
  have hE0 : Ext w W := Ext.of_below hW
  have y1 := hE0.cell b1
  have hal : ∀ (pre : List Thing) (wr : World) (o : Obj), J pre wr → J pre (wr.alloc o) := fun pre wr o h => hJ pre wr _ none h ⟨rfl, rfl, rfl, by simp, fun k hk _ => Below.heap_alloc _ _ _ hk⟩ (fun r e => by cases e)
  refine callsIn_of_wp Try.func80 rfl hf ?_ hro
  simp only [Try.ntmps80, List.size_toArray, List.length_cons, List.length_nil, Nat.reduceAdd, Nat.reduceSub, Array.replicate_succ, Array.replicate_zero, List.push_toArray, List.append_toArray, List.nil_append, List.cons_append]
  gi_wp2
  gi_loopw [10] (fun i wr => ∃ k : Nat, k ≤ p.ins.length ∧ i = .int .i64 k ∧ J ((thingsL p).take k) wr ∧ Ext w wr) (fun i _ => p.ins.length - (intOf i).toNat)
  case atStart => exact ⟨0, Nat.zero_le _, rfl, h0, hE0⟩
  case round =>
    obtain ⟨k, hk, rfl, hJs, hE⟩ := hrel
    by_cases hlt : k < p.ins.length
    · have hx := List.getElem?_eq_getElem hlt
      obtain ⟨_, _, e, _, _, _, hr, _⟩ := hi.ext hE
      simp only [Value.slice.injEq, true_and] at e
      obtain ⟨rfl, rfl⟩ := e
      obtain ⟨_, _, _, b, o, rfl, _, hb, c0, c1, c2⟩ := hr k _ hx
      have htk := take_in hx
      generalize p.ins[k] = x at *
      have hJ2 := hal _ wr (.cells #[.string x.name, .int .u8 x.ty, .int .i64 x.st] 59) hJs
      obtain ⟨fn, tmps, assign, body, hy, hR⟩ := hY _ (inT x) _ hJ2 (by rw [List.length_take, thingsL_len]; omega)
      simp only [thingV, inT] at hy
      gi_wp2
      refine hR.mono ?_
      rintro e W3 (⟨rfl, hJ3, hk3⟩ | ⟨rfl, hJx3⟩)
      · have hE3 : Ext w W3 := Ext.of_below ((Ext.below (Chg.alloc hE _)).trans hk3)
        rw [← htk] at hJ3
        have H3 := Lib.hid hJ3
        clear hJ3 hk3 hy hR hr hJ2 hJs hE
        gi_wp2
        go_roundw
        case rel => exact ⟨k + 1, by omega, by go_num, H3.out, hE3⟩
        case measure => simp [intOf]; omega
      · rw [← htk] at hJx3
        have H3 := Lib.hid hJx3
        clear hJx3 hy hR hr hJ2 hJs hE
        gi_wp2
        refine bodyPost_ret (results_none rfl _ _ _) rfl ?_
        exact ⟨⟨_, rfl⟩, .inr ⟨_, ⟨k + 1, by rw [thingsL_len]; omega, rfl⟩, H3.out⟩⟩
    · obtain rfl : k = p.ins.length := by omega
      have y2 := hE.cell b2
      gi_wp2
      gi_loopw [28] (fun i wr => ∃ k : Nat, k ≤ p.flows.length ∧ i = .int .i64 k ∧ J ((thingsL p).take (p.ins.length + k)) wr ∧ Ext w wr) (fun i _ => p.flows.length - (intOf i).toNat)
      case atStart => exact ⟨0, Nat.zero_le _, rfl, hJs, hE⟩
      case round =>
        clear hJs hE y2
        obtain ⟨k, hk, rfl, hJs, hE⟩ := hrel
        by_cases hlt : k < p.flows.length
        · have hx := List.getElem?_eq_getElem hlt
          obtain ⟨_, _, e, _, _, _, hr, _⟩ := hfl.ext hE
          simp only [Value.slice.injEq, true_and] at e
          obtain ⟨rfl, rfl⟩ := e
          obtain ⟨_, _, _, _, b, o, rfl, _, hb, c0, c1, c2, c3, _, _, _, v, hvx, c4, c5, c6, c7⟩ := hr k _ hx
          obtain ⟨va, vc, rfl, _⟩ := hvx
          have htk := take_fl hx
          generalize p.flows[k] = x at *
          have hJ2 := hal _ wr (.cells #[.string x.name, .int .u8 x.ty, .int .i64 x.st, .int .i64 x.df, .int .u8 x.body.op, .int .i64 x.body.n, .string x.body.name, .slice va x.body.args.length vc] 55) hJs
          obtain ⟨fn, tmps, assign, body, hy, hR⟩ := hY _ (flT k x) _ hJ2 (by rw [List.length_take, thingsL_len]; omega)
          simp only [thingV, flT] at hy
          clear hr
          gi_wp2
          refine hR.mono ?_
          rintro e W3 (⟨rfl, hJ3, hk3⟩ | ⟨rfl, hJx3⟩)
          · have hE3 : Ext w W3 := Ext.of_below ((Ext.below (Chg.alloc hE _)).trans hk3)
            rw [← htk] at hJ3
            have H3 := Lib.hid hJ3
            clear hJ3 hk3 hy hR hJ2 hJs hE
            gi_wp2
            go_roundw
            case rel => exact ⟨k + 1, by omega, by go_num, H3.out, hE3⟩
            case measure => simp [intOf]; omega
          · rw [← htk] at hJx3
            have H3 := Lib.hid hJx3
            clear hJx3 hy hR hJ2 hJs hE
            gi_wp2
            refine bodyPost_ret (results_none rfl _ _ _) rfl ?_
            exact ⟨⟨_, rfl⟩, .inr ⟨_, ⟨p.ins.length + k + 1, by rw [thingsL_len]; omega, rfl⟩, H3.out⟩⟩
        · obtain rfl : k = p.flows.length := by omega
          rw [← thingsL_len, List.take_length] at hJs
          have H3 := Lib.hid hJs
          clear hJs
          gi_wp2
          go_end0
          exact ⟨⟨_, rfl⟩, .inl ⟨_, rfl, H3.out⟩⟩
end Go.Proofs.Ytjdficgejjkaoaa
