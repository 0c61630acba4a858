/- The twins: copies in new memory with a mark in the room behind each list. -/
import Derived.Test.YtjdficgejjkaoaaSize
import Derived.RangeFuncBox
import Derived.Maps.AppendAt
namespace Go.Proofs.Ytjdficgejjkaoaa
open Go.RowKit
set_option linter.unusedVariables false

theorem infoStr : (Try.prog.info? 9).map (fun i => (i.zero, i.size, i.bytes)) = some (some (.string ByteArray.empty), 1, 16) := by kernel_rfl
theorem infoIn : (Try.prog.info? 59).map (fun i => (i.zero, i.size, i.bytes)) = some (some (.agg #[.string ByteArray.empty, .int .u8 0, .int .i64 0]), 3, 32) := by kernel_rfl

/-- A row of the call's own, and its slice up to n of its m cells. -/
def TwRow (w : World) (E sz : Nat) (n : Nat) (css : List Value) (w' : World) (v : Value) : Prop :=
  ∃ g, v = .slice (some ⟨g, 0, none⟩) n (n + 1) ∧ w.heap.size ≤ g ∧ w'.ownsRow w.heap.size E sz (.slice (some ⟨g, 0, none⟩) (n + 1) (n + 1)) (n + 1) css ∧ Ext w w'
def RetTwStr (w : World) (l : List ByteArray) (e : Ending) (w' : World) : Prop := ∃ v, e = .returned v ∧ TwRow w 9 1 l.length (l.map Value.string ++ [.string spareS]) w' v

set_option maxHeartbeats 1000000 in
theorem twinTexts_any (l : List ByteArray) (v : Value) (w : World) (h : RdStrV w 0 false l v) : Calls Try.prog 34 #[v] w (RetTwStr w l) := by
  obtain ⟨a, cap, rfl, hf, hl, hm, hr, _⟩ := h
  unfold fitsR at hf
  have hn : l.length ≤ 9000000000000000000 := by omega
  obtain ⟨i0, hi, hz0, hz1, hz2⟩ := info_parts infoStr
  go_enter Try.func34, Try.ntmps34
  go_wp2_with (at_make; refine wpList_make_own _ rfl _ _ 24 rfl w.heap.size 9 i0 _ 1 Try.underlying24 hi hz0 hz1 .i64 .i64 _ (l.length + 1) rfl rfl (by omega) (by rw [hz2]; omega) (by unfold maxLen; omega) (Nat.le_refl _) ?_; intro w1 hown1 hg1)
  have E1 : Ext w w1 := ⟨hg1.os, hg1.tape, hg1.output, hg1.size, fun k hk _ => hg1.block k hk (by simp)⟩
  clear hg1
  go_wp2_with fail
  go_loopw [3, 4] (fun t i wr => ∃ k : Nat, k ≤ l.length ∧ i = .int .i64 k ∧ t = .slice (some ⟨w.heap.size, 0, none⟩) k (l.length + 1) ∧ wr.ownsRow w.heap.size 9 1 (.slice (some ⟨w.heap.size, 0, none⟩) k (l.length + 1)) k ((l.take k).map Value.string) ∧ Ext w wr)
    (fun _ i _ => l.length - (intOf i).toNat)
  case atStart => exact ⟨0, Nat.zero_le _, rfl, rfl, by simpa using hown1, E1⟩
  case round =>
    obtain ⟨k, hk, rfl, rfl, hown, hE⟩ := hrel
    clear hown1 E1
    by_cases hlt : k < l.length
    · obtain ⟨_, b, o, rfl, _, hb, hc⟩ := hr k _ (List.getElem?_eq_getElem hlt)
      have hc' := hE.cell hc
      have hsz := hE.size
      go_wp2_with (at_builtin; refine wpList_append_fits _ rfl _ _ 24 rfl w.heap.size 9 i0 1 Try.underlying24 hi hz1 w.heap.size k (l.length + 1) _ rfl (hown.alloc _) ⟨wr.heap.size, 0, none⟩ 1 1 [.string l[k]] rfl rfl (cell_one_new _ _ _) (by simp [Value.oneCell']) (by omega) ?_; intro w2 hown2 hg2)
      have hE2 : Ext w w2 := hE.then (Chg.of_alloc_grown hg2) (fun q hq => by omega)
      have ho2 : w2.ownsRow w.heap.size 9 1 (.slice (some ⟨w.heap.size, 0, none⟩) (k + 1) (l.length + 1)) (k + 1) ((l.take (k + 1)).map Value.string) := by
        rw [List.take_succ_eq_append_getElem hlt, List.map_append]; exact hown2
      clear hown hown2 hg2 hE hc' hc
      have HO := Lib.hid ho2
      clear ho2
      go_wp2_with fail
      go_roundw
      case rel => exact ⟨k + 1, by omega, by go_num, rfl, HO.out, hE2⟩
      case measure => simp [intOf]; omega
    · obtain rfl : k = l.length := by omega
      rw [List.take_length] at hown
      have hsz := hE.size
      go_wp2_with (at_builtin; refine wpList_append_fits _ rfl _ _ 24 rfl w.heap.size 9 i0 1 Try.underlying24 hi hz1 w.heap.size l.length (l.length + 1) _ rfl (hown.alloc _) ⟨wr.heap.size, 0, none⟩ 1 1 [.string spareS] rfl rfl (cell_one_new _ _ _) (by simp [Value.oneCell']) (by omega) ?_; intro w2 hown2 hg2)
      have hE2 : Ext w w2 := hE.then (Chg.of_alloc_grown hg2) (fun q hq => by omega)
      have HO := Lib.hid hown2
      clear hown hown2 hg2 hE
      have hle : (l.length : Int) ≤ (l.length : Int) + 1 := by omega
      go_wp2_with fail
      go_ret
      exact ⟨_, rfl, _, rfl, Nat.le_refl _, HO.out, hE2⟩
theorem TwStr.rd {w w' : World} {l : List ByteArray} {v : Value} (h : TwRow w 9 1 l.length (l.map Value.string ++ [.string spareS]) w' v) (hs : ∀ x, x ∈ l → x.size ≤ maxLen) (hf : fitsR l.length 16) : RdStrV w' w.heap.size true l v := by
  obtain ⟨g, rfl, hg, ho, he⟩ := h
  unfold fitsR at hf
  have hlt := (ho.lt g rfl).2
  refine ⟨_, _, rfl, hf, by omega, by unfold maxLen; omega, fun i x hx => ⟨hs x (List.mem_of_getElem? hx), g, 0, rfl, hg, hlt, ?_⟩, fun _ => ⟨by omega, g, 0, rfl, hg, hlt, ?_⟩⟩
  · have hi : i < l.length := (List.getElem?_eq_some_iff.1 hx).1
    rw [Nat.zero_add, ho.cellAt i (by omega), List.getElem?_append_left (by simpa using hi), List.getElem?_map, hx]; rfl
  · rw [Nat.zero_add, ho.cellAt l.length (by omega), List.getElem?_append_right (by simp)]; simp
theorem flat_len {α : Type} {f : α → List Value} {sz : Nat} (hf : ∀ x, (f x).length = sz) : ∀ l : List α, (l.flatMap f).length = l.length * sz
  | [] => by simp
  | x :: l => by rw [List.flatMap_cons, List.length_append, flat_len hf l, hf, List.length_cons, Nat.succ_mul]; omega
theorem flat_at {α : Type} {f : α → List Value} {sz : Nat} (hf : ∀ x, (f x).length = sz) : ∀ {l : List α} {i : Nat} {x : α} (r : List Value), l[i]? = some x → ∀ {j : Nat}, j < sz → ((l.flatMap f) ++ r)[i * sz + j]? = (f x)[j]?
  | [], i, x, r, h, j, hj => by simp at h
  | y :: l, 0, x, r, h, j, hj => by
    simp only [List.getElem?_cons_zero, Option.some.injEq] at h
    subst h
    rw [List.flatMap_cons, Nat.zero_mul, Nat.zero_add, List.append_assoc, List.getElem?_append_left (by rw [hf]; exact hj)]
  | y :: l, i + 1, x, r, h, j, hj => by
    simp only [List.getElem?_cons_succ] at h
    have := flat_at hf r h hj
    rw [List.flatMap_cons, List.append_assoc, List.getElem?_append_right (by rw [hf, Nat.succ_mul]; omega), hf, Nat.succ_mul, show i * sz + sz + j - sz = i * sz + j from by omega]
    exact this
theorem flat_end {α : Type} {f : α → List Value} {sz : Nat} (hf : ∀ x, (f x).length = sz) (l : List α) (r : List Value) (j : Nat) : ((l.flatMap f) ++ r)[l.length * sz + j]? = r[j]? := by
  rw [List.getElem?_append_right (by rw [flat_len hf]; omega), flat_len hf, show l.length * sz + j - l.length * sz = j from by omega]
theorem flat_take {α : Type} (f : α → List Value) (l : List α) (k : Nat) (h : k < l.length) : (l.take (k + 1)).flatMap f = (l.take k).flatMap f ++ f l[k] := by
  rw [List.take_succ_eq_append_getElem h, List.flatMap_append]; simp

def inC (x : InD) : List Value := [.string x.name, .int .u8 x.ty, .int .i64 x.st]
def RetTwIn (w : World) (l : List InD) (e : Ending) (w' : World) : Prop := ∃ v, e = .returned v ∧ TwRow w 59 3 l.length (l.flatMap inC ++ [.string spareS, .int .u8 0, .int .i64 0]) w' v
set_option maxHeartbeats 1000000 in
theorem twinIns_any (l : List InD) (v : Value) (w : World) (h : RdInV w 0 false l v) : Calls Try.prog 32 #[v] w (RetTwIn w l) := by
  obtain ⟨a, cap, rfl, hf, hl, hm, hr, _⟩ := h
  unfold fitsR at hf
  have hn : l.length ≤ 9000000000000000000 := by omega
  obtain ⟨i0, hi, hz0, hz1, hz2⟩ := info_parts infoIn
  go_enter Try.func32, Try.ntmps32
  go_wp2_with (at_make; refine wpList_make_own _ rfl _ _ 22 rfl w.heap.size 59 i0 _ 3 Try.underlying22 hi hz0 hz1 .i64 .i64 _ (l.length + 1) rfl rfl (by omega) (by rw [hz2]; omega) (by unfold maxLen; omega) (Nat.le_refl _) ?_; intro w1 hown1 hg1)
  have E1 : Ext w w1 := ⟨hg1.os, hg1.tape, hg1.output, hg1.size, fun k hk _ => hg1.block k hk (by simp)⟩
  clear hg1
  go_wp2_with fail
  go_loopw [3, 4] (fun t i wr => ∃ k : Nat, k ≤ l.length ∧ i = .int .i64 k ∧ t = .slice (some ⟨w.heap.size, 0, none⟩) k (l.length + 1) ∧ wr.ownsRow w.heap.size 59 3 (.slice (some ⟨w.heap.size, 0, none⟩) k (l.length + 1)) k ((l.take k).flatMap inC) ∧ Ext w wr)
    (fun _ i _ => l.length - (intOf i).toNat)
  case atStart => exact ⟨0, Nat.zero_le _, rfl, rfl, by simpa using hown1, E1⟩
  case round =>
    obtain ⟨k, hk, rfl, rfl, hown, hE⟩ := hrel
    clear hown1 E1
    by_cases hlt : k < l.length
    · obtain ⟨_, _, _, b, o, rfl, _, hb, c0, c1, c2⟩ := hr k _ (List.getElem?_eq_getElem hlt)
      have d0 := hE.cell c0
      have d1 := hE.cell c1
      have d2 := hE.cell c2
      have hsz := hE.size
      go_wp2_with (at_builtin; refine wpList_append_fits _ rfl _ _ 22 rfl w.heap.size 59 i0 3 Try.underlying22 hi hz1 w.heap.size k (l.length + 1) _ rfl (hown.alloc _) ⟨wr.heap.size, 0, none⟩ 1 1 (inC l[k]) rfl rfl (cell_many_new _ _ _) (by simp [Value.oneCell', inC]) (by omega) ?_; intro w2 hown2 hg2)
      have hE2 : Ext w w2 := hE.then (Chg.of_alloc_grown hg2) (fun q hq => by omega)
      have ho2 : w2.ownsRow w.heap.size 59 3 (.slice (some ⟨w.heap.size, 0, none⟩) (k + 1) (l.length + 1)) (k + 1) ((l.take (k + 1)).flatMap inC) := by
        rw [flat_take _ _ _ hlt]; exact hown2
      clear hown hown2 hg2 hE d0 d1 d2 c0 c1 c2
      have HO := Lib.hid ho2
      clear ho2
      go_wp2_with fail
      go_roundw
      case rel => exact ⟨k + 1, by omega, by go_num, rfl, HO.out, hE2⟩
      case measure => simp [intOf]; omega
    · obtain rfl : k = l.length := by omega
      rw [List.take_length] at hown
      have hsz := hE.size
      go_wp2_with (at_builtin; refine wpList_append_fits _ rfl _ _ 22 rfl w.heap.size 59 i0 3 Try.underlying22 hi hz1 w.heap.size l.length (l.length + 1) _ rfl (hown.alloc _) ⟨wr.heap.size, 0, none⟩ 1 1 [.string spareS, .int .u8 0, .int .i64 0] rfl rfl (cell_many_new _ _ _) (by simp [Value.oneCell']) (by omega) ?_; intro w2 hown2 hg2)
      have hE2 : Ext w w2 := hE.then (Chg.of_alloc_grown hg2) (fun q hq => by omega)
      have HO := Lib.hid hown2
      clear hown hown2 hg2 hE
      have hle : (l.length : Int) ≤ (l.length : Int) + 1 := by omega
      go_wp2_with fail
      go_ret
      exact ⟨_, rfl, _, rfl, Nat.le_refl _, HO.out, hE2⟩
theorem inC_len (x : InD) : (inC x).length = 3 := rfl
theorem TwIn.rd {w w' : World} {l : List InD} {v : Value} (h : TwRow w 59 3 l.length (l.flatMap inC ++ [.string spareS, .int .u8 0, .int .i64 0]) w' v)
    (hs : ∀ (i : Nat) (x : InD), l[i]? = some x → x.name.size ≤ maxLen ∧ isU8 x.ty ∧ isI64 x.st) (hf : fitsR l.length 32) : RdInV w' w.heap.size true l v := by
  obtain ⟨g, rfl, hg, ho, he⟩ := h
  unfold fitsR at hf
  have hlt := (ho.lt g rfl).2
  refine ⟨_, _, rfl, hf, by omega, by unfold maxLen; omega, fun i x hx => ?_, fun _ => ⟨by omega, g, 0, rfl, hg, hlt, 0, 0, ?_, ?_, ?_⟩⟩
  · have hi : i < l.length := (List.getElem?_eq_some_iff.1 hx).1
    obtain ⟨h1, h2, h3⟩ := hs i x hx
    refine ⟨h1, h2, h3, g, 0, rfl, hg, hlt, ?_, ?_, ?_⟩
    · rw [Nat.zero_add, ho.cellAt (i * 3) (by omega), show i * 3 = i * 3 + 0 from rfl, flat_at inC_len _ hx (by omega)]; rfl
    · rw [Nat.zero_add, ho.cellAt (i * 3 + 1) (by omega), flat_at inC_len _ hx (by omega)]; rfl
    · rw [Nat.zero_add, ho.cellAt (i * 3 + 2) (by omega), flat_at inC_len _ hx (by omega)]; rfl
  · rw [Nat.zero_add, ho.cellAt (l.length * 3) (by omega), show l.length * 3 = l.length * 3 + 0 from rfl, flat_end inC_len]; rfl
  · rw [Nat.zero_add, ho.cellAt (l.length * 3 + 1) (by omega), flat_end inC_len]; rfl
  · rw [Nat.zero_add, ho.cellAt (l.length * 3 + 2) (by omega), flat_end inC_len]; rfl
end Go.Proofs.Ytjdficgejjkaoaa
