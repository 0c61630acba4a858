/- The twins of lists of places and of instructions, and that they are left. -/
import Derived.Test.YtgkbhonjodcakaaJ17
import Derived.Test.YtgkbhonjodcakaaJF
namespace Go.Proofs.Ytgkbhonjodcakaa
open Go.RowKit
set_option linter.unusedVariables false
set_option linter.unusedSimpArgs false

set_option maxHeartbeats 1000000 in
theorem twinPlaces_any (l : List PlD) (v : Value) (w : World) (h : RdPlS w l v) : Calls Try.prog 7 #[v] w (fun e w' => ∃ v, e = .returned v ∧ TwRow w 55 6 l.length (l.flatMap plC ++ [.string spareS, .int .u8 0, .int .i64 0, .bool false, .int .i64 0, .int .i64 0]) w' v) := by
  obtain ⟨a, cap, rfl, hf, hl, hm, hr⟩ := h
  unfold fitsR at hf
  have hn : l.length ≤ 9000000000000000000 := by omega
  obtain ⟨i0, hi, hz0, hz1, hz2⟩ := info_parts infoPl
  go_enter Try.func7, Try.ntmps7
  go_wp2_with (at_make; refine wpList_make_own _ rfl _ _ 22 rfl w.heap.size 55 i0 _ 6 Try.underlying22 hi hz0 hz1 .i64 .i64 _ (l.length + 1) rfl rfl (by omega) (by rw [hz2]; omega) (by unfold maxLen; omega) (Nat.le_refl _) ?_; intro w1 hown1 hg1)
  have E1 : Ext w w1 := ⟨hg1.os, hg1.tape, hg1.output, hg1.size, fun k hk _ => hg1.block k hk (by simp)⟩
  clear hg1
  go_wp2_with fail
  go_loopw [3, 4] (fun t i wr => ∃ k : Nat, k ≤ l.length ∧ i = .int .i64 k ∧ t = .slice (some ⟨w.heap.size, 0, none⟩) k (l.length + 1) ∧ wr.ownsRow w.heap.size 55 6 (.slice (some ⟨w.heap.size, 0, none⟩) k (l.length + 1)) k ((l.take k).flatMap plC) ∧ Ext w wr)
    (fun _ i _ => l.length - (intOf i).toNat)
  case atStart => exact ⟨0, Nat.zero_le _, rfl, rfl, by simpa using hown1, E1⟩
  case round =>
    obtain ⟨k, hk, rfl, rfl, hown, hE⟩ := hrel
    clear hown1 E1
    by_cases hlt : k < l.length
    · have hr' := hr k _ (List.getElem?_eq_getElem hlt)
      obtain ⟨b, o, rfl, hb, hc⟩ := hr'
      have d0 : wr.cell? ⟨b, o + k * 6, none⟩ = some (.string (l[k].name)) := hE.cell (hc 0 (by omega))
      have d1 : wr.cell? ⟨b, o + k * 6 + 1, none⟩ = some (.int .u8 (l[k].ty)) := hE.cell (hc 1 (by omega))
      have d2 : wr.cell? ⟨b, o + k * 6 + 2, none⟩ = some (.int .i64 (l[k].keep)) := hE.cell (hc 2 (by omega))
      have d3 : wr.cell? ⟨b, o + k * 6 + 3, none⟩ = some (.bool (l[k].far)) := hE.cell (hc 3 (by omega))
      have d4 : wr.cell? ⟨b, o + k * 6 + 4, none⟩ = some (.int .i64 (l[k].frm)) := hE.cell (hc 4 (by omega))
      have d5 : wr.cell? ⟨b, o + k * 6 + 5, none⟩ = some (.int .i64 (l[k].df)) := hE.cell (hc 5 (by omega))
      have hsz := hE.size
      go_wp2_with (at_builtin; refine wpList_append_fits _ rfl _ _ 22 rfl w.heap.size 55 i0 6 Try.underlying22 hi hz1 w.heap.size k (l.length + 1) _ rfl (hown.alloc _) ⟨wr.heap.size, 0, none⟩ 1 1 (plC l[k]) rfl rfl (cell_many_new _ _ _) (by simp [Value.oneCell', plC]) (by omega) ?_; intro w2 hown2 hg2)
      have hE2 : Ext w w2 := hE.then (Chg.of_alloc_grown hg2) (fun q hq => by omega)
      have ho2 : w2.ownsRow w.heap.size 55 6 (.slice (some ⟨w.heap.size, 0, none⟩) (k + 1) (l.length + 1)) (k + 1) ((l.take (k + 1)).flatMap plC) := by
        rw [flat_take _ _ _ hlt]; exact hown2
      clear hown hown2 hg2 hE d0 d1 d2 d3 d4 d5 hc
      have HO := Lib.hid ho2
      clear ho2
      go_wp2_with fail
      go_roundw
      case rel => exact ⟨k + 1, by omega, by go_num, rfl, HO.out, hE2⟩
      case measure => simp [intOf]; omega
    · obtain rfl : k = l.length := by omega
      rw [List.take_length] at hown
      have hsz := hE.size
      go_wp2_with (at_builtin; refine wpList_append_fits _ rfl _ _ 22 rfl w.heap.size 55 i0 6 Try.underlying22 hi hz1 w.heap.size l.length (l.length + 1) _ rfl (hown.alloc _) ⟨wr.heap.size, 0, none⟩ 1 1 [.string spareS, .int .u8 0, .int .i64 0, .bool false, .int .i64 0, .int .i64 0] rfl rfl (cell_many_new _ _ _) (by simp [Value.oneCell']) (by omega) ?_; intro w2 hown2 hg2)
      have hE2 : Ext w w2 := hE.then (Chg.of_alloc_grown hg2) (fun q hq => by omega)
      have HO := Lib.hid hown2
      clear hown hown2 hg2 hE
      have hle : (l.length : Int) ≤ (l.length : Int) + 1 := by omega
      go_wp2_with fail
      go_ret
      exact ⟨_, rfl, _, rfl, Nat.le_refl _, HO.out, hE2⟩
/-- Such a twin in memory, its mark behind it. -/
def TwPlS (w : World) (l : List PlD) (v : Value) : Prop := ∃ g, v = .slice (some ⟨g, 0, none⟩) l.length (l.length + 1) ∧ g < w.heap.size ∧ l.length ≤ 1000000000000000 ∧ (∀ i x, l[i]? = some x → ∀ c, c < 6 → w.cell? ⟨g, i * 6 + c, none⟩ = (plC x)[c]?) ∧ ∀ c, c < 6 → w.cell? ⟨g, l.length * 6 + c, none⟩ = ([.string spareS, .int .u8 0, .int .i64 0, .bool false, .int .i64 0, .int .i64 0] : List Value)[c]?
theorem TwPlS.of {w w' : World} {l : List PlD} {v : Value} (h : TwRow w 55 6 l.length (l.flatMap plC ++ [.string spareS, .int .u8 0, .int .i64 0, .bool false, .int .i64 0, .int .i64 0]) w' v) (hl : l.length ≤ 1000000000000000) : TwPlS w' l v ∧ Ext w w' ∧ ∀ g, v.ownBlock = some g → w.heap.size ≤ g := by
  obtain ⟨g, rfl, hg, ho, he⟩ := h
  have hlt := (ho.lt g rfl).2
  refine ⟨⟨g, rfl, hlt, hl, fun i x hx c hc => ?_, fun c hc => ?_⟩, he, fun g' hg' => by simp only [Value.ownBlock, Option.some.injEq] at hg'; subst hg'; exact hg⟩
  · have hi : i < l.length := (List.getElem?_eq_some_iff.1 hx).1
    rw [ho.cellAt (i * 6 + c) (by omega), flat_at plC_len _ hx hc]
  · rw [ho.cellAt (l.length * 6 + c) (by omega), flat_end plC_len]
theorem TwPlS.ext {w w' : World} {l : List PlD} {v : Value} (h : TwPlS w l v) (he : Ext w w') : TwPlS w' l v := by
  obtain ⟨g, rfl, hg, hl, h1, h2⟩ := h
  refine ⟨g, rfl, by have := he.size; omega, hl, fun i x hx c hc => ?_, fun c hc => ?_⟩
  · have hv : (plC x)[c]? = some ((plC x)[c]'(by rw [plC_len]; exact hc)) := List.getElem?_eq_getElem _
    rw [hv]
    exact he.cell ((h1 i x hx c hc).trans hv)
  · have hv : ([.string spareS, .int .u8 0, .int .i64 0, .bool false, .int .i64 0, .int .i64 0] : List Value)[c]? = some (([.string spareS, .int .u8 0, .int .i64 0, .bool false, .int .i64 0, .int .i64 0] : List Value)[c]'hc) := List.getElem?_eq_getElem _
    rw [hv]
    exact he.cell ((h2 c hc).trans hv)
theorem TwPlS.rd {w : World} {l : List PlD} {v : Value} (h : TwPlS w l v) (hf : fitsR l.length 56) : RdPlS w l v := by
  obtain ⟨g, rfl, hg, hl, h1, h2⟩ := h
  refine ⟨_, _, rfl, hf, by omega, by unfold maxLen; omega, fun i x hx => ⟨g, 0, rfl, hg, fun c hc => by rw [Nat.zero_add]; exact h1 i x hx c hc⟩⟩
set_option maxHeartbeats 1000000 in
theorem leftPlaces_any (l : List PlD) (vt vl : Value) (w : World) (ht : TwPlS w l vt) (hl : RdPlS w l vl) : Calls Try.prog 11 #[vt, vl] w (RetT w) := by
  obtain ⟨bt, rfl, hbt, hlen, hrt, hmt⟩ := ht
  obtain ⟨al, cl, rfl, hfl, h3, h4, hrl⟩ := hl
  have hn : l.length ≤ 9000000000000000000 := by omega
  have m0 : w.cell? ⟨bt, l.length * 6, none⟩ = some (.string spareS) := hmt 0 (by omega)
  have m1 : w.cell? ⟨bt, l.length * 6 + 1, none⟩ = some (.int .u8 0) := hmt 1 (by omega)
  have m2 : w.cell? ⟨bt, l.length * 6 + 2, none⟩ = some (.int .i64 0) := hmt 2 (by omega)
  have m3 : w.cell? ⟨bt, l.length * 6 + 3, none⟩ = some (.bool false) := hmt 3 (by omega)
  have m4 : w.cell? ⟨bt, l.length * 6 + 4, none⟩ = some (.int .i64 0) := hmt 4 (by omega)
  have m5 : w.cell? ⟨bt, l.length * 6 + 5, none⟩ = some (.int .i64 0) := hmt 5 (by omega)
  have HRT := Lib.hid hrt
  have HRL := Lib.hid hrl
  clear hfl h4 hmt hrt hrl
  go_enter Try.func11, Try.ntmps11
  go_wp2_with fail
  go_loopw [5] (fun i wr => ∃ k : Nat, k ≤ l.length ∧ i = .int .i64 k ∧ ∃ m, wr = w.drewN m) (fun i _ => l.length - (intOf i).toNat)
  case atStart => exact ⟨0, Nat.zero_le _, rfl, 0, rfl⟩
  case round =>
    obtain ⟨k, hk, rfl, m, rfl⟩ := hrel
    by_cases hlt : k < l.length
    · have hx := List.getElem?_eq_getElem hlt
      have hr' := HRL.out k _ hx
      obtain ⟨b2, o2, rfl, hb2, hc⟩ := hr'
      have ht' := HRT.out k _ hx
      have s0 : w.cell? ⟨bt, k * 6, none⟩ = some (.string (l[k].name)) := ht' 0 (by omega)
      have t0 : w.cell? ⟨b2, o2 + k * 6, none⟩ = some (.string (l[k].name)) := hc 0 (by omega)
      have s1 : w.cell? ⟨bt, k * 6 + 1, none⟩ = some (.int .u8 (l[k].ty)) := ht' 1 (by omega)
      have t1 : w.cell? ⟨b2, o2 + k * 6 + 1, none⟩ = some (.int .u8 (l[k].ty)) := hc 1 (by omega)
      have s2 : w.cell? ⟨bt, k * 6 + 2, none⟩ = some (.int .i64 (l[k].keep)) := ht' 2 (by omega)
      have t2 : w.cell? ⟨b2, o2 + k * 6 + 2, none⟩ = some (.int .i64 (l[k].keep)) := hc 2 (by omega)
      have s3 : w.cell? ⟨bt, k * 6 + 3, none⟩ = some (.bool (l[k].far)) := ht' 3 (by omega)
      have t3 : w.cell? ⟨b2, o2 + k * 6 + 3, none⟩ = some (.bool (l[k].far)) := hc 3 (by omega)
      have s4 : w.cell? ⟨bt, k * 6 + 4, none⟩ = some (.int .i64 (l[k].frm)) := ht' 4 (by omega)
      have t4 : w.cell? ⟨b2, o2 + k * 6 + 4, none⟩ = some (.int .i64 (l[k].frm)) := hc 4 (by omega)
      have s5 : w.cell? ⟨bt, k * 6 + 5, none⟩ = some (.int .i64 (l[k].df)) := ht' 5 (by omega)
      have t5 : w.cell? ⟨b2, o2 + k * 6 + 5, none⟩ = some (.int .i64 (l[k].df)) := hc 5 (by omega)
      have q1 : (k : Int) < (l.length : Int) := by omega
      generalize l[k] = x at *
      clear hx ht' hc m0 m1 m2 m3 m4 m5
      go_wp2_with fail
      go_quiet (fail)
      go_wp2_with fail
      go_roundw
      case rel => exact ⟨k + 1, by omega, by go_num, _, rfl⟩
      case measure => simp [intOf]; omega
    · obtain rfl : k = l.length := by omega
      have hE : Ext w (w.drewN m) := (Chg.refl _ _).drewN _
      generalize w.drewN m = W at *
      have k0 := hE.cell m0
      have k1 := hE.cell m1
      have k2 := hE.cell m2
      have k3 := hE.cell m3
      have k4 := hE.cell m4
      have k5 := hE.cell m5
      clear m0 m1 m2 m3 m4 m5 HRT HRL hbt
      go_wp2_with fail
      go_ret
      exact ⟨congrArg (fun b => Ending.returned (Value.bool b)) spare_same, hE.alloc _⟩

set_option maxHeartbeats 1000000 in
theorem twinInstrs_any (l : List IsD) (v : Value) (w : World) (h : RdIsS w l v) : Calls Try.prog 8 #[v] w (fun e w' => ∃ v, e = .returned v ∧ TwRow w 38 3 l.length (l.flatMap isC ++ [.int .u8 0, .int .i64 (-77), .int .i64 0]) w' v) := by
  obtain ⟨a, cap, rfl, hf, hl, hm, hr⟩ := h
  unfold fitsR at hf
  have hn : l.length ≤ 9000000000000000000 := by omega
  obtain ⟨i0, hi, hz0, hz1, hz2⟩ := info_parts infoIs
  go_enter Try.func8, Try.ntmps8
  go_wp2_with (at_make; refine wpList_make_own _ rfl _ _ 23 rfl w.heap.size 38 i0 _ 3 Try.underlying23 hi hz0 hz1 .i64 .i64 _ (l.length + 1) rfl rfl (by omega) (by rw [hz2]; omega) (by unfold maxLen; omega) (Nat.le_refl _) ?_; intro w1 hown1 hg1)
  have E1 : Ext w w1 := ⟨hg1.os, hg1.tape, hg1.output, hg1.size, fun k hk _ => hg1.block k hk (by simp)⟩
  clear hg1
  go_wp2_with fail
  go_loopw [3, 4] (fun t i wr => ∃ k : Nat, k ≤ l.length ∧ i = .int .i64 k ∧ t = .slice (some ⟨w.heap.size, 0, none⟩) k (l.length + 1) ∧ wr.ownsRow w.heap.size 38 3 (.slice (some ⟨w.heap.size, 0, none⟩) k (l.length + 1)) k ((l.take k).flatMap isC) ∧ Ext w wr)
    (fun _ i _ => l.length - (intOf i).toNat)
  case atStart => exact ⟨0, Nat.zero_le _, rfl, rfl, by simpa using hown1, E1⟩
  case round =>
    obtain ⟨k, hk, rfl, rfl, hown, hE⟩ := hrel
    clear hown1 E1
    by_cases hlt : k < l.length
    · have hr' := hr k _ (List.getElem?_eq_getElem hlt)
      obtain ⟨_, b, o, rfl, hb, hc⟩ := hr'
      have d0 : wr.cell? ⟨b, o + k * 3, none⟩ = some (.int .u8 (l[k].op)) := hE.cell (hc 0 (by omega))
      have d1 : wr.cell? ⟨b, o + k * 3 + 1, none⟩ = some (.int .i64 (l[k].n)) := hE.cell (hc 1 (by omega))
      have d2 : wr.cell? ⟨b, o + k * 3 + 2, none⟩ = some (.int .i64 (l[k].ago)) := hE.cell (hc 2 (by omega))
      have hsz := hE.size
      go_wp2_with (at_builtin; refine wpList_append_fits _ rfl _ _ 23 rfl w.heap.size 38 i0 3 Try.underlying23 hi hz1 w.heap.size k (l.length + 1) _ rfl (hown.alloc _) ⟨wr.heap.size, 0, none⟩ 1 1 (isC l[k]) rfl rfl (cell_many_new _ _ _) (by simp [Value.oneCell', isC]) (by omega) ?_; intro w2 hown2 hg2)
      have hE2 : Ext w w2 := hE.then (Chg.of_alloc_grown hg2) (fun q hq => by omega)
      have ho2 : w2.ownsRow w.heap.size 38 3 (.slice (some ⟨w.heap.size, 0, none⟩) (k + 1) (l.length + 1)) (k + 1) ((l.take (k + 1)).flatMap isC) := by
        rw [flat_take _ _ _ hlt]; exact hown2
      clear hown hown2 hg2 hE d0 d1 d2 hc
      have HO := Lib.hid ho2
      clear ho2
      go_wp2_with fail
      go_roundw
      case rel => exact ⟨k + 1, by omega, by go_num, rfl, HO.out, hE2⟩
      case measure => simp [intOf]; omega
    · obtain rfl : k = l.length := by omega
      rw [List.take_length] at hown
      have hsz := hE.size
      go_wp2_with (at_builtin; refine wpList_append_fits _ rfl _ _ 23 rfl w.heap.size 38 i0 3 Try.underlying23 hi hz1 w.heap.size l.length (l.length + 1) _ rfl (hown.alloc _) ⟨wr.heap.size, 0, none⟩ 1 1 [.int .u8 0, .int .i64 (-77), .int .i64 0] rfl rfl (cell_many_new _ _ _) (by simp [Value.oneCell']) (by omega) ?_; intro w2 hown2 hg2)
      have hE2 : Ext w w2 := hE.then (Chg.of_alloc_grown hg2) (fun q hq => by omega)
      have HO := Lib.hid hown2
      clear hown hown2 hg2 hE
      have hle : (l.length : Int) ≤ (l.length : Int) + 1 := by omega
      go_wp2_with fail
      go_ret
      exact ⟨_, rfl, _, rfl, Nat.le_refl _, HO.out, hE2⟩
/-- Such a twin in memory, its mark behind it. -/
def TwIsS (w : World) (l : List IsD) (v : Value) : Prop := ∃ g, v = .slice (some ⟨g, 0, none⟩) l.length (l.length + 1) ∧ g < w.heap.size ∧ l.length ≤ 1000000000000000 ∧ (∀ i x, l[i]? = some x → ∀ c, c < 3 → w.cell? ⟨g, i * 3 + c, none⟩ = (isC x)[c]?) ∧ ∀ c, c < 3 → w.cell? ⟨g, l.length * 3 + c, none⟩ = ([.int .u8 0, .int .i64 (-77), .int .i64 0] : List Value)[c]?
theorem TwIsS.of {w w' : World} {l : List IsD} {v : Value} (h : TwRow w 38 3 l.length (l.flatMap isC ++ [.int .u8 0, .int .i64 (-77), .int .i64 0]) w' v) (hl : l.length ≤ 1000000000000000) : TwIsS w' l v ∧ Ext w w' ∧ ∀ g, v.ownBlock = some g → w.heap.size ≤ g := by
  obtain ⟨g, rfl, hg, ho, he⟩ := h
  have hlt := (ho.lt g rfl).2
  refine ⟨⟨g, rfl, hlt, hl, fun i x hx c hc => ?_, fun c hc => ?_⟩, he, fun g' hg' => by simp only [Value.ownBlock, Option.some.injEq] at hg'; subst hg'; exact hg⟩
  · have hi : i < l.length := (List.getElem?_eq_some_iff.1 hx).1
    rw [ho.cellAt (i * 3 + c) (by omega), flat_at isC_len _ hx hc]
  · rw [ho.cellAt (l.length * 3 + c) (by omega), flat_end isC_len]
theorem TwIsS.ext {w w' : World} {l : List IsD} {v : Value} (h : TwIsS w l v) (he : Ext w w') : TwIsS w' l v := by
  obtain ⟨g, rfl, hg, hl, h1, h2⟩ := h
  refine ⟨g, rfl, by have := he.size; omega, hl, fun i x hx c hc => ?_, fun c hc => ?_⟩
  · have hv : (isC x)[c]? = some ((isC x)[c]'(by rw [isC_len]; exact hc)) := List.getElem?_eq_getElem _
    rw [hv]
    exact he.cell ((h1 i x hx c hc).trans hv)
  · have hv : ([.int .u8 0, .int .i64 (-77), .int .i64 0] : List Value)[c]? = some (([.int .u8 0, .int .i64 (-77), .int .i64 0] : List Value)[c]'hc) := List.getElem?_eq_getElem _
    rw [hv]
    exact he.cell ((h2 c hc).trans hv)
theorem TwIsS.rd {w : World} {l : List IsD} {v : Value} (h : TwIsS w l v) (ho : ∀ x, x ∈ l → isU8 x.op) (hf : fitsR l.length 24) : RdIsS w l v := by
  obtain ⟨g, rfl, hg, hl, h1, h2⟩ := h
  refine ⟨_, _, rfl, hf, by omega, by unfold maxLen; omega, fun i x hx => ⟨ho x (List.mem_of_getElem? hx), g, 0, rfl, hg, fun c hc => by rw [Nat.zero_add]; exact h1 i x hx c hc⟩⟩
set_option maxHeartbeats 1000000 in
theorem leftInstrs_any (l : List IsD) (vt vl : Value) (w : World) (ht : TwIsS w l vt) (hl : RdIsS w l vl) : Calls Try.prog 12 #[vt, vl] w (RetT w) := by
  obtain ⟨bt, rfl, hbt, hlen, hrt, hmt⟩ := ht
  obtain ⟨al, cl, rfl, hfl, h3, h4, hrl⟩ := hl
  have hn : l.length ≤ 9000000000000000000 := by omega
  have m0 : w.cell? ⟨bt, l.length * 3, none⟩ = some (.int .u8 0) := hmt 0 (by omega)
  have m1 : w.cell? ⟨bt, l.length * 3 + 1, none⟩ = some (.int .i64 (-77)) := hmt 1 (by omega)
  have m2 : w.cell? ⟨bt, l.length * 3 + 2, none⟩ = some (.int .i64 0) := hmt 2 (by omega)
  have HRT := Lib.hid hrt
  have HRL := Lib.hid hrl
  clear hfl h4 hmt hrt hrl
  go_enter Try.func12, Try.ntmps12
  go_wp2_with fail
  go_loopw [5] (fun i wr => ∃ k : Nat, k ≤ l.length ∧ i = .int .i64 k ∧ ∃ m, wr = w.drewN m) (fun i _ => l.length - (intOf i).toNat)
  case atStart => exact ⟨0, Nat.zero_le _, rfl, 0, rfl⟩
  case round =>
    obtain ⟨k, hk, rfl, m, rfl⟩ := hrel
    by_cases hlt : k < l.length
    · have hx := List.getElem?_eq_getElem hlt
      have hr' := HRL.out k _ hx
      obtain ⟨_, b2, o2, rfl, hb2, hc⟩ := hr'
      have ht' := HRT.out k _ hx
      have s0 : w.cell? ⟨bt, k * 3, none⟩ = some (.int .u8 (l[k].op)) := ht' 0 (by omega)
      have t0 : w.cell? ⟨b2, o2 + k * 3, none⟩ = some (.int .u8 (l[k].op)) := hc 0 (by omega)
      have s1 : w.cell? ⟨bt, k * 3 + 1, none⟩ = some (.int .i64 (l[k].n)) := ht' 1 (by omega)
      have t1 : w.cell? ⟨b2, o2 + k * 3 + 1, none⟩ = some (.int .i64 (l[k].n)) := hc 1 (by omega)
      have s2 : w.cell? ⟨bt, k * 3 + 2, none⟩ = some (.int .i64 (l[k].ago)) := ht' 2 (by omega)
      have t2 : w.cell? ⟨b2, o2 + k * 3 + 2, none⟩ = some (.int .i64 (l[k].ago)) := hc 2 (by omega)
      have q1 : (k : Int) < (l.length : Int) := by omega
      generalize l[k] = x at *
      clear hx ht' hc m0 m1 m2
      go_wp2_with fail
      go_quiet (fail)
      go_wp2_with fail
      go_roundw
      case rel => exact ⟨k + 1, by omega, by go_num, _, rfl⟩
      case measure => simp [intOf]; omega
    · obtain rfl : k = l.length := by omega
      have hE : Ext w (w.drewN m) := (Chg.refl _ _).drewN _
      generalize w.drewN m = W at *
      have k0 := hE.cell m0
      have k1 := hE.cell m1
      have k2 := hE.cell m2
      clear m0 m1 m2 HRT HRL hbt
      go_wp2_with fail
      go_ret
      exact ⟨rfl, hE.alloc _⟩
end Go.Proofs.Ytgkbhonjodcakaa
