/- Lists of numbers in memory: readings, twins, what is left of them, how a row opens them. -/
import Derived.Test.YtjdficgejjkaoaaTwin
import Derived.Test.YtjdficgejjkaoaaLeft
namespace Go.Proofs.Ytjdficgejjkaoaa
open Go.RowKit
set_option linter.unusedVariables false
set_option linter.unusedSimpArgs false

/-- A list of numbers; t: with a mark behind. -/
def RdIntV (w : World) (lo : Nat) (t : Bool) (l : List Int) (v : Value) : Prop := ∃ a cap, v = .slice a l.length cap ∧ fitsR l.length 8 ∧ l.length ≤ cap ∧ cap ≤ maxLen ∧
  (∀ i x, l[i]? = some x → isI64 x ∧ ∃ b o, a = some ⟨b, o, none⟩ ∧ lo ≤ b ∧ b < w.heap.size ∧ w.cell? ⟨b, o + i, none⟩ = some (.int .i64 x)) ∧
  (t = true → l.length < cap ∧ ∃ b o, a = some ⟨b, o, none⟩ ∧ lo ≤ b ∧ b < w.heap.size ∧ w.cell? ⟨b, o + l.length, none⟩ = some (.int .i64 77))
theorem RdIntV.far {w w1 : World} {lo : Nat} {t : Bool} {S : Nat → Prop} {l : List Int} {v : Value} (h : RdIntV w lo t l v) (he : Chg S w w1) (hS : ∀ k, S k → k < lo) : RdIntV w1 lo t l v := by
  obtain ⟨a, cap, rfl, h4, h5, h6, h7, h8⟩ := h
  have hs := he.size
  refine ⟨a, cap, rfl, h4, h5, h6, fun i x hx => ?_, fun ht => ?_⟩
  · obtain ⟨h1, b, o, ha, hlo, hb, k0⟩ := h7 i x hx
    exact ⟨h1, b, o, ha, hlo, by omega, he.cell k0 (fun h => Nat.not_lt.2 hlo (hS _ h))⟩
  · obtain ⟨hc, b, o, ha, hlo, hb, k0⟩ := h8 ht
    exact ⟨hc, b, o, ha, hlo, by omega, he.cell k0 (fun h => Nat.not_lt.2 hlo (hS _ h))⟩
theorem RdIntV.ext {w w1 : World} {lo : Nat} {t : Bool} {l : List Int} {v : Value} (h : RdIntV w lo t l v) (he : Ext w w1) : RdIntV w1 lo t l v := h.far he (fun _ h => h.elim)
theorem RdIntV.lower {w : World} {lo lo' : Nat} {t : Bool} {l : List Int} {v : Value} (h : RdIntV w lo t l v) (hl : lo' ≤ lo) : RdIntV w lo' t l v := by
  obtain ⟨a, cap, rfl, h4, h5, h6, h7, h8⟩ := h
  refine ⟨a, cap, rfl, h4, h5, h6, fun i x hx => ?_, fun ht => ?_⟩
  · obtain ⟨h1, b, o, ha, hlo, hr⟩ := h7 i x hx
    exact ⟨h1, b, o, ha, by omega, hr⟩
  · obtain ⟨hc, b, o, ha, hlo, hr⟩ := h8 ht
    exact ⟨hc, b, o, ha, by omega, hr⟩
theorem RdIntV.plain {w : World} {lo : Nat} {t : Bool} {l : List Int} {v : Value} (h : RdIntV w lo t l v) : RdIntV w lo false l v := by
  obtain ⟨a, cap, rfl, h4, h5, h6, h7, h8⟩ := h
  exact ⟨a, cap, rfl, h4, h5, h6, h7, fun ht => by simp at ht⟩
theorem RdIntV.form {w : World} {lo : Nat} {t : Bool} {l : List Int} {v : Value} (h : RdIntV w lo t l v) : ∃ a cap, v = .slice a l.length cap ∧ fitsR l.length 8 ∧ l.length ≤ cap ∧ cap ≤ maxLen := by
  obtain ⟨a, cap, rfl, h1, h2, h3, _⟩ := h
  exact ⟨a, cap, rfl, h1, h2, h3⟩
theorem RdIntV.get {w : World} {lo : Nat} {t : Bool} {l : List Int} {a : Option Addr} {n cap : Nat} (h : RdIntV w lo t l (.slice a n cap)) {i : Nat} {x : Int} (hx : l[i]? = some x) : isI64 x ∧ ∃ b o, a = some ⟨b, o, none⟩ ∧ lo ≤ b ∧ b < w.heap.size ∧ w.cell? ⟨b, o + i, none⟩ = some (.int .i64 x) := by
  obtain ⟨a', cap', e, _, _, _, h7, _⟩ := h
  simp only [Value.slice.injEq] at e
  obtain ⟨rfl, _, _⟩ := e
  exact h7 i x hx
theorem infoInt : (Try.prog.info? 3).map (fun i => (i.zero, i.size, i.bytes)) = some (some (.int .i64 0), 1, 8) := by kernel_rfl
def RetTwInt (w : World) (l : List Int) (e : Ending) (w' : World) : Prop := ∃ v, e = .returned v ∧ TwRow w 3 1 l.length (l.map (Value.int .i64) ++ [.int .i64 77]) w' v
set_option maxHeartbeats 1000000 in
theorem twinInts_any (l : List Int) (v : Value) (w : World) (h : RdIntV w 0 false l v) : Calls Try.prog 12 #[v] w (RetTwInt w l) := by
  obtain ⟨a, cap, rfl, hf, hl, hm, hr, _⟩ := h
  unfold fitsR at hf
  have hn : l.length ≤ 9000000000000000000 := by omega
  obtain ⟨i0, hi, hz0, hz1, hz2⟩ := info_parts infoInt
  go_enter Try.func12, Try.ntmps12
  go_wp2_with (at_make; refine wpList_make_own _ rfl _ _ 27 rfl w.heap.size 3 i0 _ 1 Try.underlying27 hi hz0 hz1 .i64 .i64 _ (l.length + 1) rfl rfl (by omega) (by rw [hz2]; omega) (by unfold maxLen; omega) (Nat.le_refl _) ?_; intro w1 hown1 hg1)
  have E1 : Ext w w1 := ⟨hg1.os, hg1.tape, hg1.output, hg1.size, fun k hk _ => hg1.block k hk (by simp)⟩
  clear hg1
  go_wp2_with fail
  go_loopw [3, 4] (fun t i wr => ∃ k : Nat, k ≤ l.length ∧ i = .int .i64 k ∧ t = .slice (some ⟨w.heap.size, 0, none⟩) k (l.length + 1) ∧ wr.ownsRow w.heap.size 3 1 (.slice (some ⟨w.heap.size, 0, none⟩) k (l.length + 1)) k ((l.take k).map (Value.int .i64)) ∧ Ext w wr)
    (fun _ i _ => l.length - (intOf i).toNat)
  case atStart => exact ⟨0, Nat.zero_le _, rfl, rfl, by simpa using hown1, E1⟩
  case round =>
    obtain ⟨k, hk, rfl, rfl, hown, hE⟩ := hrel
    clear hown1 E1
    by_cases hlt : k < l.length
    · obtain ⟨_, b, o, rfl, _, hb, hc⟩ := hr k _ (List.getElem?_eq_getElem hlt)
      have hc' := hE.cell hc
      have hsz := hE.size
      go_wp2_with (at_builtin; refine wpList_append_fits _ rfl _ _ 27 rfl w.heap.size 3 i0 1 Try.underlying27 hi hz1 w.heap.size k (l.length + 1) _ rfl (hown.alloc _) ⟨wr.heap.size, 0, none⟩ 1 1 [.int .i64 l[k]] rfl rfl (cell_one_new _ _ _) (by simp [Value.oneCell']) (by omega) ?_; intro w2 hown2 hg2)
      have hE2 : Ext w w2 := hE.then (Chg.of_alloc_grown hg2) (fun q hq => by omega)
      have ho2 : w2.ownsRow w.heap.size 3 1 (.slice (some ⟨w.heap.size, 0, none⟩) (k + 1) (l.length + 1)) (k + 1) ((l.take (k + 1)).map (Value.int .i64)) := by
        rw [List.take_succ_eq_append_getElem hlt, List.map_append]; exact hown2
      clear hown hown2 hg2 hE hc' hc
      have HO := Lib.hid ho2
      clear ho2
      go_wp2_with fail
      go_roundw
      case rel => exact ⟨k + 1, by omega, by go_num, rfl, HO.out, hE2⟩
      case measure => simp [intOf]; omega
    · obtain rfl : k = l.length := by omega
      rw [List.take_length] at hown
      have hsz := hE.size
      go_wp2_with (at_builtin; refine wpList_append_fits _ rfl _ _ 27 rfl w.heap.size 3 i0 1 Try.underlying27 hi hz1 w.heap.size l.length (l.length + 1) _ rfl (hown.alloc _) ⟨wr.heap.size, 0, none⟩ 1 1 [.int .i64 77] rfl rfl (cell_one_new _ _ _) (by simp [Value.oneCell']) (by omega) ?_; intro w2 hown2 hg2)
      have hE2 : Ext w w2 := hE.then (Chg.of_alloc_grown hg2) (fun q hq => by omega)
      have HO := Lib.hid hown2
      clear hown hown2 hg2 hE
      have hle : (l.length : Int) ≤ (l.length : Int) + 1 := by omega
      go_wp2_with fail
      go_ret
      exact ⟨_, rfl, _, rfl, Nat.le_refl _, HO.out, hE2⟩
theorem TwInt.rd {w w' : World} {l : List Int} {v : Value} (h : TwRow w 3 1 l.length (l.map (Value.int .i64) ++ [.int .i64 77]) w' v) (hs : ∀ x, x ∈ l → isI64 x) (hf : fitsR l.length 8) : RdIntV w' w.heap.size true l v := by
  obtain ⟨g, rfl, hg, ho, he⟩ := h
  unfold fitsR at hf
  have hlt := (ho.lt g rfl).2
  refine ⟨_, _, rfl, hf, by omega, by unfold maxLen; omega, fun i x hx => ⟨hs x (List.mem_of_getElem? hx), g, 0, rfl, hg, hlt, ?_⟩, fun _ => ⟨by omega, g, 0, rfl, hg, hlt, ?_⟩⟩
  · have hi : i < l.length := (List.getElem?_eq_some_iff.1 hx).1
    rw [Nat.zero_add, ho.cellAt i (by omega), List.getElem?_append_left (by simpa using hi), List.getElem?_map, hx]; rfl
  · rw [Nat.zero_add, ho.cellAt l.length (by omega), List.getElem?_append_right (by simp)]; simp
theorem leftInts_any (l : List Int) (vt vl : Value) (w : World) {lo lo' : Nat} (ht : RdIntV w lo true l vt) (hl : RdIntV w lo' false l vl) : Calls Try.prog 18 #[vt, vl] w (RetT w) := by
  obtain ⟨at_, ct, rfl, hft, h1, h2, hrt, hmt⟩ := ht
  obtain ⟨hct, bt, ot, rfl, _, hbt, hmk⟩ := hmt rfl
  obtain ⟨al, cl, rfl, hfl, h3, h4, hrl, _⟩ := hl
  unfold fitsR at hft
  have hn : l.length ≤ 9000000000000000000 := by omega
  have hct' : ct ≤ 9223372036854775807 := by unfold maxLen at h2; exact h2
  clear hft hfl hmt h2 h4
  go_enter Try.func18, Try.ntmps18
  go_wp2_with fail
  go_loopw [5] (fun i wr => ∃ k : Nat, k ≤ l.length ∧ i = .int .i64 k ∧ ∃ m, wr = w.drewN m) (fun i _ => l.length - (intOf i).toNat)
  case atStart => exact ⟨0, Nat.zero_le _, rfl, 0, rfl⟩
  case round =>
    obtain ⟨k, hk, rfl, m, rfl⟩ := hrel
    by_cases hlt : k < l.length
    · have hx := List.getElem?_eq_getElem hlt
      obtain ⟨_, b1, o1, e1, _, _, c1⟩ := hrt k _ hx
      simp only [Option.some.injEq, Addr.mk.injEq, and_true] at e1
      obtain ⟨rfl, rfl⟩ := e1
      obtain ⟨_, b2, o2, rfl, _, _, c2⟩ := hrl k _ hx
      have q1 : (k : Int) < (l.length : Int) := by omega
      generalize l[k] = x at *
      clear hx
      go_wp2_with fail
      go_quiet (fail)
      go_wp2_with fail
      go_roundw
      case rel => exact ⟨k + 1, by omega, by go_num, _, rfl⟩
      case measure => simp [intOf]; omega
    · obtain rfl : k = l.length := by omega
      go_wp2_with fail
      go_ret
      exact ⟨rfl, (Chg.refl _ _).drewN _⟩
/-- Two lists of numbers, both such: they are the same just if they are. -/
def RetSame (b : Prop) (w : World) (e : Ending) (w' : World) : Prop := (∃ r : Bool, e = .returned (.bool r) ∧ (r = true ↔ b)) ∧ Ext w w'
end Go.Proofs.Ytjdficgejjkaoaa
