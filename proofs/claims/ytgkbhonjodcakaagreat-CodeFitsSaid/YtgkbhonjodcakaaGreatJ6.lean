/- What stands in this text: Strs, Twin, Ints, AskW, TwinF, TwinP, RowF. -/
import Derived.Test.YtgkbhonjodcakaaGreatJ0
import Derived.Test.YtgkbhonjodcakaaGreatJ3
import Derived.Test.YtgkbhonjodcakaaGreatJ4
import Derived.Lib.AppendZerosOnto
import Derived.Laws.AppendOwnNone
import Derived.RangeFuncBox
import Derived.Maps.AppendAt
import Derived.Test.YtgkbhonjodcakaaGreatRows
import Derived.Lib.Hide
import Derived.RegionTactic
import Derived.BigQuiet
import Derived.Deep.QuietTactic
import Derived.Deep.RegionHeld3
namespace Go.Proofs.YtgkbhonjodcakaaGreat
open Go.RowKit
set_option linter.unusedVariables false
set_option linter.unusedSimpArgs false

/-- A list of texts in a block that is new behind base. -/
def StV (w : World) (base : Nat) (l : List ByteArray) (v : Value) : Prop := (v = .slice none 0 0 ∧ l = []) ∨ ∃ (g cap : Nat) (cur : Array Value), v = .slice (some ⟨g, 0, none⟩) l.length cap ∧ base ≤ g ∧ w.heap[g]? = some (.cells cur 9 (0, 0)) ∧ l.length ≤ cap ∧ cap ≤ cur.size ∧ cap ≤ maxLen ∧
  ∀ (i : Nat) (s : ByteArray), l[i]? = some s → cur[i]? = some (Value.string s)
theorem StV.of {w : World} {base : Nat} {l : List ByteArray} {v : Value} (h : NmV w base l v) : StV w base l v := by
  rcases h.2 with ⟨h0, h1⟩ | ⟨g, cap, cur, h1, h2, h3, h4, h5, h6, h7⟩
  · exact .inl ⟨h0, List.length_eq_zero_iff.1 h1⟩
  · refine .inr ⟨g, cap, cur, h1, h2, h3, h4, by omega, h5, fun i s hi => ?_⟩
    have hl := (List.getElem?_eq_some_iff.1 hi).1
    have e : (cur.toList.take (l.length * 1))[i]? = some (.string s) := by rw [h7, List.getElem?_map, hi]; rfl
    rw [List.getElem?_take, if_pos (by omega)] at e
    simpa using e
theorem StV.form {w : World} {base : Nat} {l : List ByteArray} {v : Value} (h : StV w base l v) : ∃ a cap, v = .slice a l.length cap ∧ l.length ≤ cap ∧ cap ≤ maxLen := by
  rcases h with ⟨h0, rfl⟩ | ⟨g, cap, cur, h1, _, _, h4, _, h5, _⟩
  · exact ⟨none, 0, h0, Nat.le_refl _, Nat.zero_le _⟩
  · exact ⟨_, _, h1, h4, h5⟩
theorem StV.chg {w w' : World} {base : Nat} {l : List ByteArray} {v : Value} {S : Nat → Prop} (h : StV w base l v) (hc : Chg S w w') (hS : ∀ g, v.ownBlock = some g → ¬ S g) : StV w' base l v := by
  rcases h with h | ⟨g, cap, cur, h1, h2, h3, h4⟩
  · exact .inl h
  · exact .inr ⟨g, cap, cur, h1, h2, hc.heap h3 (hS g (by rw [h1]; rfl)), h4⟩
theorem StV.ext {w w' : World} {base : Nat} {l : List ByteArray} {v : Value} (h : StV w base l v) (hc : Ext w w') : StV w' base l v := h.chg hc (fun _ _ h => h)
theorem StV.base {w : World} {base base' : Nat} {l : List ByteArray} {v : Value} (h : StV w base l v) (hb : base' ≤ base) : StV w base' l v := by
  rcases h with h | ⟨g, cap, cur, h1, h2, h3, h4⟩
  · exact .inl h
  · exact .inr ⟨g, cap, cur, h1, Nat.le_trans hb h2, h3, h4⟩
theorem StV.get {w : World} {base n : Nat} {l : List ByteArray} {a : Option Addr} {cap : Nat} (h : StV w base l (.slice a n cap)) {i : Nat} {s : ByteArray} (hs : l[i]? = some s) : ∃ g, a = some ⟨g, 0, none⟩ ∧ base ≤ g ∧ g < w.heap.size ∧ w.cell? ⟨g, i, none⟩ = some (.string s) := by
  rcases h with ⟨_, rfl⟩ | ⟨g, c', cur, h1, h2, h3, _, _, _, h4⟩
  · simp at hs
  · simp only [Value.slice.injEq] at h1
    obtain ⟨rfl, rfl, rfl⟩ := h1
    exact ⟨g, rfl, h2, lt_of_block h3, (blk_cell h3 i).trans (h4 i s hs)⟩
/-- The same list, cut short of its room. -/
theorem StV.clip {w : World} {base n : Nat} {l : List ByteArray} {a : Option Addr} {cap : Nat} (h : StV w base l (.slice a n cap)) : StV w base l (.slice a n n) := by
  rcases h with ⟨h0, rfl⟩ | ⟨g, c', cur, h1, h2, h3, h4, h5, h6, h7⟩
  · simp only [Value.slice.injEq] at h0
    obtain ⟨rfl, rfl, rfl⟩ := h0
    exact .inl ⟨rfl, rfl⟩
  · simp only [Value.slice.injEq] at h1
    obtain ⟨rfl, rfl, rfl⟩ := h1
    exact .inr ⟨g, l.length, cur, rfl, h2, h3, Nat.le_refl _, by omega, by omega, h7⟩
def RetSt (l : List ByteArray) (w : World) (e : Ending) (w' : World) : Prop := ∃ v, e = .returned v ∧ StV w' w.heap.size l v ∧ Ext w w'
set_option maxRecDepth 100000 in
theorem growS_any (n : Nat) (w : World) (hn : n ≤ 1000000) : Calls Tryz.prog 114 #[.slice none 0 0, .int .i64 n] w fun e w' => ∃ a cap, e = .returned (.slice a 0 cap) ∧ NmV w' w.heap.size [] (.slice a 0 cap) ∧ Ext w w' := by
  obtain ⟨i0, hi, hz0, hz1, hz2⟩ := info_parts infoStr
  by_cases h0 : n = 0
  · subst h0
    go_enter Tryz.func114, Tryz.ntmps114
    go_wp2_with fail
    go_ret
    exact ⟨none, 0, rfl, NmV.nil _ _, Chg.refl _ _⟩
  · have hpos : (0 : Int) < n := by omega
    obtain ⟨G, hG⟩ : ∃ G, G = grownCap w (0 + n) 0 9 := ⟨_, rfl⟩
    have hGn : 0 + n ≤ G := by rw [hG]; exact grownCap_ge w _ _ _
    have hGm : G ≤ maxLen := by rw [hG]; exact grownCap_le_maxLen w _ _ _ (by unfold maxLen; omega)
    have hrz := fun ty => Lib.run_append_grow_zeros w 24 3 ty 9 i0 _ .i64 .i64 Tryz.underlying24 Tryz.underlying3 hi hz0 none 0 0 [] (run_firstCells_none (w := w.drew) i0.size 0 0 0) n (by omega) (by rw [hz1]; omega) (by omega) (by omega) (by rw [hz2]; omega) (growslice_fits (by omega) (by rw [hz2]; omega))
    rw [← hG] at hrz
    have E : Ext w (w.drew.alloc (.cells ([].toArray ++ Builtin.zeroCells (Value.string ByteArray.empty).cells n ++ Builtin.zeroCells (Value.string ByteArray.empty).cells (G - (0 + n))) 9)) := ((Chg.refl (fun _ => False) w).drew).alloc _
    have B := heap_alloc_new w.drew (.cells ([].toArray ++ Builtin.zeroCells (Value.string ByteArray.empty).cells n ++ Builtin.zeroCells (Value.string ByteArray.empty).cells (G - (0 + n))) 9)
    have hsz : ([].toArray ++ Builtin.zeroCells (Value.string ByteArray.empty).cells n ++ Builtin.zeroCells (Value.string ByteArray.empty).cells (G - (0 + n))).size = G := by
      have hz : ∀ m, (Builtin.zeroCells (Value.string ByteArray.empty).cells m).size = m := fun m => by simp [Builtin.zeroCells, Value.cells]
      rw [Array.size_append, Array.size_append, hz, hz]
      simp
      omega
    generalize ([].toArray ++ Builtin.zeroCells (Value.string ByteArray.empty).cells n ++ Builtin.zeroCells (Value.string ByteArray.empty).cells (G - (0 + n))) = cur at *
    have hfin : NmV (w.drew.alloc (.cells cur 9)) w.heap.size [] (.slice (some ⟨w.heap.size, 0, none⟩) 0 G) := ⟨rfl, .inr ⟨w.heap.size, G, cur, rfl, Nat.le_refl _, B, Nat.zero_le _, hGm, by omega, by simp⟩⟩
    clear hG B hsz
    have HF := Lib.hid hfin
    have HE := Lib.hid E
    clear hfin E
    go_enter Tryz.func114, Tryz.ntmps114
    go_wp2_with (at_builtin; refine Lib.wpList_append_run _ rfl _ _ _ _ rfl _ _ rfl rfl _ _ (hrz _) ?_)
    go_ret
    exact ⟨_, _, rfl, HF.out, HE.out⟩
/-- Lists of texts, in a list. -/
def RdSS (w : World) (base : Nat) (ls : List (List ByteArray)) (v : Value) : Prop := ∃ a cap, v = .slice a ls.length cap ∧ ∀ i l, ls[i]? = some l → ∃ b o u, a = some ⟨b, o, none⟩ ∧ w.cell? ⟨b, o + i, none⟩ = some u ∧ StV w base l u
theorem RdSS.ext {w w' : World} {base : Nat} {ls : List (List ByteArray)} {v : Value} (h : RdSS w base ls v) (he : Ext w w') : RdSS w' base ls v := by
  obtain ⟨a, cap, rfl, h⟩ := h
  refine ⟨a, cap, rfl, fun i l hi => ?_⟩
  obtain ⟨b, o, u, h1, h2, h3⟩ := h i l hi
  exact ⟨b, o, u, h1, Ext.cell he h2, h3.ext he⟩
theorem flatn_take {ls : List (List ByteArray)} {k : Nat} {l : List ByteArray} (h : ls[k]? = some l) : (ls.take (k + 1)).flatten = (ls.take k).flatten ++ l := by
  rw [List.take_add_one, h, List.flatten_append]
  simp
theorem flatn_take_le (ls : List (List ByteArray)) (k : Nat) : (ls.take k).flatten.length ≤ ls.flatten.length := by
  conv => rhs; rw [← List.take_append_drop k ls, List.flatten_append, List.length_append]
  omega
set_option maxRecDepth 100000 in
set_option maxHeartbeats 1000000 in
theorem concatS_any (ls : List (List ByteArray)) (base : Nat) (v : Value) (w : World) (h : RdSS w base ls v) (hn : ls.length ≤ 1000) (hl : ls.flatten.length ≤ 1000000) :
    Calls Tryz.prog 75 #[v] w fun e w' => ∃ u, e = .returned u ∧ NmV w' w.heap.size ls.flatten u ∧ Ext w w' := by
  obtain ⟨i0, hinf, hz0, hz1, hz2⟩ := info_parts infoStr
  have HS := Lib.hid h
  obtain ⟨a, cap, rfl, h⟩ := h
  have H := Lib.hid h
  clear h
  have HG := Lib.hid (fun n => growS_any n w)
  have hfle := flatn_take_le ls
  generalize hFL : ls.flatten = F at *
  have HFL := Lib.hid hFL
  clear hFL
  go_enter Tryz.func75, Tryz.ntmps75
  go_wp2_with fail
  go_loop [3, 11] (fun t i => ∃ k : Nat, k ≤ ls.length ∧ i = .int .i64 k ∧ t = .int .i64 ((ls.take k).flatten.length : Nat)) (fun _ i => ls.length - (intOf i).toNat)
  case atStart => exact ⟨0, Nat.zero_le _, rfl, by simp⟩
  case round =>
    obtain ⟨k, hk, rfl, rfl⟩ := hrel
    have hle := hfle k
    by_cases hlt : k < ls.length
    · have hx := List.getElem?_eq_getElem hlt
      obtain ⟨b, o, u, rfl, hc, hu⟩ := H.out k _ hx
      have htk := flatn_take hx
      have hle2 := hfle (k + 1)
      rw [htk, List.length_append] at hle2
      have HTK := Lib.hid htk
      have q1 : (k : Int) < (ls.length : Int) := by omega
      generalize ls[k] = l at *
      obtain ⟨ua, uc, rfl, _⟩ := hu.form
      generalize hm : (ls.take k).flatten.length = m at *
      have hneg : ¬ ((m : Int) + (l.length : Int) < 0) := by omega
      have HM := Lib.hid hm
      clear hm hx htk hu
      go_wp2_with fail
      go_round
      case rel => exact ⟨k + 1, by omega, by go_num, by rw [HTK.out, List.length_append, HM.out]; go_num⟩
      case measure => simp [intOf]; omega
    · obtain rfl : k = ls.length := by omega
      rw [List.take_length, HFL.out]
      go_wp2_with fail
      refine (HG.out _ hl).mono ?_
      rintro e w1 ⟨ga, gc, rfl, hg, hE⟩
      clear HG
      go_wp2_with fail
      go_loopw [6, 27] (fun t i wr => ∃ k : Nat, k ≤ ls.length ∧ i = .int .i64 k ∧ NmV wr w.heap.size (ls.take k).flatten t ∧ Ext w wr) (fun _ i _ => ls.length - (intOf i).toNat)
      case atStart => exact ⟨0, Nat.zero_le _, rfl, by simpa using hg, hE⟩
      case round =>
        clear hE hg
        obtain ⟨k, hk, rfl, hN, hE⟩ := hrel
        have hsz := hE.size
        obtain ⟨ta, tc, rfl⟩ := hN.form
        have hle0 := hfle k
        by_cases hlt : k < ls.length
        · have hx := List.getElem?_eq_getElem hlt
          obtain ⟨_, _, e, hr⟩ := HS.out.ext hE
          simp only [Value.slice.injEq, true_and] at e
          obtain ⟨rfl, rfl⟩ := e
          obtain ⟨b, o, u, rfl, hc, hu⟩ := hr k _ hx
          have htk := flatn_take hx
          have hle2 := hfle (k + 1)
          rw [htk, List.length_append] at hle2
          have HTK := Lib.hid htk
          have q1 : (k : Int) < (ls.length : Int) := by omega
          generalize ls[k] = l at *
          clear hr hx htk
          generalize (ls.take k).flatten = Fk at *
          rcases hu with ⟨rfl, rfl⟩ | ⟨g, ucap, cur, rfl, _, hgb, u1, u2, u3, u4⟩
          · have HN := Lib.hid (show NmV wr w.heap.size (ls.take (k + 1)).flatten (.slice ta Fk.length tc) by rw [HTK.out, List.append_nil]; exact hN)
            go_wp2_with (at_builtin; refine wpList_append_own_none rfl _ _ 24 rfl w.heap.size 9 i0 1 Tryz.underlying24 hinf _ _ _ rfl hN rfl ?_)
            go_roundw
            case rel => exact ⟨k + 1, by omega, by go_num, HN.out, hE⟩
            case measure => simp [intOf]; omega
          · have hnews : ∀ q uu, (l.map Value.string)[q]? = some uu → wr.cell? ((⟨g, 0, none⟩ : Addr).add q) = some uu := by
              intro q uu hq
              have e : (⟨g, 0, none⟩ : Addr).add q = ⟨g, q, none⟩ := by
                unfold Addr.add; split
                · rename_i h; subst h; rfl
                · simp
              rw [List.getElem?_map] at hq
              obtain ⟨s, hs, rfl⟩ := Option.map_eq_some_iff.1 hq
              rw [e, blk_cell hgb]
              exact u4 q s hs
            have hone : ∀ uu ∈ l.map Value.string, uu.oneCell' = true := by
              intro uu hu
              obtain ⟨_, _, rfl⟩ := List.mem_map.1 hu
              rfl
            go_wp2_with (at_builtin; refine wpList_append_own_at _ rfl _ _ 24 rfl w.heap.size 9 i0 _ 1 16 Tryz.underlying24 hinf hz0 hz1 hz2 rfl (by decide) _ _ _ rfl hN ⟨g, 0, none⟩ l.length ucap (l.map Value.string) rfl (by simp) hnews hone (by unfold maxLen; omega) (by omega) hsz ?_; intro v6 w6 hown6 hgrow6 _ hat6)
            have E6 : Ext w w6 := Ext.then hE (Chg.of_grownBy hgrow6) (fun b hb => (World.ownsRow.lt hN b hb).1)
            have HN := Lib.hid (show NmV w6 w.heap.size (ls.take (k + 1)).flatten v6 by
              rw [HTK.out]
              unfold NmV
              rw [List.length_append, List.map_append]
              exact hown6)
            clear hown6 hgrow6 hat6
            go_wp2_with fail
            go_roundw
            case rel => exact ⟨k + 1, by omega, by go_num, HN.out, E6⟩
            case measure => simp [intOf]; omega
        · obtain rfl : k = ls.length := by omega
          rw [List.take_length, HFL.out] at hN ⊢
          have HN := Lib.hid hN
          clear hN HS H
          go_wp2_with fail
          go_ret
          exact ⟨_, rfl, HN.out, hE⟩
theorem cutList_any (ls : List (List ByteArray)) (base : Nat) (v : Value) (w : World) (h : RdSS w base ls v) (hn : ls.length ≤ 1000) (hl : ls.flatten.length ≤ 1000000) :
    Calls Tryz.prog 29 #[v] w fun e w' => ∃ u, e = .returned u ∧ NmV w' w.heap.size ls.flatten u ∧ Ext w w' := by
  have H := Lib.hid (concatS_any ls base v w h hn hl)
  obtain ⟨a, cap, rfl, _⟩ := h
  generalize ls.flatten = F at *
  go_enter Tryz.func29, Tryz.ntmps29
  go_wp2_with fail
  refine H.out.mono ?_
  rintro e w1 ⟨u, rfl, hN, hE⟩
  obtain ⟨ta, tc, rfl⟩ := hN.form
  have HN := Lib.hid hN
  clear hN H
  go_wp2_with fail
  go_ret
  exact ⟨_, rfl, HN.out, hE⟩
theorem clipStr_any (a : Option Addr) (n cap : Nat) (w : World) (h : n ≤ cap) (hn : n ≤ 1000000) : Calls Tryz.prog 79 #[.slice a n cap] w fun e w' => e = .returned (.slice a n n) ∧ w' = w := by
  have q1 : (n : Int) ≤ (cap : Int) := by omega
  go_enter Tryz.func79, Tryz.ntmps79
  go_wp2_with fail
  go_ret
  exact ⟨rfl, rfl⟩
end Go.Proofs.YtgkbhonjodcakaaGreat
namespace Go.Proofs.YtgkbhonjodcakaaGreat
open Go.RowKit
set_option linter.unusedVariables false

/-- A row of the call's own, and its slice up to n of its m cells. -/
def TwRow (w : World) (E sz : Nat) (n : Nat) (css : List Value) (w' : World) (v : Value) : Prop :=
  ∃ g, v = .slice (some ⟨g, 0, none⟩) n (n + 1) ∧ w.heap.size ≤ g ∧ w'.ownsRow w.heap.size E sz (.slice (some ⟨g, 0, none⟩) (n + 1) (n + 1)) (n + 1) css ∧ Ext w w'
theorem TwStr.rd {w w' : World} {l : List ByteArray} {v : Value} (h : TwRow w 9 1 l.length (l.map Value.string ++ [.string spareS]) w' v) (hs : ∀ x, x ∈ l → x.size ≤ maxLen) (hf : fitsR l.length 16) : RdStrV w' w.heap.size true l v := by
  obtain ⟨g, rfl, hg, ho, he⟩ := h
  unfold fitsR at hf
  have hlt := (ho.lt g rfl).2
  refine ⟨_, _, rfl, hf, by omega, by unfold maxLen; omega, fun i x hx => ⟨hs x (List.mem_of_getElem? hx), g, 0, rfl, hg, hlt, ?_⟩, fun _ => ⟨by omega, g, 0, rfl, hg, hlt, ?_⟩⟩
  · have hi : i < l.length := (List.getElem?_eq_some_iff.1 hx).1
    rw [Nat.zero_add, ho.cellAt i (by omega), List.getElem?_append_left (by simpa using hi), List.getElem?_map, hx]; rfl
  · rw [Nat.zero_add, ho.cellAt l.length (by omega), List.getElem?_append_right (by simp)]; simp
theorem flat_len {α : Type} {f : α → List Value} {sz : Nat} (hf : ∀ x, (f x).length = sz) : ∀ l : List α, (l.flatMap f).length = l.length * sz
  | [] => by simp
  | x :: l => by rw [List.flatMap_cons, List.length_append, flat_len hf l, hf, List.length_cons, Nat.succ_mul]; omega
theorem flat_at {α : Type} {f : α → List Value} {sz : Nat} (hf : ∀ x, (f x).length = sz) : ∀ {l : List α} {i : Nat} {x : α} (r : List Value), l[i]? = some x → ∀ {j : Nat}, j < sz → ((l.flatMap f) ++ r)[i * sz + j]? = (f x)[j]?
  | [], i, x, r, h, j, hj => by simp at h
  | y :: l, 0, x, r, h, j, hj => by
    simp only [List.getElem?_cons_zero, Option.some.injEq] at h
    subst h
    rw [List.flatMap_cons, Nat.zero_mul, Nat.zero_add, List.append_assoc, List.getElem?_append_left (by rw [hf]; exact hj)]
  | y :: l, i + 1, x, r, h, j, hj => by
    simp only [List.getElem?_cons_succ] at h
    have := flat_at hf r h hj
    rw [List.flatMap_cons, List.append_assoc, List.getElem?_append_right (by rw [hf, Nat.succ_mul]; omega), hf, Nat.succ_mul, show i * sz + sz + j - sz = i * sz + j from by omega]
    exact this
theorem flat_end {α : Type} {f : α → List Value} {sz : Nat} (hf : ∀ x, (f x).length = sz) (l : List α) (r : List Value) (j : Nat) : ((l.flatMap f) ++ r)[l.length * sz + j]? = r[j]? := by
  rw [List.getElem?_append_right (by rw [flat_len hf]; omega), flat_len hf, show l.length * sz + j - l.length * sz = j from by omega]
def inC (x : InD) : List Value := [.string x.name, .int .u8 x.ty, .int .i64 x.st]
theorem inC_len (x : InD) : (inC x).length = 3 := rfl
theorem TwIn.rd {w w' : World} {l : List InD} {v : Value} (h : TwRow w 147 3 l.length (l.flatMap inC ++ [.string spareS, .int .u8 0, .int .i64 0]) w' v)
    (hs : ∀ (i : Nat) (x : InD), l[i]? = some x → x.name.size ≤ maxLen ∧ isU8 x.ty ∧ isI64 x.st) (hf : fitsR l.length 32) : RdInV w' w.heap.size true l v := by
  obtain ⟨g, rfl, hg, ho, he⟩ := h
  unfold fitsR at hf
  have hlt := (ho.lt g rfl).2
  refine ⟨_, _, rfl, hf, by omega, by unfold maxLen; omega, fun i x hx => ?_, fun _ => ⟨by omega, g, 0, rfl, hg, hlt, 0, 0, ?_, ?_, ?_⟩⟩
  · have hi : i < l.length := (List.getElem?_eq_some_iff.1 hx).1
    obtain ⟨h1, h2, h3⟩ := hs i x hx
    refine ⟨h1, h2, h3, g, 0, rfl, hg, hlt, ?_, ?_, ?_⟩
    · rw [Nat.zero_add, ho.cellAt (i * 3) (by omega), show i * 3 = i * 3 + 0 from rfl, flat_at inC_len _ hx (by omega)]; rfl
    · rw [Nat.zero_add, ho.cellAt (i * 3 + 1) (by omega), flat_at inC_len _ hx (by omega)]; rfl
    · rw [Nat.zero_add, ho.cellAt (i * 3 + 2) (by omega), flat_at inC_len _ hx (by omega)]; rfl
  · rw [Nat.zero_add, ho.cellAt (l.length * 3) (by omega), show l.length * 3 = l.length * 3 + 0 from rfl, flat_end inC_len]; rfl
  · rw [Nat.zero_add, ho.cellAt (l.length * 3 + 1) (by omega), flat_end inC_len]; rfl
  · rw [Nat.zero_add, ho.cellAt (l.length * 3 + 2) (by omega), flat_end inC_len]; rfl
end Go.Proofs.YtgkbhonjodcakaaGreat
namespace Go.Proofs.YtgkbhonjodcakaaGreat
open Go.RowKit
set_option linter.unusedVariables false
set_option linter.unusedSimpArgs false

/-- A list of numbers; t: with a mark behind. -/
def RdIntV (w : World) (lo : Nat) (t : Bool) (l : List Int) (v : Value) : Prop := ∃ a cap, v = .slice a l.length cap ∧ fitsR l.length 8 ∧ l.length ≤ cap ∧ cap ≤ maxLen ∧
  (∀ i x, l[i]? = some x → isI64 x ∧ ∃ b o, a = some ⟨b, o, none⟩ ∧ lo ≤ b ∧ b < w.heap.size ∧ w.cell? ⟨b, o + i, none⟩ = some (.int .i64 x)) ∧
  (t = true → l.length < cap ∧ ∃ b o, a = some ⟨b, o, none⟩ ∧ lo ≤ b ∧ b < w.heap.size ∧ w.cell? ⟨b, o + l.length, none⟩ = some (.int .i64 77))
theorem RdIntV.far {w w1 : World} {lo : Nat} {t : Bool} {S : Nat → Prop} {l : List Int} {v : Value} (h : RdIntV w lo t l v) (he : Chg S w w1) (hS : ∀ k, S k → k < lo) : RdIntV w1 lo t l v := by
  obtain ⟨a, cap, rfl, h4, h5, h6, h7, h8⟩ := h
  have hs := he.size
  refine ⟨a, cap, rfl, h4, h5, h6, fun i x hx => ?_, fun ht => ?_⟩
  · obtain ⟨h1, b, o, ha, hlo, hb, k0⟩ := h7 i x hx
    exact ⟨h1, b, o, ha, hlo, by omega, he.cell k0 (fun h => Nat.not_lt.2 hlo (hS _ h))⟩
  · obtain ⟨hc, b, o, ha, hlo, hb, k0⟩ := h8 ht
    exact ⟨hc, b, o, ha, hlo, by omega, he.cell k0 (fun h => Nat.not_lt.2 hlo (hS _ h))⟩
theorem RdIntV.ext {w w1 : World} {lo : Nat} {t : Bool} {l : List Int} {v : Value} (h : RdIntV w lo t l v) (he : Ext w w1) : RdIntV w1 lo t l v := h.far he (fun _ h => h.elim)
theorem RdIntV.lower {w : World} {lo lo' : Nat} {t : Bool} {l : List Int} {v : Value} (h : RdIntV w lo t l v) (hl : lo' ≤ lo) : RdIntV w lo' t l v := by
  obtain ⟨a, cap, rfl, h4, h5, h6, h7, h8⟩ := h
  refine ⟨a, cap, rfl, h4, h5, h6, fun i x hx => ?_, fun ht => ?_⟩
  · obtain ⟨h1, b, o, ha, hlo, hr⟩ := h7 i x hx
    exact ⟨h1, b, o, ha, by omega, hr⟩
  · obtain ⟨hc, b, o, ha, hlo, hr⟩ := h8 ht
    exact ⟨hc, b, o, ha, by omega, hr⟩
theorem RdIntV.form {w : World} {lo : Nat} {t : Bool} {l : List Int} {v : Value} (h : RdIntV w lo t l v) : ∃ a cap, v = .slice a l.length cap ∧ fitsR l.length 8 ∧ l.length ≤ cap ∧ cap ≤ maxLen := by
  obtain ⟨a, cap, rfl, h1, h2, h3, _⟩ := h
  exact ⟨a, cap, rfl, h1, h2, h3⟩
theorem RdIntV.get {w : World} {lo : Nat} {t : Bool} {l : List Int} {a : Option Addr} {n cap : Nat} (h : RdIntV w lo t l (.slice a n cap)) {i : Nat} {x : Int} (hx : l[i]? = some x) : isI64 x ∧ ∃ b o, a = some ⟨b, o, none⟩ ∧ lo ≤ b ∧ b < w.heap.size ∧ w.cell? ⟨b, o + i, none⟩ = some (.int .i64 x) := by
  obtain ⟨a', cap', e, _, _, _, h7, _⟩ := h
  simp only [Value.slice.injEq] at e
  obtain ⟨rfl, _, _⟩ := e
  exact h7 i x hx
theorem TwInt.rd {w w' : World} {l : List Int} {v : Value} (h : TwRow w 3 1 l.length (l.map (Value.int .i64) ++ [.int .i64 77]) w' v) (hs : ∀ x, x ∈ l → isI64 x) (hf : fitsR l.length 8) : RdIntV w' w.heap.size true l v := by
  obtain ⟨g, rfl, hg, ho, he⟩ := h
  unfold fitsR at hf
  have hlt := (ho.lt g rfl).2
  refine ⟨_, _, rfl, hf, by omega, by unfold maxLen; omega, fun i x hx => ⟨hs x (List.mem_of_getElem? hx), g, 0, rfl, hg, hlt, ?_⟩, fun _ => ⟨by omega, g, 0, rfl, hg, hlt, ?_⟩⟩
  · have hi : i < l.length := (List.getElem?_eq_some_iff.1 hx).1
    rw [Nat.zero_add, ho.cellAt i (by omega), List.getElem?_append_left (by simpa using hi), List.getElem?_map, hx]; rfl
  · rw [Nat.zero_add, ho.cellAt l.length (by omega), List.getElem?_append_right (by simp)]; simp
end Go.Proofs.YtgkbhonjodcakaaGreat
namespace Go.Proofs.YtgkbhonjodcakaaGreat
open Go.RowKit
set_option linter.unusedVariables false
set_option linter.unusedSimpArgs false

def askV (x : Ask) : Value := .agg #[.int .i64 x.flow, .int .i64 x.src, .int .i64 x.more, .string x.ref.1, .int .i64 x.ref.2]
/-- Numbers that may be, as many as flows. -/
def LsOk (p : PrD) (l : List Int) : Prop := l.length = p.flows.length ∧ ∀ n, n ∈ l → 0 ≤ n ∧ n ≤ 1000
set_option maxRecDepth 100000 in
set_option maxHeartbeats 4000000 in
theorem askLeast_any (p : PrD) (x : Ask) (l : List Int) (v : Value) (w : World) (hx : AskOk p x) (hl : RdIntV w 0 false l v) (hok : LsOk p l) : Calls Tryz.prog 24 #[askV x, v] w (RetE (leastA l x) w) := by
  obtain ⟨f, s, m, r1, r2⟩ := x
  have h1 := hx.src0
  have h2 := hx.src1
  have h3 := hx.more0
  have h4 := hx.more1
  have hlen : l.length = p.flows.length := hok.1
  simp only at h1 h2 h3 h4
  have HL := Lib.hid hl
  obtain ⟨la, lc, rfl, hft, _⟩ := hl.form
  unfold fitsR at hft
  have HK := Lib.hid hok
  have HLEN := Lib.hid hlen
  have E0 : Ext w (w.alloc (.cells #[.int .i64 f, .int .i64 s, .int .i64 m, .string r1, .int .i64 r2] 80)) := (Chg.refl _ _).alloc _
  clear hx hok hlen hl
  unfold askV
  by_cases hs : s < 0
  · have hfin : leastA l ⟨f, s, m, r1, r2⟩ = m := by unfold leastA; simp [hs]
    rw [hfin]
    go_enter Tryz.func24, Tryz.ntmps24
    go_wp2_with fail
    go_ret
    exact ⟨rfl, E0⟩
  · obtain ⟨k, rfl⟩ := Int.eq_ofNat_of_zero_le (show 0 ≤ s by omega)
    have hk : k < l.length := by have := HLEN.out; omega
    have hx := List.getElem?_eq_getElem hk
    obtain ⟨_, b2, o2, rfl, _, _, c2⟩ := HL.out.get hx
    have hrg := HK.out.2 _ (List.getElem_mem hk)
    have hfin : leastA l ⟨f, k, m, r1, r2⟩ = l[k] + m := by
      unfold leastA
      rw [if_neg hs]
      simp only [Int.toNat_natCast]
      rw [List.getD_eq_getElem?_getD, hx]; rfl
    rw [hfin]
    have hkl : (k : Int) < (l.length : Int) := by omega
    have bs : ¬ (k : Int) < 0 := by omega
    generalize l[k] = u at *
    have c2 := E0.cell c2
    have x0 := blk_cell (heap_alloc_new w (.cells #[.int .i64 f, .int .i64 k, .int .i64 m, .string r1, .int .i64 r2] 80)) 1
    have x1 := blk_cell (heap_alloc_new w (.cells #[.int .i64 f, .int .i64 k, .int .i64 m, .string r1, .int .i64 r2] 80)) 2
    simp only [List.getElem?_toArray, List.getElem?_cons_zero, List.getElem?_cons_succ] at x0 x1
    clear hx hfin
    go_enter Tryz.func24, Tryz.ntmps24
    go_wp2_with fail
    generalize (w.alloc (.cells #[.int .i64 f, .int .i64 k, .int .i64 m, .string r1, .int .i64 r2] 80)) = W0 at *
    go_quiet (fail)
    go_wp2_with fail
    go_ret
    exact ⟨rfl, E0.drewN _⟩
def lateBad (n : Int) : Bool := decide (n < 0) || decide (1000 < n)
theorem lateBad_one (n : Int) (w : World) : Calls Tryz.prog 73 #[.int .i64 n] w (RetV (lateBad n) w) := by
  have key : ∀ b, b = lateBad n → RetV (lateBad n) w (.returned (.bool b)) w := fun b h => by rw [h]; exact ⟨rfl, Chg.refl _ _⟩
  have K := Lib.hid key
  clear key
  by_cases h : n < 0
  · have e : true = lateBad n := by simp [lateBad, h]
    have E := Lib.hid e
    clear e
    go_enter Tryz.func73, Tryz.ntmps73
    go_wp2_with fail
    go_ret
    exact K.out _ E.out
  · have e : decide (1000 < n) = lateBad n := by simp [lateBad, h]
    have E := Lib.hid e
    clear e
    go_enter Tryz.func73, Tryz.ntmps73
    go_wp2_with fail
    go_ret
    exact K.out _ E.out
set_option maxHeartbeats 1000000 in
theorem idxN_any (l : List Int) (v : Value) (w : World) (h : RdIntV w 0 false l v) :
    Calls Tryz.prog 113 #[v, .func (.func 73) #[] #[]] w (RetIxB (l.any lateBad) w) := by
  obtain ⟨a, cap, rfl, hrest⟩ := h
  have h : RdIntV w 0 false l (.slice a l.length cap) := ⟨_, _, rfl, hrest⟩
  have hn : l.length ≤ 9000000000000000000 := by have := hrest.1; unfold fitsR at this; omega
  clear hrest
  have hp := fun (x : Int) (W : World) => lateBad_one x W
  have HP := Lib.hid hp
  clear hp
  generalize hpe : lateBad = P at *
  go_enter Tryz.func113, Tryz.ntmps113
  go_wp2_with fail
  go_loopw [8] (fun i wr => ∃ k : Nat, k ≤ l.length ∧ i = .int .i64 k ∧ (l.any P) = ((l.drop k).any P) ∧ Ext w wr) (fun i _ => l.length - (intOf i).toNat)
  case atStart => exact ⟨0, Nat.zero_le _, rfl, rfl, Chg.refl _ _⟩
  case round =>
    obtain ⟨k, hk, rfl, hE, hX⟩ := hrel
    have HE := Lib.hid hE
    clear hE
    by_cases hlt : k < l.length
    · have hx : l[k]? = some l[k] := List.getElem?_eq_getElem hlt
      have q1 : (k : Int) < (l.length : Int) := by omega
      have HS := Lib.hid (anyG_at (f := P) hx)
      obtain ⟨_, b, o, rfl, _, hlt2, c0⟩ := (h.ext hX).get hx
      generalize l[k] = y at *
      clear hx
      go_wp2_with fail
      refine (HP.out y wr).mono ?_
      rintro e w1 ⟨he, hE1⟩
      cases hb : P y
      · rw [hb] at he
        subst he
        have H2 : Hid ((l.any P) = ((l.drop (k + 1)).any P)) := by
          show _ = _
          rw [HE.out, HS.out, hb, Bool.false_or]
        have hX1 := hX.trans hE1
        clear hX hE1
        go_wp2_with fail
        go_roundw
        case rel => exact ⟨k + 1, by omega, by go_num, H2.out, hX1⟩
        case measure => simp [intOf]; omega
      · rw [hb] at he
        subst he
        have H2 : Hid ((l.any P) = true) := by
          show _ = _
          rw [HE.out, HS.out, hb, Bool.true_or]
        go_wp2_with fail
        go_ret
        exact ⟨⟨k, rfl, by rw [H2.out]; simp⟩, hX.trans hE1⟩
    · obtain rfl : k = l.length := by omega
      have H2 := Lib.hid (HE.out.trans (show ((l.drop l.length).any P) = false by rw [List.drop_length]; rfl))
      go_wp2_with fail
      go_ret
      exact ⟨⟨(-1 : Int), rfl, by rw [H2.out]; exact ⟨fun h => absurd h (by decide), fun h => by cases h⟩⟩, hX⟩
theorem hasN_any (l : List Int) (v : Value) (w : World) (h : RdIntV w 0 false l v) :
    Calls Tryz.prog 72 #[v, .func (.func 73) #[] #[]] w (RetV (l.any lateBad) w) := by
  have hi := idxN_any l v w h
  obtain ⟨a, cap, rfl, _⟩ := h
  have HI := Lib.hid hi
  clear hi
  generalize (l.any lateBad) = b at *
  go_enter Tryz.func72, Tryz.ntmps72
  go_wp2_with fail
  refine HI.out.mono ?_
  rintro e w1 ⟨⟨n, rfl, hn⟩, hE⟩
  have HN := Lib.hid hn
  clear hn
  go_wp2_with fail
  go_ret
  exact retV (Bool.eq_iff_iff.2 (decide_eq_true_iff.trans HN.out)) hE
theorem lsOk_iff {p : PrD} {l : List Int} : LsOk p l ↔ l.length = p.flows.length ∧ l.any lateBad = false := by
  unfold LsOk
  refine and_congr Iff.rfl ?_
  rw [List.any_eq_false]
  refine ⟨fun h n hn => ?_, fun h n hn => ?_⟩
  · have := h n hn
    simp [lateBad]; omega
  · have := h n hn
    simp [lateBad] at this; omega
end Go.Proofs.YtgkbhonjodcakaaGreat
namespace Go.Proofs.YtgkbhonjodcakaaGreat
open Go.RowKit
set_option linter.unusedVariables false
def flC (x : FlD) (v : Value) : List Value := [.string x.name, .int .u8 x.ty, .int .i64 x.st, .int .i64 x.df, .int .u8 x.body.op, .int .i64 x.body.n, .string x.body.name, v]
def flP (p : FlD × Value) : List Value := flC p.1 p.2
theorem flP_len (p : FlD × Value) : (flP p).length = 8 := rfl
theorem TwFl.rd {w w' : World} {l : List FlD} {ps : List (FlD × Value)} {v : Value} (hp : ps.map (·.1) = l) (h : TwRow w 43 8 l.length (ps.flatMap flP ++ flMark) w' v) (hr : ∀ p, p ∈ ps → RdExV w' (w.heap.size + 1) true p.1.body.args p.2)
    (hs : ∀ (i : Nat) (x : FlD), l[i]? = some x → x.name.size ≤ maxLen ∧ isU8 x.ty ∧ isI64 x.st ∧ isI64 x.df ∧ isU8 x.body.op ∧ isI64 x.body.n ∧ x.body.name.size ≤ maxLen) (hf : fitsR l.length 96) : RdFlV w' w.heap.size true l v := by
  obtain ⟨g, rfl, hg, ho, he⟩ := h
  unfold fitsR at hf
  have hlt := (ho.lt g rfl).2
  have hlen : ps.length = l.length := by rw [← hp, List.length_map]
  refine ⟨_, _, rfl, hf, by omega, by unfold maxLen; omega, fun i x hx => ?_, fun _ => ⟨by omega, g, 0, rfl, hg, hlt, ?_, fun j h1 h2 => ?_⟩⟩
  · have hi : i < l.length := (List.getElem?_eq_some_iff.1 hx).1
    have hpi : ps[i]? = some (ps[i]'(by omega)) := List.getElem?_eq_getElem (by omega)
    have hfst : (ps[i]'(by omega)).1 = x := by
      have : (ps.map (·.1))[i]? = some x := by rw [hp]; exact hx
      rw [List.getElem?_map, hpi] at this
      simpa using this
    generalize ps[i]'(by omega) = p at *
    obtain ⟨y, v⟩ := p
    simp only at hfst
    subst hfst
    obtain ⟨h1, h2, h3, h4, h5, h6, h7⟩ := hs i y hx
    have hv := (hr (y, v) (List.mem_of_getElem? hpi)).lower (lo' := w.heap.size) (by omega)
    have q0 : w'.cell? ⟨g, 0 + i * 8, none⟩ = (flP (y, v))[0]? := by rw [Nat.zero_add, ho.cellAt (i * 8) (by omega), show i * 8 = i * 8 + 0 from rfl, flat_at flP_len _ hpi (by omega)]
    have q1 : w'.cell? ⟨g, 0 + i * 8 + 1, none⟩ = (flP (y, v))[1]? := by rw [Nat.zero_add, ho.cellAt (i * 8 + 1) (by omega), flat_at flP_len _ hpi (by omega)]
    have q2 : w'.cell? ⟨g, 0 + i * 8 + 2, none⟩ = (flP (y, v))[2]? := by rw [Nat.zero_add, ho.cellAt (i * 8 + 2) (by omega), flat_at flP_len _ hpi (by omega)]
    have q3 : w'.cell? ⟨g, 0 + i * 8 + 3, none⟩ = (flP (y, v))[3]? := by rw [Nat.zero_add, ho.cellAt (i * 8 + 3) (by omega), flat_at flP_len _ hpi (by omega)]
    have q4 : w'.cell? ⟨g, 0 + i * 8 + 4, none⟩ = (flP (y, v))[4]? := by rw [Nat.zero_add, ho.cellAt (i * 8 + 4) (by omega), flat_at flP_len _ hpi (by omega)]
    have q5 : w'.cell? ⟨g, 0 + i * 8 + 4 + 1, none⟩ = (flP (y, v))[5]? := by rw [Nat.zero_add, ho.cellAt (i * 8 + 5) (by omega), flat_at flP_len _ hpi (by omega)]
    have q6 : w'.cell? ⟨g, 0 + i * 8 + 4 + 2, none⟩ = (flP (y, v))[6]? := by rw [Nat.zero_add, ho.cellAt (i * 8 + 6) (by omega), flat_at flP_len _ hpi (by omega)]
    have q7 : w'.cell? ⟨g, 0 + i * 8 + 4 + 3, none⟩ = (flP (y, v))[7]? := by rw [Nat.zero_add, ho.cellAt (i * 8 + 7) (by omega), flat_at flP_len _ hpi (by omega)]
    exact ⟨h1, h2, h3, h4, g, 0, rfl, hg, hlt, q0, q1, q2, q3, h5, h6, h7, v, hv, q4, q5, q6, q7⟩
  · rw [Nat.zero_add, ← hlen, ho.cellAt (ps.length * 8) (by omega), show ps.length * 8 = ps.length * 8 + 0 from rfl, flat_end flP_len]; rfl
  · rw [Nat.zero_add, ← hlen, ho.cellAt (ps.length * 8 + j) (by omega), flat_end flP_len]
    exact ⟨⟨_, List.getElem?_eq_getElem (show j < flMark.length from h2)⟩, List.getElem?_eq_getElem (show j < flMark.length from h2)⟩
theorem TwFl.rd' {w w' : World} {l : List FlD} {ps : List (FlD × Value)} {v : Value} (hp : ps.map (·.1) = l) (h : TwRow w 43 8 l.length (ps.flatMap flP ++ flMark) w' v) (hr : ∀ p, p ∈ ps → RdExV w' w.heap.size true p.1.body.args p.2)
    (hs : ∀ (i : Nat) (x : FlD), l[i]? = some x → x.name.size ≤ maxLen ∧ isU8 x.ty ∧ isI64 x.st ∧ isI64 x.df ∧ isU8 x.body.op ∧ isI64 x.body.n ∧ x.body.name.size ≤ maxLen) (hf : fitsR l.length 96) : RdFlV w' w.heap.size true l v := by
  obtain ⟨g, rfl, hg, ho, he⟩ := h
  unfold fitsR at hf
  have hlt := (ho.lt g rfl).2
  have hlen : ps.length = l.length := by rw [← hp, List.length_map]
  refine ⟨_, _, rfl, hf, by omega, by unfold maxLen; omega, fun i x hx => ?_, fun _ => ⟨by omega, g, 0, rfl, hg, hlt, ?_, fun j h1 h2 => ?_⟩⟩
  · have hi : i < l.length := (List.getElem?_eq_some_iff.1 hx).1
    have hpi : ps[i]? = some (ps[i]'(by omega)) := List.getElem?_eq_getElem (by omega)
    have hfst : (ps[i]'(by omega)).1 = x := by
      have : (ps.map (·.1))[i]? = some x := by rw [hp]; exact hx
      rw [List.getElem?_map, hpi] at this
      simpa using this
    generalize ps[i]'(by omega) = p at *
    obtain ⟨y, v⟩ := p
    simp only at hfst
    subst hfst
    obtain ⟨h1, h2, h3, h4, h5, h6, h7⟩ := hs i y hx
    have hv := hr (y, v) (List.mem_of_getElem? hpi)
    have q0 : w'.cell? ⟨g, 0 + i * 8, none⟩ = (flP (y, v))[0]? := by rw [Nat.zero_add, ho.cellAt (i * 8) (by omega), show i * 8 = i * 8 + 0 from rfl, flat_at flP_len _ hpi (by omega)]
    have q1 : w'.cell? ⟨g, 0 + i * 8 + 1, none⟩ = (flP (y, v))[1]? := by rw [Nat.zero_add, ho.cellAt (i * 8 + 1) (by omega), flat_at flP_len _ hpi (by omega)]
    have q2 : w'.cell? ⟨g, 0 + i * 8 + 2, none⟩ = (flP (y, v))[2]? := by rw [Nat.zero_add, ho.cellAt (i * 8 + 2) (by omega), flat_at flP_len _ hpi (by omega)]
    have q3 : w'.cell? ⟨g, 0 + i * 8 + 3, none⟩ = (flP (y, v))[3]? := by rw [Nat.zero_add, ho.cellAt (i * 8 + 3) (by omega), flat_at flP_len _ hpi (by omega)]
    have q4 : w'.cell? ⟨g, 0 + i * 8 + 4, none⟩ = (flP (y, v))[4]? := by rw [Nat.zero_add, ho.cellAt (i * 8 + 4) (by omega), flat_at flP_len _ hpi (by omega)]
    have q5 : w'.cell? ⟨g, 0 + i * 8 + 4 + 1, none⟩ = (flP (y, v))[5]? := by rw [Nat.zero_add, ho.cellAt (i * 8 + 5) (by omega), flat_at flP_len _ hpi (by omega)]
    have q6 : w'.cell? ⟨g, 0 + i * 8 + 4 + 2, none⟩ = (flP (y, v))[6]? := by rw [Nat.zero_add, ho.cellAt (i * 8 + 6) (by omega), flat_at flP_len _ hpi (by omega)]
    have q7 : w'.cell? ⟨g, 0 + i * 8 + 4 + 3, none⟩ = (flP (y, v))[7]? := by rw [Nat.zero_add, ho.cellAt (i * 8 + 7) (by omega), flat_at flP_len _ hpi (by omega)]
    exact ⟨h1, h2, h3, h4, g, 0, rfl, hg, hlt, q0, q1, q2, q3, h5, h6, h7, v, hv, q4, q5, q6, q7⟩
  · rw [Nat.zero_add, ← hlen, ho.cellAt (ps.length * 8) (by omega), show ps.length * 8 = ps.length * 8 + 0 from rfl, flat_end flP_len]; rfl
  · rw [Nat.zero_add, ← hlen, ho.cellAt (ps.length * 8 + j) (by omega), flat_end flP_len]
    exact ⟨⟨_, List.getElem?_eq_getElem (show j < flMark.length from h2)⟩, List.getElem?_eq_getElem (show j < flMark.length from h2)⟩
end Go.Proofs.YtgkbhonjodcakaaGreat
namespace Go.Proofs.YtgkbhonjodcakaaGreat
open Go.RowKit
set_option linter.unusedVariables false
theorem ownsRow_base {w : World} {base base' : Nat} {e : TypeId} {size n : Nat} {v : Value} {xs : List Value} (h : w.ownsRow base e size v n xs) (hb : base' ≤ base) : w.ownsRow base' e size v n xs := by
  refine ⟨h.1, ?_⟩
  rcases h.2 with h | ⟨g, cap, cur, h1, h2, h3⟩
  · exact .inl h
  · exact .inr ⟨g, cap, cur, h1, Nat.le_trans hb h2, h3⟩
theorem ownsRow_ext {w w1 : World} {base : Nat} {e : TypeId} {size n : Nat} {v : Value} {xs : List Value} (h : w.ownsRow base e size v n xs) (he : Ext w w1) : w1.ownsRow base e size v n xs := by
  refine ⟨h.1, ?_⟩
  rcases h.2 with h | ⟨g, cap, cur, h1, h2, h3, h4⟩
  · exact .inl h
  · exact .inr ⟨g, cap, cur, h1, h2, he.heap h3, h4⟩
/-- The twin's parts. -/
structure TwPr (w : World) (p : PrD) (w' : World) (vi vf vo : Value) (ps : List (FlD × Value)) : Prop where
  ins : TwRow w 147 3 p.ins.length (p.ins.flatMap inC ++ [.string spareS, .int .u8 0, .int .i64 0]) w' vi
  fst : ps.map (·.1) = p.flows
  flows : TwRow w 43 8 p.flows.length (ps.flatMap flP ++ flMark) w' vf
  bodies : ∀ q, q ∈ ps → RdExV w' w.heap.size true q.1.body.args q.2
  outs : TwRow w 9 1 p.outs.length (p.outs.map Value.string ++ [.string spareS]) w' vo
  low : ∀ q, q ∈ ps → ∀ g, vf.ownBlock = some g → RdExV w' (g + 1) true q.1.body.args q.2
  ext : Ext w w'
theorem ownsRow_chg {w w1 : World} {base : Nat} {e : TypeId} {size n : Nat} {g cap : Nat} {xs : List Value} {S : Nat → Prop} (h : w.ownsRow base e size (.slice (some ⟨g, 0, none⟩) n cap) n xs) (he : Chg S w w1) (hs : ¬ S g) : w1.ownsRow base e size (.slice (some ⟨g, 0, none⟩) n cap) n xs := by
  refine ⟨h.1, ?_⟩
  rcases h.2 with h | ⟨g', cap', cur, h1, h2, h3, h4⟩
  · exact .inl h
  · refine .inr ⟨g', cap', cur, h1, h2, he.heap h3 ?_, h4⟩
    simp only [Value.slice.injEq, Option.some.injEq, Addr.mk.injEq] at h1
    rw [← h1.1.1]; exact hs
theorem TwRow.turn {w0 w w1 w2 : World} {E sz n : Nat} {css : List Value} {v : Value} {S : Nat → Prop} (h : TwRow w E sz n css w1 v) (h0 : Ext w0 w) (h2 : Chg S w1 w2) (hs : ∀ q, S q → q < w.heap.size) (hs0 : ∀ q, S q → w0.heap.size ≤ q) : TwRow w0 E sz n css w2 v := by
  obtain ⟨g, rfl, hg, ho, he⟩ := h
  have := h0.size
  exact ⟨g, rfl, by omega, ownsRow_chg (ownsRow_base ho this) h2 (fun h => by have := hs g h; omega), Ext.then (h0.trans he) h2 hs0⟩
theorem TwPr.of {w W w3 w4 w5 w6 : World} {p : PrD} {v3 v4 v5 : Value} {ps : List (FlD × Value)} {b : Nat} (D : Ext w W) (ht3 : TwRow W 147 3 p.ins.length (p.ins.flatMap inC ++ [.string spareS, .int .u8 0, .int .i64 0]) w3 v3) (he3 : Ext W w3)
    (hps : ps.map (·.1) = p.flows) (ht4 : TwRow w3 43 8 p.flows.length (ps.flatMap flP ++ flMark) w4 v4) (he4 : Ext w3 w4) (hb4 : ∀ q, q ∈ ps → RdExV w4 (w3.heap.size + 1) true q.1.body.args q.2 ∧ ∀ g, v4.ownBlock = some g → g = w3.heap.size)
    (ht5 : TwRow w4 9 1 p.outs.length (p.outs.map Value.string ++ [.string spareS]) w5 v5) (he5 : Ext w4 w5) (hs : Chg (fun q => q = b) w5 w6) (hb : b < W.heap.size) (hb0 : w.heap.size ≤ b) : TwPr w p w6 v3 v4 v5 ps := by
  have s3 := he3.size
  have s4 := he4.size
  have sD := D.size
  have h45 : Chg (fun q => q = b) w4 w6 := (he5.mono (fun _ _ h => h.elim)).trans hs
  have h35 : Chg (fun q => q = b) w3 w6 := (he4.mono (fun _ _ h => h.elim)).trans h45
  refine ⟨ht3.turn D h35 (fun q hq => by omega) (fun q hq => by omega), hps, ht4.turn (D.trans he3) h45 (fun q hq => by omega) (fun q hq => by omega), fun q hq => ?_, ht5.turn ((D.trans he3).trans he4) hs (fun q hq => by omega) (fun q hq => by omega), fun q hq g hg => ?_, ?_⟩
  · exact ((hb4 q hq).1.far h45 (fun q hq => by omega)).lower (by omega)
  · rw [(hb4 q hq).2 g hg]
    exact (hb4 q hq).1.far h45 (fun q hq => by omega)
  · exact Ext.then (((D.trans he3).trans he4).trans he5) hs (fun q hq => by omega)
theorem TwPr.rd {w w' : World} {p : PrD} {cs : Array Value} {vi vf vo : Value} {ps : List (FlD × Value)} (h : TwPr w p w' vi vf vo ps) (hp : RdPr w 0 false p cs) : RdPr w' w.heap.size true p #[.int .i64 p.st, vi, vf, vo] := by
  obtain ⟨_, _, _, _, h1, hi, hf, ho⟩ := hp
  obtain ⟨_, _, _, i1, i2, i3, i4, _⟩ := hi
  obtain ⟨_, _, _, f1, f2, f3, f4, _⟩ := hf
  obtain ⟨_, _, _, o1, o2, o3, o4, _⟩ := ho
  refine ⟨vi, vf, vo, rfl, h1, TwIn.rd h.ins (fun i x hx => ?_) i1, TwFl.rd' h.fst h.flows h.bodies (fun i x hx => ?_) f1, TwStr.rd h.outs (fun x hx => ?_) o1⟩
  · obtain ⟨a, b, c, _⟩ := i4 i x hx
    exact ⟨a, b, c⟩
  · obtain ⟨a, b, c, d, _, _, _, _, _, _, _, _, _, e, f, g, _⟩ := f4 i x hx
    exact ⟨a, b, c, d, e, f, g⟩
  · obtain ⟨i, hi, rfl⟩ := List.getElem_of_mem hx
    exact (o4 i _ (List.getElem?_eq_getElem hi)).1
end Go.Proofs.YtgkbhonjodcakaaGreat
namespace Go.Proofs.YtgkbhonjodcakaaGreat
open Go.RowKit
set_option linter.unusedVariables false
set_option linter.unusedSimpArgs false

/-- The cells tell the elements, each in sz of them. -/
def RowOf {α : Type} (f : α → List Value) (sz : Nat) (cur : Array Value) (ps : List α) : Prop := ∀ (i : Nat) (x : α), ps[i]? = some x → ∀ c, c < sz → cur[i * sz + c]? = (f x)[c]?
theorem RowOf.set {α : Type} {f : α → List Value} {sz : Nat} {cur : Array Value} {ps : List α} (h : RowOf f sz cur ps) {k j : Nat} {x x' : α} {u : Value} (hx : ps[k]? = some x) (hj : j < sz) (hs : k * sz + j < cur.size)
    (h1 : ∀ c, c < sz → c ≠ j → (f x')[c]? = (f x)[c]?) (h2 : (f x')[j]? = some u) : RowOf f sz (cur.setIfInBounds (k * sz + j) u) (ps.set k x') := by
  intro i y hy c hc
  by_cases hik : i = k
  · subst hik
    have hl := (List.getElem?_eq_some_iff.1 hx).1
    rw [List.getElem?_set_self hl] at hy
    simp only [Option.some.injEq] at hy
    subst hy
    by_cases hcj : c = j
    · subst hcj
      rw [Array.getElem?_setIfInBounds, if_pos rfl, if_pos hs, h2]
    · rw [Array.getElem?_setIfInBounds, if_neg (by omega), h1 c hc hcj]
      exact h i x hx c hc
  · rw [List.getElem?_set_ne (fun e => hik e.symm)] at hy
    have hne : k * sz + j ≠ i * sz + c := fun e => by
      rcases Nat.lt_or_gt_of_ne hik with hl | hl
      · have : (i + 1) * sz ≤ k * sz := Nat.mul_le_mul_right sz hl
        rw [Nat.add_mul] at this
        omega
      · have : (k + 1) * sz ≤ i * sz := Nat.mul_le_mul_right sz hl
        rw [Nat.add_mul] at this
        omega
    rw [Array.getElem?_setIfInBounds, if_neg hne]
    exact h i y hy c hc
theorem RowOf.own {α : Type} {f : α → List Value} {sz : Nat} (hf : ∀ x, (f x).length = sz) {w : World} {base e g n cap : Nat} {ps : List α} {r : List Value} (h : w.ownsRow base e sz (.slice (some ⟨g, 0, none⟩) n cap) n (ps.flatMap f ++ r)) :
    ∃ cur, w.heap[g]? = some (.cells cur e (0, 0)) ∧ cur.size = cap * sz ∧ RowOf f sz cur ps ∧ n ≤ cap ∧ cap ≤ maxLen ∧ base ≤ g := by
  rcases h with ⟨hl, h | ⟨g', cap', cur, hv, hb, hh, hc1, hc2, hsz, ht⟩⟩
  · cases h.1
  · simp only [Value.slice.injEq, Option.some.injEq, Addr.mk.injEq, and_true] at hv
    obtain ⟨rfl, _, rfl⟩ := hv
    refine ⟨cur, hh, hsz, fun i x hx c hc => ?_, hc1, hc2, hb⟩
    have hi := (List.getElem?_eq_some_iff.1 hx).1
    have hlen := flat_len hf ps
    have : i * sz + c < n * sz := by
      have h3 : (i + 1) * sz ≤ ps.length * sz := Nat.mul_le_mul_right sz hi
      rw [Nat.add_mul] at h3
      have h4 : (ps.flatMap f ++ r).length = n * sz := hl
      rw [List.length_append, hlen] at h4
      omega
    have e1 : cur[i * sz + c]? = (cur.toList.take (n * sz))[i * sz + c]? := by rw [List.getElem?_take, if_pos this]; simp
    rw [e1, ht, flat_at hf r hx hc]
theorem TwRow.block {w w1 : World} {E sz n : Nat} {css : List Value} {v : Value} (h : TwRow w E sz n css w1 v) : ∃ g cur, v = .slice (some ⟨g, 0, none⟩) n (n + 1) ∧ w.heap.size ≤ g ∧ w1.heap[g]? = some (.cells cur E (0, 0)) ∧ cur.size = (n + 1) * sz := by
  obtain ⟨g, rfl, hg, ho, he⟩ := h
  rcases ho.2 with ⟨h0, _⟩ | ⟨g', cap', cur, hv, _, hh, _, _, hsz, _⟩
  · cases h0
  · simp only [Value.slice.injEq, Option.some.injEq, Addr.mk.injEq, and_true] at hv
    obtain ⟨rfl, _, rfl⟩ := hv
    exact ⟨g, cur, rfl, hg, hh, hsz⟩
theorem TwRow.other {w w1 w2 : World} {E E' sz n g : Nat} {css : List Value} {v : Value} {cur : Array Value} (h : TwRow w E sz n css w1 v) (hg : w1.heap[g]? = some (.cells cur E' (0, 0))) (hne : E ≠ E') (hc : Chg (fun q => q = g) w1 w2) (hgw : w.heap.size ≤ g) : TwRow w E sz n css w2 v := by
  obtain ⟨gi, cur', hv', _, hh, _⟩ := h.block
  obtain ⟨gi', rfl, hgi, ho, he⟩ := h
  simp only [Value.slice.injEq, Option.some.injEq, Addr.mk.injEq, and_true] at hv'
  subst hv'
  refine ⟨gi', rfl, hgi, ownsRow_chg ho hc (fun e => ?_), Ext.then he hc (fun b hb => by omega)⟩
  subst e
  rw [hg] at hh
  simp only [Option.some.injEq, Obj.cells.injEq] at hh
  exact hne hh.2.1.symm
/-- A flow's cells may stand in memory. -/
def FlFine (x : FlD) : Prop := x.name.size ≤ maxLen ∧ isU8 x.ty ∧ isI64 x.st ∧ isI64 x.df ∧ isU8 x.body.op ∧ isI64 x.body.n ∧ x.body.name.size ≤ maxLen
/-- A row of flows in memory reads as these. -/
theorem RowOf.rdFl {w0 w : World} {g cap : Nat} {cur : Array Value} {ps : List (FlD × Value)} (hr : RowOf flP 8 cur ps) (hg : w.heap[g]? = some (.cells cur 43 (0, 0))) (hE : Ext w0 w)
    (hps : ∀ p, p ∈ ps → FlFine p.1 ∧ RdExV w0 0 false p.1.body.args p.2) (h1 : ps.length ≤ cap) (h2 : cap ≤ maxLen) (h3 : fitsR ps.length 96) : RdFlV w 0 false (ps.map (·.1)) (.slice (some ⟨g, 0, none⟩) ps.length cap) := by
  have hlt := lt_of_block hg
  refine ⟨_, _, by rw [List.length_map], by rw [List.length_map]; exact h3, by rw [List.length_map]; exact h1, h2, fun i x hx => ?_, fun h => by cases h⟩
  rw [List.getElem?_map] at hx
  obtain ⟨p, hp, rfl⟩ := Option.map_eq_some_iff.1 hx
  obtain ⟨⟨k1, k2, k3, k4, k5, k6, k7⟩, hv⟩ := hps p (List.mem_of_getElem? hp)
  have hc : ∀ c u, c < 8 → (flP p)[c]? = some u → w.cell? ⟨g, 0 + i * 8 + c, none⟩ = some u := fun c u hc hu => by rw [blk_cell hg, Nat.zero_add, hr i p hp c hc]; exact hu
  exact ⟨k1, k2, k3, k4, g, 0, rfl, Nat.zero_le _, hlt, hc 0 _ (by omega) rfl, hc 1 _ (by omega) rfl, hc 2 _ (by omega) rfl, hc 3 _ (by omega) rfl, k5, k6, k7, p.2, hv.ext hE, hc 4 _ (by omega) rfl, hc 5 _ (by omega) rfl, hc 6 _ (by omega) rfl, hc 7 _ (by omega) rfl⟩
/-- Flows that lie in memory, as pairs of what they are and their parts' slices. -/
theorem RdFlV.pairs {w : World} {lo : Nat} {t : Bool} {l : List FlD} {v : Value} (h : RdFlV w lo t l v) : ∃ ps : List (FlD × Value), ps.map (·.1) = l ∧ ∀ p, p ∈ ps → FlFine p.1 ∧ RdExV w lo t p.1.body.args p.2 := by
  obtain ⟨_, _, _, _, _, _, hr, _⟩ := h
  have key : ∀ (m : List FlD), (∀ x, x ∈ m → FlFine x ∧ ∃ v, RdExV w lo t x.body.args v) → ∃ ps : List (FlD × Value), ps.map (·.1) = m ∧ ∀ p, p ∈ ps → FlFine p.1 ∧ RdExV w lo t p.1.body.args p.2 := by
    intro m
    induction m with
    | nil => intro _; exact ⟨[], rfl, fun p hp => by simp at hp⟩
    | cons y r ih =>
      intro hm
      obtain ⟨ps, h1, h2⟩ := ih (fun x hx => hm x (List.mem_cons_of_mem _ hx))
      obtain ⟨hy, v, hv⟩ := hm y (by simp)
      refine ⟨(y, v) :: ps, by simp [h1], fun p hp => ?_⟩
      rcases List.mem_cons.1 hp with rfl | hp
      · exact ⟨hy, hv⟩
      · exact h2 p hp
  refine key l (fun x hx => ?_)
  obtain ⟨i, hi, rfl⟩ := List.getElem_of_mem hx
  obtain ⟨k1, k2, k3, k4, b, o, _, _, _, _, _, _, _, k5, k6, k7, v, hv, _⟩ := hr i _ (List.getElem?_eq_getElem hi)
  exact ⟨⟨k1, k2, k3, k4, k5, k6, k7⟩, v, hv⟩
/-- What comes from without, in a row. -/
theorem RowOf.rdIn {w : World} {g cap : Nat} {cur : Array Value} {l : List InD} (hr : RowOf inC 3 cur l) (hg : w.heap[g]? = some (.cells cur 147 (0, 0)))
    (hps : ∀ x, x ∈ l → x.name.size ≤ maxLen ∧ isU8 x.ty ∧ isI64 x.st) (h1 : l.length ≤ cap) (h2 : cap ≤ maxLen) (h3 : fitsR l.length 32) : RdInV w 0 false l (.slice (some ⟨g, 0, none⟩) l.length cap) := by
  have hlt := lt_of_block hg
  refine ⟨_, _, rfl, h3, h1, h2, fun i x hx => ?_, fun h => by cases h⟩
  obtain ⟨k1, k2, k3⟩ := hps x (List.mem_of_getElem? hx)
  have hc : ∀ c u, c < 3 → (inC x)[c]? = some u → w.cell? ⟨g, 0 + i * 3 + c, none⟩ = some u := fun c u hc hu => by rw [blk_cell hg, Nat.zero_add, hr i x hx c hc]; exact hu
  exact ⟨k1, k2, k3, g, 0, rfl, Nat.zero_le _, hlt, hc 0 _ (by omega) rfl, hc 1 _ (by omega) rfl, hc 2 _ (by omega) rfl⟩
/-- A list of flows of one's own; their parts lie in an elder world. -/
def FlV (w0 w : World) (base : Nat) (l : List FlD) (v : Value) : Prop := ∃ ps : List (FlD × Value), ps.map (·.1) = l ∧ w.ownsRow base 43 8 v l.length (ps.flatMap flP) ∧ ∀ p, p ∈ ps → FlFine p.1 ∧ RdExV w0 0 false p.1.body.args p.2
theorem FlV.nil (w0 w : World) (base : Nat) : FlV w0 w base [] (.slice none 0 0) := ⟨[], rfl, World.ownsRow_nil _ _ _ _, fun p hp => by simp at hp⟩
theorem FlV.form {w0 w : World} {base : Nat} {l : List FlD} {v : Value} (h : FlV w0 w base l v) : ∃ a cap, v = .slice a l.length cap := by
  obtain ⟨ps, _, h, _⟩ := h
  rcases h.2 with ⟨h0, h1⟩ | ⟨g, cap, cur, h1, _⟩
  · exact ⟨none, 0, by rw [h0, h1]⟩
  · exact ⟨_, _, h1⟩
theorem FlV.chg {w0 w w' : World} {base : Nat} {l : List FlD} {v : Value} (h : FlV w0 w base l v) {S : Nat → Prop} (hc : Chg S w w') (hS : ∀ g, v.ownBlock = some g → ¬ S g) : FlV w0 w' base l v := by
  obtain ⟨ps, h0, h, hp⟩ := h
  refine ⟨ps, h0, ⟨h.1, ?_⟩, hp⟩
  rcases h.2 with ⟨h0, h1⟩ | ⟨g, cap, cur, h1, h2, h3, h4⟩
  · exact .inl ⟨h0, h1⟩
  · exact .inr ⟨g, cap, cur, h1, h2, (hc.block g (lt_of_block h3) (hS g (by rw [h1]; rfl))).trans h3, h4⟩
theorem FlV.rd {w0 w : World} {base : Nat} {l : List FlD} {v : Value} (h : FlV w0 w base l v) (hE : Ext w0 w) (hf : fitsR l.length 96) : RdFlV w 0 false l v := by
  obtain ⟨ps, rfl, h, hp⟩ := h
  rw [List.length_map] at h hf
  rcases h.2 with ⟨h0, h1⟩ | ⟨g, cap, cur, h1, h2, h3, h4⟩
  · obtain rfl : ps = [] := List.length_eq_zero_iff.1 h1
    rw [h0]
    exact ⟨none, 0, rfl, hf, Nat.zero_le _, Nat.zero_le _, fun i x hx => by simp at hx, fun h => by cases h⟩
  · subst h1
    obtain ⟨cur, a1, a2, a3, a4, a5, _⟩ := RowOf.own (r := []) flP_len (by simpa using h)
    exact a3.rdFl a1 hE hp a4 a5 hf
/-- A list of what comes from without, of one's own. -/
def InsV (w : World) (base : Nat) (l : List InD) (v : Value) : Prop := w.ownsRow base 147 3 v l.length (l.flatMap inC) ∧ ∀ x, x ∈ l → x.name.size ≤ maxLen ∧ isU8 x.ty ∧ isI64 x.st
theorem InsV.form {w : World} {base : Nat} {l : List InD} {v : Value} (h : InsV w base l v) : ∃ a cap, v = .slice a l.length cap := by
  obtain ⟨h, _⟩ := h
  rcases h.2 with ⟨h0, h1⟩ | ⟨g, cap, cur, h1, _⟩
  · exact ⟨none, 0, by rw [h0, h1]⟩
  · exact ⟨_, _, h1⟩
theorem InsV.chg {w w' : World} {base : Nat} {l : List InD} {v : Value} (h : InsV w base l v) {S : Nat → Prop} (hc : Chg S w w') (hS : ∀ g, v.ownBlock = some g → ¬ S g) : InsV w' base l v := by
  obtain ⟨h, hp⟩ := h
  refine ⟨⟨h.1, ?_⟩, hp⟩
  rcases h.2 with ⟨h0, h1⟩ | ⟨g, cap, cur, h1, h2, h3, h4⟩
  · exact .inl ⟨h0, h1⟩
  · exact .inr ⟨g, cap, cur, h1, h2, (hc.block g (lt_of_block h3) (hS g (by rw [h1]; rfl))).trans h3, h4⟩
theorem InsV.rd {w : World} {base : Nat} {l : List InD} {v : Value} (h : InsV w base l v) (hf : fitsR l.length 32) : RdInV w 0 false l v := by
  obtain ⟨h, hp⟩ := h
  rcases h.2 with ⟨h0, h1⟩ | ⟨g, cap, cur, h1, h2, h3, h4⟩
  · obtain rfl : l = [] := List.length_eq_zero_iff.1 h1
    rw [h0]
    exact ⟨none, 0, rfl, hf, Nat.zero_le _, Nat.zero_le _, fun i x hx => by simp at hx, fun h => by cases h⟩
  · subst h1
    obtain ⟨cur, a1, a2, a3, a4, a5, _⟩ := RowOf.own (r := []) inC_len (by simpa using h)
    exact a3.rdIn a1 hp a4 a5 hf
end Go.Proofs.YtgkbhonjodcakaaGreat
