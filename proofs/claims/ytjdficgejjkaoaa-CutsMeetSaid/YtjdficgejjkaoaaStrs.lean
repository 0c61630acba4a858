/- Lists of names that a call made; slices.Grow, slices.Concat, slices.Clip at strings. -/
import Derived.Test.YtjdficgejjkaoaaRefNChk
import Derived.Lib.AppendZerosOnto
import Derived.Laws.AppendOwnNone
namespace Go.Proofs.Ytjdficgejjkaoaa
open Go.RowKit
set_option linter.unusedVariables false
set_option linter.unusedSimpArgs false

/-- A list of texts in a block that is new behind base. -/
def StV (w : World) (base : Nat) (l : List ByteArray) (v : Value) : Prop := (v = .slice none 0 0 ∧ l = []) ∨ ∃ (g cap : Nat) (cur : Array Value), v = .slice (some ⟨g, 0, none⟩) l.length cap ∧ base ≤ g ∧ w.heap[g]? = some (.cells cur 9 (0, 0)) ∧ l.length ≤ cap ∧ cap ≤ cur.size ∧ cap ≤ maxLen ∧
  ∀ (i : Nat) (s : ByteArray), l[i]? = some s → cur[i]? = some (Value.string s)
theorem StV.of {w : World} {base : Nat} {l : List ByteArray} {v : Value} (h : NmV w base l v) : StV w base l v := by
  rcases h.2 with ⟨h0, h1⟩ | ⟨g, cap, cur, h1, h2, h3, h4, h5, h6, h7⟩
  · exact .inl ⟨h0, List.length_eq_zero_iff.1 h1⟩
  · refine .inr ⟨g, cap, cur, h1, h2, h3, h4, by omega, h5, fun i s hi => ?_⟩
    have hl := (List.getElem?_eq_some_iff.1 hi).1
    have e : (cur.toList.take (l.length * 1))[i]? = some (.string s) := by rw [h7, List.getElem?_map, hi]; rfl
    rw [List.getElem?_take, if_pos (by omega)] at e
    simpa using e
theorem StV.form {w : World} {base : Nat} {l : List ByteArray} {v : Value} (h : StV w base l v) : ∃ a cap, v = .slice a l.length cap ∧ l.length ≤ cap ∧ cap ≤ maxLen := by
  rcases h with ⟨h0, rfl⟩ | ⟨g, cap, cur, h1, _, _, h4, _, h5, _⟩
  · exact ⟨none, 0, h0, Nat.le_refl _, Nat.zero_le _⟩
  · exact ⟨_, _, h1, h4, h5⟩
theorem StV.chg {w w' : World} {base : Nat} {l : List ByteArray} {v : Value} {S : Nat → Prop} (h : StV w base l v) (hc : Chg S w w') (hS : ∀ g, v.ownBlock = some g → ¬ S g) : StV w' base l v := by
  rcases h with h | ⟨g, cap, cur, h1, h2, h3, h4⟩
  · exact .inl h
  · exact .inr ⟨g, cap, cur, h1, h2, hc.heap h3 (hS g (by rw [h1]; rfl)), h4⟩
theorem StV.ext {w w' : World} {base : Nat} {l : List ByteArray} {v : Value} (h : StV w base l v) (hc : Ext w w') : StV w' base l v := h.chg hc (fun _ _ h => h)
theorem StV.base {w : World} {base base' : Nat} {l : List ByteArray} {v : Value} (h : StV w base l v) (hb : base' ≤ base) : StV w base' l v := by
  rcases h with h | ⟨g, cap, cur, h1, h2, h3, h4⟩
  · exact .inl h
  · exact .inr ⟨g, cap, cur, h1, Nat.le_trans hb h2, h3, h4⟩
theorem StV.get {w : World} {base n : Nat} {l : List ByteArray} {a : Option Addr} {cap : Nat} (h : StV w base l (.slice a n cap)) {i : Nat} {s : ByteArray} (hs : l[i]? = some s) : ∃ g, a = some ⟨g, 0, none⟩ ∧ base ≤ g ∧ g < w.heap.size ∧ w.cell? ⟨g, i, none⟩ = some (.string s) := by
  rcases h with ⟨_, rfl⟩ | ⟨g, c', cur, h1, h2, h3, _, _, _, h4⟩
  · simp at hs
  · simp only [Value.slice.injEq] at h1
    obtain ⟨rfl, rfl, rfl⟩ := h1
    exact ⟨g, rfl, h2, lt_of_block h3, (blk_cell h3 i).trans (h4 i s hs)⟩
/-- The same list, cut short of its room. -/
theorem StV.clip {w : World} {base n : Nat} {l : List ByteArray} {a : Option Addr} {cap : Nat} (h : StV w base l (.slice a n cap)) : StV w base l (.slice a n n) := by
  rcases h with ⟨h0, rfl⟩ | ⟨g, c', cur, h1, h2, h3, h4, h5, h6, h7⟩
  · simp only [Value.slice.injEq] at h0
    obtain ⟨rfl, rfl, rfl⟩ := h0
    exact .inl ⟨rfl, rfl⟩
  · simp only [Value.slice.injEq] at h1
    obtain ⟨rfl, rfl, rfl⟩ := h1
    exact .inr ⟨g, l.length, cur, rfl, h2, h3, Nat.le_refl _, by omega, by omega, h7⟩
def RetSt (l : List ByteArray) (w : World) (e : Ending) (w' : World) : Prop := ∃ v, e = .returned v ∧ StV w' w.heap.size l v ∧ Ext w w'
set_option maxRecDepth 100000 in
theorem growS_any (n : Nat) (w : World) (hn : n ≤ 1000000) : Calls Try.prog 96 #[.slice none 0 0, .int .i64 n] w fun e w' => ∃ a cap, e = .returned (.slice a 0 cap) ∧ NmV w' w.heap.size [] (.slice a 0 cap) ∧ Ext w w' := by
  obtain ⟨i0, hi, hz0, hz1, hz2⟩ := info_parts infoStr
  by_cases h0 : n = 0
  · subst h0
    go_enter Try.func96, Try.ntmps96
    go_wp2_with fail
    go_ret
    exact ⟨none, 0, rfl, NmV.nil _ _, Chg.refl _ _⟩
  · have hpos : (0 : Int) < n := by omega
    obtain ⟨G, hG⟩ : ∃ G, G = grownCap w (0 + n) 0 9 := ⟨_, rfl⟩
    have hGn : 0 + n ≤ G := by rw [hG]; exact grownCap_ge w _ _ _
    have hGm : G ≤ maxLen := by rw [hG]; exact grownCap_le_maxLen w _ _ _ (by unfold maxLen; omega)
    have hrz := fun ty => Lib.run_append_grow_zeros w 24 3 ty 9 i0 _ .i64 .i64 Try.underlying24 Try.underlying3 hi hz0 none 0 0 [] (run_firstCells_none (w := w.drew) i0.size 0 0 0) n (by omega) (by rw [hz1]; omega) (by omega) (by omega) (by rw [hz2]; omega) (growslice_fits (by omega) (by rw [hz2]; omega))
    rw [← hG] at hrz
    have E : Ext w (w.drew.alloc (.cells ([].toArray ++ Builtin.zeroCells (Value.string ByteArray.empty).cells n ++ Builtin.zeroCells (Value.string ByteArray.empty).cells (G - (0 + n))) 9)) := ((Chg.refl (fun _ => False) w).drew).alloc _
    have B := heap_alloc_new w.drew (.cells ([].toArray ++ Builtin.zeroCells (Value.string ByteArray.empty).cells n ++ Builtin.zeroCells (Value.string ByteArray.empty).cells (G - (0 + n))) 9)
    have hsz : ([].toArray ++ Builtin.zeroCells (Value.string ByteArray.empty).cells n ++ Builtin.zeroCells (Value.string ByteArray.empty).cells (G - (0 + n))).size = G := by
      have hz : ∀ m, (Builtin.zeroCells (Value.string ByteArray.empty).cells m).size = m := fun m => by simp [Builtin.zeroCells, Value.cells]
      rw [Array.size_append, Array.size_append, hz, hz]
      simp
      omega
    generalize ([].toArray ++ Builtin.zeroCells (Value.string ByteArray.empty).cells n ++ Builtin.zeroCells (Value.string ByteArray.empty).cells (G - (0 + n))) = cur at *
    have hfin : NmV (w.drew.alloc (.cells cur 9)) w.heap.size [] (.slice (some ⟨w.heap.size, 0, none⟩) 0 G) := ⟨rfl, .inr ⟨w.heap.size, G, cur, rfl, Nat.le_refl _, B, Nat.zero_le _, hGm, by omega, by simp⟩⟩
    clear hG B hsz
    have HF := Lib.hid hfin
    have HE := Lib.hid E
    clear hfin E
    go_enter Try.func96, Try.ntmps96
    go_wp2_with (at_builtin; refine Lib.wpList_append_run _ rfl _ _ _ _ rfl _ _ rfl rfl _ _ (hrz _) ?_)
    go_ret
    exact ⟨_, _, rfl, HF.out, HE.out⟩
/-- Lists of texts, in a list. -/
def RdSS (w : World) (base : Nat) (ls : List (List ByteArray)) (v : Value) : Prop := ∃ a cap, v = .slice a ls.length cap ∧ ∀ i l, ls[i]? = some l → ∃ b o u, a = some ⟨b, o, none⟩ ∧ w.cell? ⟨b, o + i, none⟩ = some u ∧ StV w base l u
theorem RdSS.ext {w w' : World} {base : Nat} {ls : List (List ByteArray)} {v : Value} (h : RdSS w base ls v) (he : Ext w w') : RdSS w' base ls v := by
  obtain ⟨a, cap, rfl, h⟩ := h
  refine ⟨a, cap, rfl, fun i l hi => ?_⟩
  obtain ⟨b, o, u, h1, h2, h3⟩ := h i l hi
  exact ⟨b, o, u, h1, Ext.cell he h2, h3.ext he⟩
theorem flatn_take {ls : List (List ByteArray)} {k : Nat} {l : List ByteArray} (h : ls[k]? = some l) : (ls.take (k + 1)).flatten = (ls.take k).flatten ++ l := by
  rw [List.take_add_one, h, List.flatten_append]
  simp
theorem flatn_take_le (ls : List (List ByteArray)) (k : Nat) : (ls.take k).flatten.length ≤ ls.flatten.length := by
  conv => rhs; rw [← List.take_append_drop k ls, List.flatten_append, List.length_append]
  omega
set_option maxRecDepth 100000 in
set_option maxHeartbeats 1000000 in
theorem concatS_any (ls : List (List ByteArray)) (base : Nat) (v : Value) (w : World) (h : RdSS w base ls v) (hn : ls.length ≤ 1000) (hl : ls.flatten.length ≤ 1000000) :
    Calls Try.prog 82 #[v] w fun e w' => ∃ u, e = .returned u ∧ NmV w' w.heap.size ls.flatten u ∧ Ext w w' := by
  obtain ⟨i0, hinf, hz0, hz1, hz2⟩ := info_parts infoStr
  have HS := Lib.hid h
  obtain ⟨a, cap, rfl, h⟩ := h
  have H := Lib.hid h
  clear h
  have HG := Lib.hid (fun n => growS_any n w)
  have hfle := flatn_take_le ls
  generalize hFL : ls.flatten = F at *
  have HFL := Lib.hid hFL
  clear hFL
  go_enter Try.func82, Try.ntmps82
  go_wp2_with fail
  go_loop [3, 11] (fun t i => ∃ k : Nat, k ≤ ls.length ∧ i = .int .i64 k ∧ t = .int .i64 ((ls.take k).flatten.length : Nat)) (fun _ i => ls.length - (intOf i).toNat)
  case atStart => exact ⟨0, Nat.zero_le _, rfl, by simp⟩
  case round =>
    obtain ⟨k, hk, rfl, rfl⟩ := hrel
    have hle := hfle k
    by_cases hlt : k < ls.length
    · have hx := List.getElem?_eq_getElem hlt
      obtain ⟨b, o, u, rfl, hc, hu⟩ := H.out k _ hx
      have htk := flatn_take hx
      have hle2 := hfle (k + 1)
      rw [htk, List.length_append] at hle2
      have HTK := Lib.hid htk
      have q1 : (k : Int) < (ls.length : Int) := by omega
      generalize ls[k] = l at *
      obtain ⟨ua, uc, rfl, _⟩ := hu.form
      generalize hm : (ls.take k).flatten.length = m at *
      have hneg : ¬ ((m : Int) + (l.length : Int) < 0) := by omega
      have HM := Lib.hid hm
      clear hm hx htk hu
      go_wp2_with fail
      go_round
      case rel => exact ⟨k + 1, by omega, by go_num, by rw [HTK.out, List.length_append, HM.out]; go_num⟩
      case measure => simp [intOf]; omega
    · obtain rfl : k = ls.length := by omega
      rw [List.take_length, HFL.out]
      go_wp2_with fail
      refine (HG.out _ hl).mono ?_
      rintro e w1 ⟨ga, gc, rfl, hg, hE⟩
      clear HG
      go_wp2_with fail
      go_loopw [6, 27] (fun t i wr => ∃ k : Nat, k ≤ ls.length ∧ i = .int .i64 k ∧ NmV wr w.heap.size (ls.take k).flatten t ∧ Ext w wr) (fun _ i _ => ls.length - (intOf i).toNat)
      case atStart => exact ⟨0, Nat.zero_le _, rfl, by simpa using hg, hE⟩
      case round =>
        clear hE hg
        obtain ⟨k, hk, rfl, hN, hE⟩ := hrel
        have hsz := hE.size
        obtain ⟨ta, tc, rfl⟩ := hN.form
        have hle0 := hfle k
        by_cases hlt : k < ls.length
        · have hx := List.getElem?_eq_getElem hlt
          obtain ⟨_, _, e, hr⟩ := HS.out.ext hE
          simp only [Value.slice.injEq, true_and] at e
          obtain ⟨rfl, rfl⟩ := e
          obtain ⟨b, o, u, rfl, hc, hu⟩ := hr k _ hx
          have htk := flatn_take hx
          have hle2 := hfle (k + 1)
          rw [htk, List.length_append] at hle2
          have HTK := Lib.hid htk
          have q1 : (k : Int) < (ls.length : Int) := by omega
          generalize ls[k] = l at *
          clear hr hx htk
          generalize (ls.take k).flatten = Fk at *
          rcases hu with ⟨rfl, rfl⟩ | ⟨g, ucap, cur, rfl, _, hgb, u1, u2, u3, u4⟩
          · have HN := Lib.hid (show NmV wr w.heap.size (ls.take (k + 1)).flatten (.slice ta Fk.length tc) by rw [HTK.out, List.append_nil]; exact hN)
            go_wp2_with (at_builtin; refine wpList_append_own_none rfl _ _ 24 rfl w.heap.size 9 i0 1 Try.underlying24 hinf _ _ _ rfl hN rfl ?_)
            go_roundw
            case rel => exact ⟨k + 1, by omega, by go_num, HN.out, hE⟩
            case measure => simp [intOf]; omega
          · have hnews : ∀ q uu, (l.map Value.string)[q]? = some uu → wr.cell? ((⟨g, 0, none⟩ : Addr).add q) = some uu := by
              intro q uu hq
              have e : (⟨g, 0, none⟩ : Addr).add q = ⟨g, q, none⟩ := by
                unfold Addr.add; split
                · rename_i h; subst h; rfl
                · simp
              rw [List.getElem?_map] at hq
              obtain ⟨s, hs, rfl⟩ := Option.map_eq_some_iff.1 hq
              rw [e, blk_cell hgb]
              exact u4 q s hs
            have hone : ∀ uu ∈ l.map Value.string, uu.oneCell' = true := by
              intro uu hu
              obtain ⟨_, _, rfl⟩ := List.mem_map.1 hu
              rfl
            go_wp2_with (at_builtin; refine wpList_append_own_at _ rfl _ _ 24 rfl w.heap.size 9 i0 _ 1 16 Try.underlying24 hinf hz0 hz1 hz2 rfl (by decide) _ _ _ rfl hN ⟨g, 0, none⟩ l.length ucap (l.map Value.string) rfl (by simp) hnews hone (by unfold maxLen; omega) (by omega) hsz ?_; intro v6 w6 hown6 hgrow6 _ hat6)
            have E6 : Ext w w6 := Ext.then hE (Chg.of_grownBy hgrow6) (fun b hb => (World.ownsRow.lt hN b hb).1)
            have HN := Lib.hid (show NmV w6 w.heap.size (ls.take (k + 1)).flatten v6 by
              rw [HTK.out]
              unfold NmV
              rw [List.length_append, List.map_append]
              exact hown6)
            clear hown6 hgrow6 hat6
            go_wp2_with fail
            go_roundw
            case rel => exact ⟨k + 1, by omega, by go_num, HN.out, E6⟩
            case measure => simp [intOf]; omega
        · obtain rfl : k = ls.length := by omega
          rw [List.take_length, HFL.out] at hN ⊢
          have HN := Lib.hid hN
          clear hN HS H
          go_wp2_with fail
          go_ret
          exact ⟨_, rfl, HN.out, hE⟩
theorem cutList_any (ls : List (List ByteArray)) (base : Nat) (v : Value) (w : World) (h : RdSS w base ls v) (hn : ls.length ≤ 1000) (hl : ls.flatten.length ≤ 1000000) :
    Calls Try.prog 57 #[v] w fun e w' => ∃ u, e = .returned u ∧ NmV w' w.heap.size ls.flatten u ∧ Ext w w' := by
  have H := Lib.hid (concatS_any ls base v w h hn hl)
  obtain ⟨a, cap, rfl, _⟩ := h
  generalize ls.flatten = F at *
  go_enter Try.func57, Try.ntmps57
  go_wp2_with fail
  refine H.out.mono ?_
  rintro e w1 ⟨u, rfl, hN, hE⟩
  obtain ⟨ta, tc, rfl⟩ := hN.form
  have HN := Lib.hid hN
  clear hN H
  go_wp2_with fail
  go_ret
  exact ⟨_, rfl, HN.out, hE⟩
theorem clipStr_any (a : Option Addr) (n cap : Nat) (w : World) (h : n ≤ cap) (hn : n ≤ 1000000) : Calls Try.prog 53 #[.slice a n cap] w fun e w' => e = .returned (.slice a n n) ∧ w' = w := by
  have q1 : (n : Int) ≤ (cap : Int) := by omega
  go_enter Try.func53, Try.ntmps53
  go_wp2_with fail
  go_ret
  exact ⟨rfl, rfl⟩
end Go.Proofs.Ytjdficgejjkaoaa
