/- The document's Check of names. -/
import Derived.Test.YtjdficgejjkaoaaNChk
import Derived.Deep.RegionHeld3
namespace Go.Proofs.Ytjdficgejjkaoaa
open Go.RowKit
set_option linter.unusedVariables false
set_option linter.unusedSimpArgs false

/-- A list of strings of one's own. -/
def NmV (w : World) (base : Nat) (l : List ByteArray) (v : Value) : Prop := w.ownsRow base 9 1 v l.length (l.map Value.string)
theorem NmV.form {w : World} {base : Nat} {l : List ByteArray} {v : Value} (h : NmV w base l v) : ∃ a cap, v = .slice a l.length cap := by
  rcases h.2 with ⟨h0, h1⟩ | ⟨g, cap, cur, h1, _⟩
  · exact ⟨none, 0, by rw [h0, h1]⟩
  · exact ⟨_, _, h1⟩
theorem NmV.get {w : World} {base n : Nat} {l : List ByteArray} {a : Option Addr} {cap : Nat} (h : NmV w base l (.slice a n cap)) {i : Nat} {s : ByteArray} (hs : l[i]? = some s) : ∃ g, a = some ⟨g, 0, none⟩ ∧ w.cell? ⟨g, i, none⟩ = some (.string s) := by
  have hi : i < l.length := (List.getElem?_eq_some_iff.1 hs).1
  have h0 := h
  rcases h.2 with ⟨h0, h1⟩ | ⟨g, c', cur, h1, _⟩
  · omega
  · simp only [Value.slice.injEq] at h1
    obtain ⟨rfl, rfl, rfl⟩ := h1
    have c0 := World.ownsRow.cellAt h i (by omega)
    rw [List.getElem?_map, hs] at c0
    exact ⟨g, rfl, c0⟩
theorem NmV.chg {w w' : World} {base : Nat} {l : List ByteArray} {v : Value} (h : NmV w base l v) {S : Nat → Prop} (hc : Chg S w w') (hS : ∀ g, v.ownBlock = some g → ¬ S g) : NmV w' base l v := by
  refine ⟨h.1, ?_⟩
  rcases h.2 with ⟨h0, h1⟩ | ⟨g, cap, cur, h1, h2, h3, h4⟩
  · exact .inl ⟨h0, h1⟩
  · exact .inr ⟨g, cap, cur, h1, h2, (hc.block g (lt_of_block h3) (hS g (by rw [h1]; rfl))).trans h3, h4⟩
theorem NmV.nil (w : World) (base : Nat) : NmV w base [] (.slice none 0 0) := World.ownsRow_nil _ _ _ _
theorem NmV.snoc {w : World} {base : Nat} {l : List ByteArray} {r : ByteArray} {v : Value} (h : w.ownsRow base 9 1 v (l.length + 1) (l.map Value.string ++ [.string r])) : NmV w base (l ++ [r]) v := by
  unfold NmV
  rw [List.length_append, List.map_append]
  exact h
theorem NmV.form1 {w : World} {base : Nat} {l : List ByteArray} {r : ByteArray} {v : Value} (h : NmV w base (l ++ [r]) v) : ∃ a cap, v = .slice a (l.length + 1) cap := by
  have := h.form
  simpa using this
theorem infoStr : (Try.prog.info? 9).map (fun i => (i.zero, i.size, i.bytes)) = some (some (.string ByteArray.empty), 1, 16) := by kernel_rfl
theorem flTs_names : ∀ (i : Nat) (l : List FlD), (flTs i l).map (·.1) = l.map (·.name)
  | _, [] => rfl
  | i, x :: r => by simp only [flTs, List.map_cons, flTs_names (i + 1) r, flT]
theorem namesT_eq (p : PrD) : namesT p = p.ins.map (·.name) ++ p.flows.map (·.name) := by
  unfold namesT thingsL
  rw [List.map_append, flTs_names, List.map_map]
  rfl
theorem look_there {s : ByteArray} : ∀ {l : List Thing}, (lookT s l).2.2.2 = true ↔ s ∈ l.map (·.1)
  | [] => by simp [lookT]
  | y :: r => by
    unfold lookT
    by_cases h : y.1 = s
    · rw [if_pos h]; simp [h]
    · rw [if_neg h, look_there]
      simp only [List.map_cons, List.mem_cons]
      exact ⟨.inr, fun h' => h'.elim (fun e => absurd e.symm h) id⟩
theorem find_there {p : PrD} {s : ByteArray} : (findP s p.flows p.ins).2.2.2 = true ↔ s ∈ namesT p := by
  rw [findP_look]
  exact look_there
theorem there_mem {p : PrD} {l : List Rf} : (l.all fun r => (findP r.1 p.flows p.ins).2.2.2) = true ↔ ∀ s, s ∈ l.map (·.1) → s ∈ namesT p := by
  rw [List.all_eq_true]
  constructor
  · intro h s hs
    obtain ⟨r, hr, rfl⟩ := List.mem_map.1 hs
    exact find_there.1 (h r hr)
  · intro h r hr
    exact find_there.2 (h _ (List.mem_map.2 ⟨r, hr, rfl⟩))
theorem all_drop {p : PrD} {l : List Rf} {k : Nat} {r : Rf} (h : l[k]? = some r) : ((l.drop k).all fun r => (findP r.1 p.flows p.ins).2.2.2) = ((findP r.1 p.flows p.ins).2.2.2 && ((l.drop (k + 1)).all fun r => (findP r.1 p.flows p.ins).2.2.2)) := by
  obtain ⟨hk, rfl⟩ := List.getElem?_eq_some_iff.1 h
  rw [List.drop_eq_getElem_cons hk]
  rfl
theorem namesF_mem {l : List FlD} {x : FlD} {s : ByteArray} (hx : x ∈ l) (hs : s ∈ namesE x.body) : s ∈ namesF l := by
  induction l with
  | nil => simp at hx
  | cons y r ih =>
    simp only [namesF, List.mem_append]
    rcases List.mem_cons.1 hx with rfl | hx
    · exact .inl hs
    · exact .inr (ih hx)
theorem take_nodup {l : List ByteArray} {k : Nat} {s : ByteArray} (h : l[k]? = some s) (hn : (l.take k).Nodup) (hm : s ∉ l.take k) : (l.take (k + 1)).Nodup := by
  rw [List.take_add_one, h]
  exact nodup_snoc.2 ⟨hn, hm⟩
theorem take_dup {l : List ByteArray} {i k : Nat} {s t : ByteArray} (hi : l[i]? = some s) (hk : l[k]? = some t) (hlt : k < i) (he : t = s) : ¬ l.Nodup := by
  obtain ⟨hil, rfl⟩ := List.getElem?_eq_some_iff.1 hi
  have hcut : l = l.take i ++ l[i] :: l.drop (i + 1) := by rw [← List.drop_eq_getElem_cons hil, List.take_append_drop]
  refine nodup_cut hcut ?_
  rw [← he]
  refine List.mem_of_getElem? (i := k) ?_
  rw [List.getElem?_take, if_pos hlt, hk]
theorem not_mem_take {l : List ByteArray} {k : Nat} {s t : ByteArray} (h : l[k]? = some t) (hs : s ∉ l.take k) (hne : t ≠ s) : s ∉ l.take (k + 1) := by
  rw [List.take_add_one, h]
  simp only [Option.toList_some, List.mem_append, List.mem_cons, List.not_mem_nil, or_false, not_or]
  exact ⟨hs, fun e => hne e.symm⟩
set_option maxRecDepth 100000 in
set_option maxHeartbeats 4000000 in
theorem refNCheck_any (p : PrD) (cs : Array Value) (w : World) (h : RdPr w 0 false p cs) : Calls Try.prog 41 #[.agg cs] w (RetE (namesP p) w) := by
  have H := Lib.hid h
  obtain ⟨vi, vf, vo, rfl, _, hi, hf, ho⟩ := h
  obtain ⟨ai, ci, rfl, ri⟩ := hi
  obtain ⟨af, cf, rfl, rf⟩ := hf
  obtain ⟨ao, co, rfl, ro⟩ := ho
  have HI := Lib.hid (show RdInV w 0 false p.ins (.slice ai p.ins.length ci) from ⟨_, _, rfl, ri⟩)
  have HF := Lib.hid (show RdFlV w 0 false p.flows (.slice af p.flows.length cf) from ⟨_, _, rfl, rf⟩)
  have HO := Lib.hid (show RdStrV w 0 false p.outs (.slice ao p.outs.length co) from ⟨_, _, rfl, ro⟩)
  clear ri rf ro
  have e0 : Ext w (w.alloc (.cells #[.int .i64 p.st, .slice ai p.ins.length ci, .slice af p.flows.length cf, .slice ao p.outs.length co] 26)) := (Chg.refl _ _).alloc _
  have xb := heap_alloc_new w (.cells #[.int .i64 p.st, .slice ai p.ins.length ci, .slice af p.flows.length cf, .slice ao p.outs.length co] 26)
  have y0 := blk_cell xb 0
  have y1 := blk_cell xb 1
  have y2 := blk_cell xb 2
  have y3 := blk_cell xb 3
  simp only [List.getElem?_toArray, List.getElem?_cons_zero, List.getElem?_cons_succ] at y0 y1 y2 y3
  have hck := refPrCheck_any p _ _ (H.out.ext e0)
  have HC := Lib.hid hck
  clear hck
  go_enter Try.func41, Try.ntmps41
  go_wp2_with fail
  refine HC.out.mono ?_
  rintro e w1 ⟨he, E1⟩
  have F1 := e0.trans E1
  have xb1 := Ext.heap E1 xb
  clear HC y0 y1 y2 y3 xb e0 E1
  have y0 := blk_cell xb1 0
  have y1 := blk_cell xb1 1
  have y2 := blk_cell xb1 2
  have y3 := blk_cell xb1 3
  simp only [List.getElem?_toArray, List.getElem?_cons_zero, List.getElem?_cons_succ] at y0 y1 y2 y3
  cases hpr : progP p
  · rw [hpr] at he
    subst he
    go_wp2_with fail
    go_ret
    exact ⟨by rw [names_1 hpr]; rfl, F1⟩
  rw [hpr] at he
  subst he
  obtain ⟨hp64, hp128, hpo, hpok, hpon⟩ := prog_ok hpr
  have HOK := Lib.hid hpok
  have HON := Lib.hid hpon
  have HPR := Lib.hid hpr
  clear hpok hpon hpr
  obtain ⟨i0, hinf, hz0, hz1, hz2⟩ := info_parts infoStr
  have hw1 : w.heap.size + 1 ≤ w1.heap.size := by have := lt_of_block xb1; omega
  go_wp2_with fail
  have HT0 : Hid (p.ins.map (·.name) = p.ins.map (·.name)) := Lib.hid rfl
  go_loopw [3, 4] (fun lv i wr => ∃ (k : Nat) (lk : List ByteArray), k ≤ p.ins.length ∧ i = .int .i64 k ∧ lk = (p.ins.map (·.name)).take k ∧ NmV wr (w.heap.size + 1) lk lv ∧ wr.heap[w.heap.size]? = some (.cells #[.int .i64 p.st, .slice ai p.ins.length ci, .slice af p.flows.length cf, .slice ao p.outs.length co] 26 (0, 0)) ∧ Ext w wr) (fun _ i _ => p.ins.length - (intOf i).toNat)
  case atStart => exact ⟨0, [], Nat.zero_le _, rfl, rfl, NmV.nil _ _, xb1, F1⟩
  case round =>
    clear y0 y1 y2 y3 xb1 F1
    obtain ⟨k, lk, hk, rfl, hlk, rV, xb, rE⟩ := hrel
    have hkk : lk.length ≤ k := by rw [hlk, List.length_take]; omega
    have HLK := Lib.hid hlk
    clear hlk
    obtain ⟨av, cv, rfl⟩ := rV.form
    have y0 := blk_cell xb 0
    have y1 := blk_cell xb 1
    have y2 := blk_cell xb 2
    have y3 := blk_cell xb 3
    simp only [List.getElem?_toArray, List.getElem?_cons_zero, List.getElem?_cons_succ] at y0 y1 y2 y3
    by_cases hlt : k < p.ins.length
    · have hx : p.ins[k]? = some p.ins[k] := List.getElem?_eq_getElem hlt
      have q1 : (k : Int) < (p.ins.length : Int) := by omega
      have htk : (p.ins.map (·.name)).take (k + 1) = (p.ins.map (·.name)).take k ++ [p.ins[k].name] := by rw [List.take_add_one, List.getElem?_map, hx]; rfl
      obtain ⟨_, _, e, _, _, _, hr, _⟩ := HI.out.ext rE
      simp only [Value.slice.injEq, true_and] at e
      obtain ⟨rfl, rfl⟩ := e
      obtain ⟨hnm, _, _, b, o, rfl, _, hlt2, c0, c1, c2⟩ := hr k _ hx
      generalize p.ins[k] = x at *
      have HTK := Lib.hid htk
      have XBH := Lib.hid xb
      clear hr hx htk c1 c2 xb
      have V5 := rV
      have hs5 := rE.size
      go_wp2_with (at_builtin; refine wpList_append_own_at _ rfl _ _ 24 rfl (w.heap.size + 1) 9 i0 _ 1 16 Try.underlying24 hinf hz0 hz1 hz2 rfl (by decide) _ _ _ rfl (World.ownsRow.alloc V5 _) ⟨wr.heap.size, 0, none⟩ 1 1 [.string x.name] rfl rfl (cell_one_new _ _ _) (by simp [Value.oneCell']) (by unfold maxLen; omega) (by omega) (by simp; omega) ?_; intro v6 w6 hown6 hgrow6 _ hat6; have V6 := NmV.snoc hown6; obtain ⟨a6, c6, hv6⟩ := V6.form1; subst hv6)
      have D6 := Chg.of_grownBy hgrow6
      have E6 : Ext w w6 := Ext.then (rE.alloc _) D6 (fun b hb => by have := (World.ownsRow.lt V5 b hb).1; omega)
      have X6 := D6.heap (Ext.heap ((Chg.refl _ _).alloc _) XBH.out) (fun h => by have := (World.ownsRow.lt V5 _ h).1; omega)
      have hlk6 : Hid (lk ++ [x.name] = (p.ins.map (·.name)).take (k + 1)) := by show _ = _; rw [HTK.out, HLK.out]
      clear hown6 hgrow6 hat6 D6 V5 rV y0 y1 y2 y3
      go_wp2_with fail
      go_roundw
      case rel => exact ⟨k + 1, _, by omega, by go_num, hlk6.out, V6, X6, E6⟩
      case measure => simp [intOf]; omega
    · obtain rfl : k = p.ins.length := by omega
      have hlk2 : lk = p.ins.map (·.name) := by rw [HLK.out, List.take_of_length_le (by simp)]
      subst hlk2
      clear HLK
      go_wp2_with fail
      obtain ⟨wo, rfl⟩ : ∃ wo : World, wo = wr := ⟨_, rfl⟩
      go_loopw [3, 5] (fun lv i wr => ∃ (k : Nat) (lk : List ByteArray), k ≤ p.flows.length ∧ i = .int .i64 k ∧ lk = p.ins.map (·.name) ++ (p.flows.map (·.name)).take k ∧ NmV wr (w.heap.size + 1) lk lv ∧ wr.heap[w.heap.size]? = some (.cells #[.int .i64 p.st, .slice ai p.ins.length ci, .slice af p.flows.length cf, .slice ao p.outs.length co] 26 (0, 0)) ∧ Ext w wr) (fun _ i _ => p.flows.length - (intOf i).toNat)
      case atStart => exact ⟨0, p.ins.map (·.name), Nat.zero_le _, rfl, by simp, by simpa only [List.length_map] using rV, xb, rE⟩
      case round =>
        clear y0 y1 y2 y3 xb rE rV
        obtain ⟨k, lk, hk, rfl, hlk, rV, xb, rE⟩ := hrel
        have hkk : lk.length ≤ p.ins.length + k := by rw [hlk, List.length_append, List.length_take]; simp; omega
        have HLK := Lib.hid hlk
        clear hlk
        obtain ⟨av, cv, rfl⟩ := rV.form
        have y0 := blk_cell xb 0
        have y1 := blk_cell xb 1
        have y2 := blk_cell xb 2
        have y3 := blk_cell xb 3
        simp only [List.getElem?_toArray, List.getElem?_cons_zero, List.getElem?_cons_succ] at y0 y1 y2 y3
        by_cases hlt : k < p.flows.length
        · have hx : p.flows[k]? = some p.flows[k] := List.getElem?_eq_getElem hlt
          have q1 : (k : Int) < (p.flows.length : Int) := by omega
          have htk : (p.flows.map (·.name)).take (k + 1) = (p.flows.map (·.name)).take k ++ [p.flows[k].name] := by rw [List.take_add_one, List.getElem?_map, hx]; rfl
          obtain ⟨_, _, e, _, _, _, hr, _⟩ := HF.out.ext rE
          simp only [Value.slice.injEq, true_and] at e
          obtain ⟨rfl, rfl⟩ := e
          obtain ⟨hnm, _, _, _, b, o, rfl, _, hlt2, c0, _⟩ := hr k _ hx
          generalize p.flows[k] = x at *
          have HTK := Lib.hid htk
          have XBH := Lib.hid xb
          clear hr hx htk xb
          have V5 := rV
          have hs5 := rE.size
          go_wp2_with (at_builtin; refine wpList_append_own_at _ rfl _ _ 24 rfl (w.heap.size + 1) 9 i0 _ 1 16 Try.underlying24 hinf hz0 hz1 hz2 rfl (by decide) _ _ _ rfl (World.ownsRow.alloc V5 _) ⟨wr.heap.size, 0, none⟩ 1 1 [.string x.name] rfl rfl (cell_one_new _ _ _) (by simp [Value.oneCell']) (by unfold maxLen; omega) (by omega) (by simp; omega) ?_; intro v6 w6 hown6 hgrow6 _ hat6; have V6 := NmV.snoc hown6; obtain ⟨a6, c6, hv6⟩ := V6.form1; subst hv6)
          have D6 := Chg.of_grownBy hgrow6
          have E6 : Ext w w6 := Ext.then (rE.alloc _) D6 (fun b hb => by have := (World.ownsRow.lt V5 b hb).1; omega)
          have X6 := D6.heap (Ext.heap ((Chg.refl _ _).alloc _) XBH.out) (fun h => by have := (World.ownsRow.lt V5 _ h).1; omega)
          have hlk6 : Hid (lk ++ [x.name] = p.ins.map (·.name) ++ (p.flows.map (·.name)).take (k + 1)) := by show _ = _; rw [HTK.out, HLK.out, List.append_assoc]
          clear hown6 hgrow6 hat6 D6 V5 rV y0 y1 y2 y3
          go_wp2_with fail
          go_roundw
          case rel => exact ⟨k + 1, _, by omega, by go_num, hlk6.out, V6, X6, E6⟩
          case measure => simp [intOf]; omega
        · obtain rfl : k = p.flows.length := by omega
          have hlk2 : lk = namesT p := by rw [HLK.out, List.take_of_length_le (by simp), namesT_eq]
          subst hlk2
          clear HLK
          have hLl : (namesT p).length ≤ 1000 := by omega
          have HS6 : Hid (¬ (namesT p).Nodup → namesP p = 6) := fun h => names_6 HPR.out (fun ho => h ho.1)
          have HA6 : Hid (∀ s, s ∈ askedL p → s ∉ namesT p → namesP p = 6) := fun s h1 h2 => names_6 HPR.out (fun ho => h2 (ho.2.1 s h1))
          have HO6 : Hid (¬ p.outs.Nodup → namesP p = 6) := fun h => names_6 HPR.out (fun ho => h ho.2.2)
          have HN0 : Hid ((namesT p).Nodup → (∀ s, s ∈ askedL p → s ∈ namesT p) → p.outs.Nodup → namesP p = 0) := fun h1 h2 h3 => names_0 HPR.out ⟨h1, h2, h3⟩
          have HFT : Hid (∀ s, (findP s p.flows p.ins).2.2.2 = true ↔ s ∈ namesT p) := fun s => find_there
          have HTM : Hid (∀ l : List Rf, (l.all fun r => (findP r.1 p.flows p.ins).2.2.2) = true ↔ ∀ s, s ∈ l.map (·.1) → s ∈ namesT p) := fun l => there_mem
          generalize hgL : namesT p = L at *
          generalize hgN : namesP p = N at *
          clear hgL hgN hkk HI
          go_wp2_with fail
          obtain ⟨wo2, rfl⟩ : ∃ wo : World, wo = wr := ⟨_, rfl⟩
          go_loopw [6] (fun i wr => ∃ k : Nat, k ≤ L.length ∧ i = .int .i64 k ∧ (L.take k).Nodup ∧ NmV wr (w.heap.size + 1) L (.slice av L.length cv) ∧ wr.heap[w.heap.size]? = some (.cells #[.int .i64 p.st, .slice ai p.ins.length ci, .slice af p.flows.length cf, .slice ao p.outs.length co] 26 (0, 0)) ∧ Ext w wr) (fun i _ => L.length - (intOf i).toNat)
          case atStart => exact ⟨0, Nat.zero_le _, rfl, by simp, rV, xb, rE⟩
          case round =>
            clear y0 y1 y2 y3 xb rE rV
            obtain ⟨k, hk, rfl, hnd, rV, xb, rE⟩ := hrel
            have HND := Lib.hid hnd
            clear hnd
            have y0 := blk_cell xb 0
            have y1 := blk_cell xb 1
            have y2 := blk_cell xb 2
            have y3 := blk_cell xb 3
            simp only [List.getElem?_toArray, List.getElem?_cons_zero, List.getElem?_cons_succ] at y0 y1 y2 y3
            by_cases hlt : k < L.length
            · have hx : L[k]? = some L[k] := List.getElem?_eq_getElem hlt
              have q1 : (k : Int) < (L.length : Int) := by omega
              generalize L[k] = s at *
              have HX := Lib.hid hx
              clear hx
              go_wp2_with fail
              obtain ⟨wo3, rfl⟩ : ∃ wo : World, wo = wr := ⟨_, rfl⟩
              go_loopw [7] (fun i wr => ∃ j : Nat, j ≤ k ∧ i = .int .i64 j ∧ s ∉ L.take j ∧ NmV wr (w.heap.size + 1) L (.slice av L.length cv) ∧ wr.heap[w.heap.size]? = some (.cells #[.int .i64 p.st, .slice ai p.ins.length ci, .slice af p.flows.length cf, .slice ao p.outs.length co] 26 (0, 0)) ∧ Ext w wr) (fun i _ => k - (intOf i).toNat)
              case atStart => exact ⟨0, Nat.zero_le _, rfl, by simp, rV, xb, rE⟩
              case round =>
                clear y0 y1 y2 y3 xb rE rV
                obtain ⟨j, hj, rfl, hns, rV, xb, rE⟩ := hrel
                have HNS := Lib.hid hns
                clear hns
                by_cases hlt2 : j < k
                · have hy : L[j]? = some L[j] := List.getElem?_eq_getElem (by omega)
                  have q2 : (j : Int) < (k : Int) := by omega
                  have q3 : (j : Int) < (L.length : Int) := by omega
                  obtain ⟨g, rfl, c0⟩ := rV.get HX.out
                  obtain ⟨g', e', c1⟩ := rV.get hy
                  simp only [Option.some.injEq, Addr.mk.injEq, and_true] at e'
                  subst e'
                  generalize L[j] = t at *
                  have HY := Lib.hid hy
                  have d0 := (World.cell?_drew (w := wr) (a := ⟨g, k, none⟩)).trans c0
                  have d1 := (World.cell?_drew (w := wr) (a := ⟨g, j, none⟩)).trans c1
                  clear hy
                  by_cases hts : t = s
                  · have bts : (t.toList == s.toList) = true := str_eq0.2 hts
                    have HQ := Lib.hid (HS6.out (take_dup HX.out HY.out hlt2 hts))
                    clear hts
                    go_wp2_with fail
                    go_region
                    go_wp2_with fail
                    go_ret
                    exact ⟨by rw [HQ.out]; rfl, rE.drew⟩
                  · have bts : (t.toList == s.toList) = false := by
                      cases hb : (t.toList == s.toList)
                      · rfl
                      · exact absurd (str_eq0.1 hb) hts
                    have HQ := Lib.hid (not_mem_take HY.out HNS.out hts)
                    have rV2 : NmV wr.drew (w.heap.size + 1) L (.slice (some ⟨g, 0, none⟩) L.length cv) := rV
                    have xb2 := Ext.heap (show Ext wr wr.drew from (Chg.refl _ _).drew) xb
                    have rE2 : Ext w wr.drew := rE.drew
                    clear hts
                    go_wp2_with fail
                    go_region
                    go_wp2_with fail
                    go_roundw
                    case rel => exact ⟨j + 1, by omega, by go_num, HQ.out, rV2, xb2, rE2⟩
                    case measure => simp [intOf]; omega
                · obtain rfl : j = k := by omega
                  have HQ := Lib.hid (take_nodup HX.out HND.out HNS.out)
                  go_wp2_with fail
                  go_roundw
                  case rel => exact ⟨j + 1, by omega, by go_num, HQ.out, rV, xb, rE⟩
                  case measure => simp [intOf]; omega
            · obtain rfl : k = L.length := by omega
              have HLN : Hid L.Nodup := by have := HND.out; rwa [List.take_length] at this
              clear HS6 HND rV
              go_wp2_with fail
              obtain ⟨wo4, rfl⟩ : ∃ wo : World, wo = wr := ⟨_, rfl⟩
              go_loopw [8] (fun i wr => ∃ k : Nat, k ≤ p.flows.length ∧ i = .int .i64 k ∧ (∀ s, s ∈ namesF (p.flows.take k) → s ∈ L) ∧ wr.heap[w.heap.size]? = some (.cells #[.int .i64 p.st, .slice ai p.ins.length ci, .slice af p.flows.length cf, .slice ao p.outs.length co] 26 (0, 0)) ∧ Ext w wr) (fun i _ => p.flows.length - (intOf i).toNat)
              case atStart => exact ⟨0, Nat.zero_le _, rfl, fun s hs => by simp [namesF] at hs, xb, rE⟩
              case round =>
                clear y0 y1 y2 y3 xb rE
                obtain ⟨k, hk, rfl, hall, xb, rE⟩ := hrel
                have HALL := Lib.hid hall
                clear hall
                have y0 := blk_cell xb 0
                have y1 := blk_cell xb 1
                have y2 := blk_cell xb 2
                have y3 := blk_cell xb 3
                simp only [List.getElem?_toArray, List.getElem?_cons_zero, List.getElem?_cons_succ] at y0 y1 y2 y3
                by_cases hlt : k < p.flows.length
                · have hx : p.flows[k]? = some p.flows[k] := List.getElem?_eq_getElem hlt
                  have hxm : p.flows[k] ∈ p.flows := List.getElem_mem hlt
                  have q1 : (k : Int) < (p.flows.length : Int) := by omega
                  have htk := namesF_take hx
                  obtain ⟨_, _, e, _, _, _, hr, _⟩ := HF.out.ext rE
                  simp only [Value.slice.injEq, true_and] at e
                  obtain ⟨rfl, rfl⟩ := e
                  obtain ⟨hnm, _, _, _, b, o, rfl, _, hlt2, c0, c1, c2, c3, _, _, hbn, v, hvx, c4, c5, c6, c7⟩ := hr k _ hx
                  generalize p.flows[k] = x at *
                  obtain ⟨hwf, hnd2⟩ := ok_wf' (HOK.out x hxm)
                  have hrf := refRefs_any x.body v wr hvx (by omega)
                  obtain ⟨va, vc, rfl, _⟩ := hvx.form
                  have HR := Lib.hid hrf
                  have HTK := Lib.hid htk
                  have hma : ∀ s, s ∈ (gthE [] 0 x.body).map (·.1) → s ∈ askedL p := fun s hs => List.mem_append.2 (.inl (namesF_mem hxm hs))
                  have HMA := Lib.hid hma
                  have hgl := gthE_le x.body [] 0
                  simp only [List.length_nil] at hgl
                  have hfin0 : Hid (namesF (p.flows.take (k + 1)) = namesF (p.flows.take k) ++ (gthE [] 0 x.body).map (·.1)) := HTK
                  clear hr hx hvx hrf htk hma hwf c0 c1 c2 c3 HTK
                  generalize gthE [] 0 x.body = Lr at *
                  go_wp2_with fail
                  refine HR.out.mono ?_
                  rintro e w2 ⟨v2, rfl, V2, E2⟩
                  obtain ⟨a2, cc2, rfl⟩ := V2.form
                  have F2 := rE.trans E2
                  have xb2 := Ext.heap E2 xb
                  clear HR c4 c5 c6 c7 y0 y1 y2 y3 xb rE E2
                  have HT0 : Hid ((Lr.all fun r => (findP r.1 p.flows p.ins).2.2.2) = ((Lr.drop 0).all fun r => (findP r.1 p.flows p.ins).2.2.2)) := Lib.hid rfl
                  go_wp2_with fail
                  obtain ⟨wo5, rfl⟩ : ∃ wo : World, wo = wr := ⟨_, rfl⟩
                  go_loopw [10] (fun i wr => ∃ j : Nat, j ≤ Lr.length ∧ i = .int .i64 j ∧ (Lr.all fun r => (findP r.1 p.flows p.ins).2.2.2) = ((Lr.drop j).all fun r => (findP r.1 p.flows p.ins).2.2.2) ∧ Ext w2 wr) (fun i _ => Lr.length - (intOf i).toNat)
                  case atStart => exact ⟨0, Nat.zero_le _, rfl, HT0.out, Chg.refl _ _⟩
                  case round =>
                    obtain ⟨j, hj, rfl, hth, rE⟩ := hrel
                    have HT := Lib.hid hth
                    clear hth HT0
                    have BP3 := Ext.heap rE xb2
                    by_cases hlt3 : j < Lr.length
                    · have hx := List.getElem?_eq_getElem hlt3
                      have hrm : Lr[j].1 ∈ Lr.map (·.1) := List.mem_map.2 ⟨_, List.getElem_mem hlt3, rfl⟩
                      obtain ⟨g, rfl, c0, c1⟩ := (V2.chg rE (fun _ _ h => h)).get hx
                      have q2 : (j : Int) < (Lr.length : Int) := by omega
                      have HD := Lib.hid (all_drop (p := p) hx)
                      generalize Lr[j] = r at *
                      obtain ⟨r1, r2⟩ := r
                      simp only at c0 c1 HD hrm
                      have hf := refFind_any p r1 _ wr.drew (H.out.ext (F2.trans rE).drew)
                      have HA1 := Lib.hid (HA6.out r1 (HMA.out r1 hrm))
                      have HF1 := Lib.hid (HFT.out r1)
                      have y0 := blk_cell BP3 0
                      have y1 := blk_cell BP3 1
                      have y2 := blk_cell BP3 2
                      have y3 := blk_cell BP3 3
                      simp only [List.getElem?_toArray, List.getElem?_cons_zero, List.getElem?_cons_succ] at y0 y1 y2 y3
                      have z0 := (World.cell?_drew (w := wr) (a := ⟨w.heap.size, 0, none⟩)).trans y0
                      have z1 := (World.cell?_drew (w := wr) (a := ⟨w.heap.size, 1, none⟩)).trans y1
                      have z2 := (World.cell?_drew (w := wr) (a := ⟨w.heap.size, 2, none⟩)).trans y2
                      have z3 := (World.cell?_drew (w := wr) (a := ⟨w.heap.size, 3, none⟩)).trans y3
                      have z4 := (World.cell?_drew (w := wr) (a := ⟨g, j * 2, none⟩)).trans c0
                      unfold RetFind fourV at hf
                      have HFd := Lib.hid hf
                      clear hf hx y0 y1 y2 y3 c0 c1 hrm
                      generalize findP r1 p.flows p.ins = q at *
                      obtain ⟨qa, qb, qc, qd⟩ := q
                      go_wp2_with fail
                      go_region_held3 (fun X => X.cell? ⟨w.heap.size, 0, none⟩ = some (.int .i64 p.st) ∧ X.cell? ⟨w.heap.size, 1, none⟩ = some (.slice ai p.ins.length ci) ∧ X.cell? ⟨w.heap.size, 2, none⟩ = some (.slice (some ⟨b, o, none⟩) p.flows.length cf) ∧ X.cell? ⟨w.heap.size, 3, none⟩ = some (.slice ao p.outs.length co) ∧ X.cell? ⟨g, j * 2, none⟩ = some (.string r1))
                        (first | (with_reducible exact ⟨z0, z1, z2, z3, z4⟩) | (with_reducible exact ⟨Ext.cell E5 z0, Ext.cell E5 z1, Ext.cell E5 z2, Ext.cell E5 z3, Ext.cell E5 z4⟩))
                        (first
                          | (go_at_call 68; refine HFd.out.mono ?_; rintro e w5 ⟨rfl, E5⟩))
                      have F5 : Ext w2 w5 := rE.drew.trans E5
                      clear z0 z1 z2 z3 z4
                      cases qd
                      · have HQ := Lib.hid (HA1.out (fun hm => by have := HF1.out.2 hm; cases this))
                        go_wp2_with fail
                        go_ret
                        exact ⟨by rw [HQ.out]; rfl, F2.trans F5⟩
                      · have hfin : (Lr.all fun r => (findP r.1 p.flows p.ins).2.2.2) = ((Lr.drop (j + 1)).all fun r => (findP r.1 p.flows p.ins).2.2.2) := by rw [HT.out, HD.out]; rfl
                        have HFin := Lib.hid hfin
                        clear hfin
                        go_wp2_with fail
                        go_roundw
                        case rel => exact ⟨j + 1, by omega, by go_num, HFin.out, F5⟩
                        case measure => simp [intOf]; omega
                    · obtain rfl : j = Lr.length := by omega
                      have hfin : (Lr.all fun r => (findP r.1 p.flows p.ins).2.2.2) = true := by rw [HT.out, List.drop_length]; rfl
                      have hnew : ∀ s, s ∈ namesF (p.flows.take (k + 1)) → s ∈ L := fun s hs => by
                        rw [hfin0.out] at hs
                        exact (List.mem_append.1 hs).elim (HALL.out s) ((HTM.out Lr).1 hfin s)
                      have HNEW := Lib.hid hnew
                      have F6 := F2.trans rE
                      clear hfin hnew V2 HALL
                      go_wp2_with fail
                      go_roundw
                      case rel => exact ⟨k + 1, by omega, by go_num, HNEW.out, BP3, F6⟩
                      case measure => simp [intOf]; omega
                · obtain rfl : k = p.flows.length := by omega
                  have HALL2 : Hid (∀ s, s ∈ namesF p.flows → s ∈ L) := by have := HALL.out; rwa [List.take_length] at this
                  clear HALL
                  go_wp2_with fail
                  obtain ⟨wo6, rfl⟩ : ∃ wo : World, wo = wr := ⟨_, rfl⟩
                  go_loopw [15] (fun i wr => ∃ k : Nat, k ≤ p.outs.length ∧ i = .int .i64 k ∧ (∀ s, s ∈ p.outs.take k → s ∈ L) ∧ (p.outs.take k).Nodup ∧ wr.heap[w.heap.size]? = some (.cells #[.int .i64 p.st, .slice ai p.ins.length ci, .slice af p.flows.length cf, .slice ao p.outs.length co] 26 (0, 0)) ∧ Ext w wr) (fun i _ => p.outs.length - (intOf i).toNat)
                  case atStart => exact ⟨0, Nat.zero_le _, rfl, fun s hs => by simp at hs, by simp, xb, rE⟩
                  case round =>
                    clear y0 y1 y2 y3 xb rE
                    obtain ⟨k, hk, rfl, hall, hnd, xb, rE⟩ := hrel
                    have HALL := Lib.hid hall
                    have HND := Lib.hid hnd
                    clear hall hnd
                    have y0 := blk_cell xb 0
                    have y1 := blk_cell xb 1
                    have y2 := blk_cell xb 2
                    have y3 := blk_cell xb 3
                    simp only [List.getElem?_toArray, List.getElem?_cons_zero, List.getElem?_cons_succ] at y0 y1 y2 y3
                    by_cases hlt : k < p.outs.length
                    · have hx : p.outs[k]? = some p.outs[k] := List.getElem?_eq_getElem hlt
                      have hxm : p.outs[k] ∈ p.outs := List.getElem_mem hlt
                      have q1 : (k : Int) < (p.outs.length : Int) := by omega
                      have hO := HO.out
                      obtain ⟨_, _, e, _, _, _, hr, _⟩ := hO
                      simp only [Value.slice.injEq, true_and] at e
                      obtain ⟨rfl, rfl⟩ := e
                      obtain ⟨hsz, b, o, rfl, _, hlt2, c0⟩ := hr k _ hx
                      have HRR := Lib.hid hr
                      have c0 := Ext.cell rE c0
                      generalize p.outs[k] = s at *
                      have HX := Lib.hid hx
                      have hf := refFind_any p s _ wr.drew (H.out.ext rE.drew)
                      have HA1 := Lib.hid (HA6.out s (List.mem_append.2 (.inr hxm)))
                      have HF1 := Lib.hid (HFT.out s)
                      have z0 := (World.cell?_drew (w := wr) (a := ⟨w.heap.size, 0, none⟩)).trans y0
                      have z1 := (World.cell?_drew (w := wr) (a := ⟨w.heap.size, 1, none⟩)).trans y1
                      have z2 := (World.cell?_drew (w := wr) (a := ⟨w.heap.size, 2, none⟩)).trans y2
                      have z3 := (World.cell?_drew (w := wr) (a := ⟨w.heap.size, 3, none⟩)).trans y3
                      have z4 := (World.cell?_drew (w := wr) (a := ⟨b, o + k, none⟩)).trans c0
                      unfold RetFind fourV at hf
                      have HFd := Lib.hid hf
                      clear hf hx hr c0 hxm
                      generalize findP s p.flows p.ins = q at *
                      obtain ⟨qa, qb, qc, qd⟩ := q
                      go_wp2_with fail
                      go_region_held3 (fun X => X.cell? ⟨w.heap.size, 0, none⟩ = some (.int .i64 p.st) ∧ X.cell? ⟨w.heap.size, 1, none⟩ = some (.slice ai p.ins.length ci) ∧ X.cell? ⟨w.heap.size, 2, none⟩ = some (.slice af p.flows.length cf) ∧ X.cell? ⟨w.heap.size, 3, none⟩ = some (.slice (some ⟨b, o, none⟩) p.outs.length co) ∧ X.cell? ⟨b, o + k, none⟩ = some (.string s))
                        (first | (with_reducible exact ⟨z0, z1, z2, z3, z4⟩) | (with_reducible exact ⟨Ext.cell E5 z0, Ext.cell E5 z1, Ext.cell E5 z2, Ext.cell E5 z3, Ext.cell E5 z4⟩))
                        (first
                          | (go_at_call 68; refine HFd.out.mono ?_; rintro e w5 ⟨rfl, E5⟩))
                      have F5 : Ext w w5 := rE.drew.trans E5
                      have xb5 := Ext.heap (show Ext wr w5 from (Chg.refl (fun _ => False) wr).drew.trans E5) xb
                      clear z0 z1 z2 z3 z4 y0 y1 y2 y3 xb rE
                      cases qd
                      · have HQ := Lib.hid (HA1.out (fun hm => by have := HF1.out.2 hm; cases this))
                        go_wp2_with fail
                        go_ret
                        exact ⟨by rw [HQ.out]; rfl, F5⟩
                      have HSL := Lib.hid (HF1.out.1 rfl)
                      go_wp2_with fail
                      obtain ⟨wo7, rfl⟩ : ∃ wo : World, wo = wr := ⟨_, rfl⟩
                      go_loopw [20] (fun i wr => ∃ j : Nat, j ≤ k ∧ i = .int .i64 j ∧ s ∉ p.outs.take j ∧ wr.heap[w.heap.size]? = some (.cells #[.int .i64 p.st, .slice ai p.ins.length ci, .slice af p.flows.length cf, .slice (some ⟨b, o, none⟩) p.outs.length co] 26 (0, 0)) ∧ Ext w wr) (fun i _ => k - (intOf i).toNat)
                      case atStart => exact ⟨0, Nat.zero_le _, rfl, by simp, xb5, F5⟩
                      case round =>
                        clear xb5 F5
                        obtain ⟨j, hj, rfl, hns, xb, rE⟩ := hrel
                        have HNS := Lib.hid hns
                        clear hns
                        by_cases hlt2 : j < k
                        · have hy : p.outs[j]? = some p.outs[j] := List.getElem?_eq_getElem (by omega)
                          have q2 : (j : Int) < (k : Int) := by omega
                          have q3 : (j : Int) < (p.outs.length : Int) := by omega
                          obtain ⟨_, b', o', e', _, _, c1⟩ := HRR.out j _ hy
                          simp only [Option.some.injEq, Addr.mk.injEq, and_true] at e'
                          obtain ⟨rfl, rfl⟩ := e'
                          obtain ⟨_, b', o', e', _, _, c0⟩ := HRR.out k _ HX.out
                          simp only [Option.some.injEq, Addr.mk.injEq, and_true] at e'
                          obtain ⟨rfl, rfl⟩ := e'
                          have c0 := Ext.cell rE c0
                          have c1 := Ext.cell rE c1
                          generalize p.outs[j] = t at *
                          have HY := Lib.hid hy
                          have y3 := blk_cell xb 3
                          simp only [List.getElem?_toArray, List.getElem?_cons_zero, List.getElem?_cons_succ] at y3
                          clear hy
                          by_cases hts : t = s
                          · have bts : (t.toList == s.toList) = true := str_eq0.2 hts
                            have HQ := Lib.hid (HO6.out (take_dup HX.out HY.out hlt2 hts))
                            clear hts
                            go_wp2_with fail
                            go_region
                            go_wp2_with fail
                            go_ret
                            exact ⟨by rw [HQ.out]; rfl, rE.drew⟩
                          · have bts : (t.toList == s.toList) = false := by
                              cases hb : (t.toList == s.toList)
                              · rfl
                              · exact absurd (str_eq0.1 hb) hts
                            have HQ := Lib.hid (not_mem_take HY.out HNS.out hts)
                            have xb2 := Ext.heap (show Ext wr wr.drew from (Chg.refl _ _).drew) xb
                            have rE2 : Ext w wr.drew := rE.drew
                            clear hts
                            go_wp2_with fail
                            go_region
                            go_wp2_with fail
                            go_roundw
                            case rel => exact ⟨j + 1, by omega, by go_num, HQ.out, xb2, rE2⟩
                            case measure => simp [intOf]; omega
                        · obtain rfl : j = k := by omega
                          have HQ := Lib.hid (take_nodup HX.out HND.out HNS.out)
                          have hnew : ∀ t, t ∈ p.outs.take (j + 1) → t ∈ L := fun t ht => by
                            rw [List.take_add_one, HX.out] at ht
                            rcases List.mem_append.1 ht with ht | ht
                            · exact HALL.out t ht
                            · simp at ht
                              subst ht
                              exact HSL.out
                          have HNEW := Lib.hid hnew
                          clear hnew HNS
                          go_wp2_with fail
                          go_roundw
                          case rel => exact ⟨j + 1, by omega, by go_num, HNEW.out, HQ.out, xb, rE⟩
                          case measure => simp [intOf]; omega
                    · obtain rfl : k = p.outs.length := by omega
                      have HQ := Lib.hid (HN0.out HLN.out (fun s hs => (List.mem_append.1 hs).elim (HALL2.out s) (fun h => HALL.out s (by rw [List.take_length]; exact h))) (by have := HND.out; rwa [List.take_length] at this))
                      go_wp2_with fail
                      go_ret
                      exact ⟨by rw [HQ.out]; rfl, rE⟩
end Go.Proofs.Ytjdficgejjkaoaa
