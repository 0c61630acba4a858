/- late.Of. -/
import Derived.Test.YtjdficgejjkaoaaAskCol
import Derived.Test.YtjdficgejjkaoaaLateQ
import Derived.Test.YtjdficgejjkaoaaAge
import Derived.Test.YtjdficgejjkaoaaTwinP
import Derived.Deep.RegionHeld3
import Derived.Deep.LoopGhost
import Derived.Deep.Cut
import Derived.Deep.CutRange
namespace Go.Proofs.Ytjdficgejjkaoaa
open Go.RowKit
set_option linter.unusedVariables false
set_option linter.unusedSimpArgs false

/-- A slice of numbers in a block of one's own. -/
def LsV (w : World) (base : Nat) (l : List Int) (v : Value) : Prop := ∃ g, v = .slice (some ⟨g, 0, none⟩) l.length l.length ∧ base ≤ g ∧ w.heap[g]? = some (.cells (l.map (Value.int .i64)).toArray 3 (0, 0))
/-- What Of answers. -/
def RetOf (p : PrD) (w : World) (e : Ending) (w' : World) : Prop := ∃ l v n, LateA p l n ∧ e = .returned (.tuple #[v, .int .i64 n]) ∧ ((n = 0 ∧ LsV w' w.heap.size l v) ∨ (n ≠ 0 ∧ v = .slice none 0 0)) ∧ Ext w w'
theorem made_ints (n : Nat) : madeCells (Value.int .i64 0).cells (n * 1) = Array.replicate n (.int .i64 0) := by
  apply Array.ext
  · simp [madeCells]
  · intro i h1 h2
    have h0 : i % 1 = 0 := Nat.mod_one i
    simp [madeCells, Value.cells, h0]
theorem zero_ints (n : Nat) : Array.replicate n (Value.int .i64 0) = ((List.replicate n (0 : Int)).map (Value.int .i64)).toArray := by simp
theorem ints_set (l : List Int) (k : Nat) (n : Int) : ((l.map (Value.int .i64)).toArray).setIfInBounds k (.int .i64 n) = ((l.set k n).map (Value.int .i64)).toArray := by
  simp [List.map_set]
theorem ints_rd {w : World} {g : Nat} {l : List Int} (h : w.heap[g]? = some (.cells (l.map (Value.int .i64)).toArray 3 (0, 0))) (hr : ∀ n, n ∈ l → 0 ≤ n ∧ n ≤ 1000) (hl : l.length ≤ 1000000) : RdIntV w 0 false l (.slice (some ⟨g, 0, none⟩) l.length l.length) := by
  refine ⟨_, _, rfl, by unfold fitsR; omega, Nat.le_refl _, by unfold maxLen; omega, fun i x hx => ⟨?_, g, 0, rfl, Nat.zero_le _, lt_of_block h, ?_⟩, fun h => by cases h⟩
  · have := hr x (List.mem_of_getElem? hx); unfold isI64; omega
  · rw [Nat.zero_add, blk_cell h]; simp [hx]
theorem AkV.get {w : World} {base n : Nat} {l : List Ask} {a : Option Addr} {cap : Nat} (h : AkV w base l (.slice a n cap)) {i : Nat} {x : Ask} (hx : l[i]? = some x) : ∃ g, a = some ⟨g, 0, none⟩ ∧ base ≤ g ∧ w.cell? ⟨g, i * 5, none⟩ = some (.int .i64 x.flow) ∧
    w.cell? ⟨g, i * 5 + 1, none⟩ = some (.int .i64 x.src) ∧ w.cell? ⟨g, i * 5 + 2, none⟩ = some (.int .i64 x.more) ∧ w.cell? ⟨g, i * 5 + 3, none⟩ = some (.string x.ref.1) ∧ w.cell? ⟨g, i * 5 + 4, none⟩ = some (.int .i64 x.ref.2) ∧ ∃ cur, w.heap[g]? = some (.cells cur 84 (0, 0)) := by
  unfold AkV at h
  rcases h.2 with ⟨e, h0⟩ | ⟨g, cap', cur, e, hb, hg, h1, h2, h3, h4⟩
  · have := (List.getElem?_eq_some_iff.1 hx).1; omega
  · simp only [Value.slice.injEq] at e
    obtain ⟨rfl, rfl, rfl⟩ := e
    obtain ⟨cur', k1, k2, k3, _⟩ := RowOf.own (r := []) ask5_len (by simpa using h)
    rw [hg] at k1
    obtain rfl : cur = cur' := by simpa using k1
    have hc := k3 i x hx
    have c0 := (blk_cell hg (i * 5)).trans (hc 0 (by omega))
    have c1 := (blk_cell hg (i * 5 + 1)).trans (hc 1 (by omega))
    have c2 := (blk_cell hg (i * 5 + 2)).trans (hc 2 (by omega))
    have c3 := (blk_cell hg (i * 5 + 3)).trans (hc 3 (by omega))
    have c4 := (blk_cell hg (i * 5 + 4)).trans (hc 4 (by omega))
    exact ⟨g, rfl, hb, c0, c1, c2, c3, c4, cur, hg⟩
theorem AkV.form {w : World} {base : Nat} {l : List Ask} {v : Value} (h : AkV w base l v) : ∃ a cap, v = .slice a l.length cap := by
  unfold AkV at h
  rcases h.2 with ⟨rfl, h0⟩ | ⟨g, cap, cur, rfl, _⟩
  · exact ⟨none, 0, by rw [h0]⟩
  · exact ⟨_, _, rfl⟩
theorem AkV.chg {w w' : World} {base : Nat} {l : List Ask} {v : Value} {S : Nat → Prop} (h : AkV w base l v) (hc : Chg S w w') (hS : ∀ g cur, w.heap[g]? = some (.cells cur 84 (0, 0)) → ¬ S g) : AkV w' base l v := by
  unfold AkV at h ⊢
  rcases h.2 with ⟨rfl, h0⟩ | ⟨g, cap, cur, rfl, hb, hg, hr⟩
  · exact ⟨h.1, .inl ⟨rfl, h0⟩⟩
  · exact ⟨h.1, .inr ⟨g, cap, cur, rfl, hb, hc.heap hg (hS g cur hg), hr⟩⟩
theorem AkV.base {w : World} {base base' : Nat} {l : List Ask} {v : Value} (h : AkV w base l v) (hb : base' ≤ base) : AkV w base' l v := ownsRow_base h hb
theorem leftS_le : ∀ (n : Nat), leftS (List.replicate n 0) = 1000 * n
  | 0 => rfl
  | n + 1 => by rw [List.replicate_succ, leftS, leftS_le n]; simp; omega
set_option maxRecDepth 100000 in
set_option maxHeartbeats 4000000 in
theorem lateOf_any (p : PrD) (cs : Array Value) (w : World) (h : RdPr w 0 false p cs) : Calls Try.prog 19 #[.agg cs] w (RetOf p w) := by
  have HP := Lib.hid h
  obtain ⟨ai, ci, af, cf, ao, co, rfl⟩ := pr_form h
  clear h
  have e0 := (Chg.refl (fun _ => False) w).alloc (.cells #[.int .i64 p.st, .slice ai p.ins.length ci, .slice af p.flows.length cf, .slice ao p.outs.length co] 26)
  have bP := heap_alloc_new w (.cells #[.int .i64 p.st, .slice ai p.ins.length ci, .slice af p.flows.length cf, .slice ao p.outs.length co] 26)
  go_enter Try.func19, Try.ntmps19
  go_wp2_with fail
  go_step3
  go_wp2_with fail
  generalize (w.alloc (.cells #[.int .i64 p.st, .slice ai p.ins.length ci, .slice af p.flows.length cf, .slice ao p.outs.length co] 26)) = W0 at *
  refine (nCheck_any p _ _ (HP.out.ext e0)).mono ?_
  rintro e w1 ⟨rfl, E1⟩
  have F1 := e0.trans E1
  have b1 := Ext.heap E1 bP
  by_cases hn : namesP p = 0
  case neg =>
    have bn : (namesP p != 0) = true := by simp [hn]
    have HL : Hid (LateA p [] (namesP p)) := by show LateA _ _ _; unfold LateA; rw [if_neg hn]; exact ⟨rfl, rfl⟩
    have HN := Lib.hid hn
    clear hn
    go_wp2_with fail
    refine bodyPost_ret (v := .tuple #[.slice none 0 0, .int .i64 (namesP p)]) (by simp [results, Try.results19, go_sem]) rfl ⟨_, _, _, HL.out, rfl, .inr ⟨HN.out, rfl⟩, F1⟩
  have HN := Lib.hid hn
  have bn : (namesP p != 0) = false := by simp [hn]
  have HPR := Lib.hid (names_prog hn)
  have hfl := (prog_ok HPR.out).2.1
  have HAL := Lib.hid (asksP_len HPR.out)
  clear hn bP E1
  generalize namesP p = np at bn ⊢
  have y0 : ∀ X, Ext w1 X → X.cell? ⟨w.heap.size, 0, none⟩ = some (.int .i64 p.st) := fun X hX => (blk_cell (Ext.heap hX b1) 0).trans rfl
  have y1 : ∀ X, Ext w1 X → X.cell? ⟨w.heap.size, 1, none⟩ = some (.slice ai p.ins.length ci) := fun X hX => (blk_cell (Ext.heap hX b1) 1).trans rfl
  have y2 : ∀ X, Ext w1 X → X.cell? ⟨w.heap.size, 2, none⟩ = some (.slice af p.flows.length cf) := fun X hX => (blk_cell (Ext.heap hX b1) 2).trans rfl
  have y3 : ∀ X, Ext w1 X → X.cell? ⟨w.heap.size, 3, none⟩ = some (.slice ao p.outs.length co) := fun X hX => (blk_cell (Ext.heap hX b1) 3).trans rfl
  have ea : ∀ X o, Ext w1 X → Ext w1 (X.alloc o) := fun X o hX => hX.alloc o
  have ed : Ext w1 w1.drew := (Chg.refl _ _).drew
  have er : Ext w1 w1 := Chg.refl _ _
  obtain ⟨i0, hi, hz0, hz1, hz2⟩ := info_parts infoInt
  have hmk : ∀ X : World, (Instr.makeSlice 27 (.int .i64 p.flows.length) (.int .i64 p.flows.length)).run Try.prog X = .ok (.slice (some ⟨X.heap.size, 0, none⟩) p.flows.length p.flows.length) (X.alloc (.cells (Array.replicate p.flows.length (.int .i64 0)) 3)) := fun X => by
    have := run_makeSlice (P := Try.prog) X 27 3 i0 _ Try.underlying27 hi hz0 .i64 .i64 (p.flows.length : Int) (p.flows.length : Int) (by omega) (by omega) (by simp [hz1]; omega) (by rw [hz2]; omega) (by omega)
    rw [Int.toNat_natCast, hz1, made_ints] at this
    exact this
  have HCOL := Lib.hid (fun (X : World) (Bs : Nat) (hX : Ext w X) (hB : X.heap[Bs]? = some (.cells #[.int .i64 p.st, .slice ai p.ins.length ci, .slice af p.flows.length cf, .slice ao p.outs.length co] 26 (0, 0))) => collect_any p _ X Bs (HP.out.ext hX) HPR.out hB)
  have HSK := Lib.hid (fun (X : World) => askings_any #[.int .i64 p.st, .slice ai p.ins.length ci, .slice af p.flows.length cf, .slice ao p.outs.length co] _ _ _ _ X rfl)
  go_wp2_with fail
  have hb1 := heap_alloc_new w1 (.cells #[.int .i64 p.st, .slice ai p.ins.length ci, .slice af p.flows.length cf, .slice ao p.outs.length co] 26)
  have hb2 := heap_alloc_new (w1.alloc (.cells (Array.replicate p.flows.length (.int .i64 0)) 3)) (.cells #[.int .i64 p.st, .slice ai p.ins.length ci, .slice af p.flows.length cf, .slice ao p.outs.length co] 26)
  rw [World.size_alloc] at hb2
  have hb3 := Ext.heap ((Chg.refl (fun _ => False) (w1.alloc (.cells #[.int .i64 p.st, .slice ai p.ins.length ci, .slice af p.flows.length cf, .slice ao p.outs.length co] 26))).alloc (.cells (Array.replicate p.flows.length (.int .i64 0)) 3)) hb1
  have hb4 := heap_alloc_new (w1.alloc (.cells #[.int .i64 p.st, .slice ai p.ins.length ci, .slice af p.flows.length cf, .slice ao p.outs.length co] 26)) (.cells (Array.replicate p.flows.length (.int .i64 0)) 3)
  rw [World.size_alloc] at hb4
  go_cut [5, 6] from 15 to 21 (fun s5 s6 wc => ∃ g : Nat, s6 = .slice (some ⟨g, 0, none⟩) p.flows.length p.flows.length ∧ w1.heap.size ≤ g ∧ wc.heap[g]? = some (.cells (Array.replicate p.flows.length (.int .i64 0)) 3 (0, 0)) ∧ AkV wc w.heap.size (asksP p) s5 ∧ Ext w1 wc)
  case first =>
    go_region_held3 (fun X => Ext w1 X) (repeat first | assumption | (refine Chg.drew ?_) | (refine Chg.alloc ?_ _))
      (first
        | (go_at_call 35; refine (HSK.out _).mono ?_; rintro e w2 ⟨rfl, rfl⟩)
        | (go_at_call 46; refine (HCOL.out _ _ (F1.trans (by repeat first | assumption | (refine Chg.drew ?_) | (refine Chg.alloc ?_ _))) (by first | exact hb1 | exact hb2 | exact hb3)).mono ?_; rintro e w5 ⟨v5, rfl, A5, E5⟩; have E5' := Ext.then (w := w1) (by repeat first | assumption | (refine Chg.drew ?_) | (refine Chg.alloc ?_ _)) E5 (fun _ h => h.elim)))
    all_goals go_wp2_with fail
    · go_meet
      case rel => exact ⟨_, rfl, by have := E5'.size; omega, heap_alloc_new w5 (.cells (Array.replicate p.flows.length (.int .i64 0)) 3), (AkV.base A5 (by have := F1.size; simp; omega)).chg ((Chg.refl (fun _ => False) w5).alloc _) (fun _ _ _ h => h), E5'.alloc _⟩
    · go_meet
      case rel => exact ⟨_, rfl, by omega, Ext.heap E5 hb4, AkV.base A5 (by have := F1.size; simp; omega), E5'⟩
    · go_meet
      case rel => exact ⟨_, rfl, by omega, Ext.heap E5 (Ext.heap ((Chg.refl _ _).alloc _) (heap_alloc_new w1 (.cells (Array.replicate p.flows.length (.int .i64 0)) 3))), AkV.base A5 (by have := F1.size; simp; omega), E5'⟩
  case rest =>
    obtain ⟨g, rfl, hg0, hz, A6, E6⟩ := hcut
    obtain ⟨aa, ca, rfl⟩ := A6.form
    clear hb1 hb2 hb3 hb4 hmk HCOL HSK y0 y1 y2 y3 ea ed er b1
    have HZ := Lib.hid hz
    have HA6 := Lib.hid A6
    have F6 := F1.trans E6
    have hgw : w.heap.size ≤ g := by have := F1.size; omega
    have hnl : (asksP p).length ≤ 25600 := HAL.out
    generalize hAk : asksP p = ak at *
    have HAK := Lib.hid hAk
    clear hz A6 hAk
    go_wp2_with fail
    go_step3
    go_wp2_with fail
    go_loopg [24] (leftS (List.replicate p.flows.length 0)) (fun gk s24 wr => ∃ l : List Int, gk = leftS l ∧ Way p l ∧ wr.heap[g]? = some (.cells (l.map (Value.int .i64)).toArray 3 (0, 0)) ∧ AkV wr w.heap.size ak (.slice aa ak.length ca) ∧ Ext w wr)
    case atStart => exact ⟨_, rfl, Way.start p, by rw [← zero_ints]; exact HZ.out, HA6.out, F6⟩
    case round =>
      clear F6 E6 F1
      obtain ⟨l, hgk, hW, hb, hA, hE⟩ := hrel
      have hll := hW.len
      have HW := Lib.hid hW
      have HGK := Lib.hid hgk
      have HLL := Lib.hid hll
      have HB := Lib.hid hb
      have HA := Lib.hid hA
      have hl128 : l.length ≤ 128 := by omega
      clear hW hgk hb hA
      obtain ⟨wo, rfl⟩ : ∃ wo : World, wo = wr := ⟨_, rfl⟩
      obtain ⟨ko, rfl⟩ : ∃ ko : Nat, ko = gk := ⟨_, rfl⟩
      go_wp2_with fail
      go_loopg [24] ak.length (fun g2 s24 wr => ∃ j : Nat, j + g2 = ak.length ∧ s24 = .int .i64 j ∧ (∀ x, x ∈ ak.take j → leastA l x ≤ l.getD x.flow 0) ∧ Ext wo wr)
      case atStart => exact ⟨0, by omega, rfl, fun x hx => by simp at hx, Chg.refl _ _⟩
      case round =>
        obtain ⟨j, hjg, rfl, hall, hE2⟩ := hrel
        have HALL := Lib.hid hall
        clear hall
        have hb := Ext.heap hE2 HB.out
        have hEw := hE.trans hE2
        cases gk with
        | zero =>
          have hjz : ¬ ((j : Int) < (ak.length : Int)) := by omega
          obtain rfl : j = ak.length := by omega
          have HLST : Hid (LateA p l 0) := by
            show LateA p l 0
            unfold LateA
            rw [if_pos HN.out]
            refine .inl ⟨rfl, HW.out.done (fun x hx => HALL.out x ?_)⟩
            rw [List.take_length, ← HAK.out]; exact hx
          have HLV : Hid (LsV wr w.heap.size l (.slice (some ⟨g, 0, none⟩) p.flows.length p.flows.length)) := ⟨g, by rw [HLL.out], hgw, hb⟩
          clear hb hjz
          go_wp2_with fail
          try rw [Exit.noGoto_ret]
          exact bodyPost_ret (v := .tuple #[.slice (some ⟨g, 0, none⟩) p.flows.length p.flows.length, .int .i64 0]) (by simp [results, Try.results19, go_sem]) rfl ⟨l, _, 0, HLST.out, rfl, .inl ⟨rfl, HLV.out⟩, hEw⟩
        | succ g2 =>
          have hlt : j < ak.length := by omega
          have hjz : (j : Int) < (ak.length : Int) := by omega
          have hx := List.getElem?_eq_getElem hlt
          have hxm : ak[j] ∈ asksP p := by rw [HAK.out]; exact List.getElem_mem hlt
          obtain ⟨ga, rfl, hga, c0, c1, c2, c3, c4, cur, hcur⟩ := (HA.out.chg hE2 (fun _ _ _ h => h)).get hx
          have hao := ask_ok HPR.out hxm
          have htk := List.take_succ_eq_append_getElem hlt
          generalize ak[j] = x at *
          have HTK := Lib.hid htk
          have hfl : x.flow < l.length := by have := hao.flow; omega
          have hfi : (x.flow : Int) < (p.flows.length : Int) := by omega
          have hlx := List.getElem?_eq_getElem hfl
          have hgd : l.getD x.flow 0 = l[x.flow] := by rw [List.getD_eq_getElem?_getD, hlx]; rfl
          have HGD := Lib.hid hgd
          have hbx : Ext wr (wr.alloc (.cells #[.int .i64 x.flow, .int .i64 x.src, .int .i64 x.more, .string x.ref.1, .int .i64 x.ref.2] 84)) := (Chg.refl _ _).alloc _
          have bx := heap_alloc_new wr (.cells #[.int .i64 x.flow, .int .i64 x.src, .int .i64 x.more, .string x.ref.1, .int .i64 x.ref.2] 84)
          have hrd := ints_rd (Ext.heap hbx hb) HW.out.rng (by omega)
          rw [HLL.out] at hrd
          have HLS := Lib.hid (askLeast_any p x l _ _ hao hrd ⟨HLL.out, HW.out.rng⟩)
          unfold askV RetE at HLS
          have HMEM := Lib.hid hxm
          have hmr := leastA_rng (p := p) ⟨HLL.out, HW.out.rng⟩ hao
          generalize hm : leastA l x = m at HLS hmr
          have HM := Lib.hid hm
          clear hx hao htk hgd hxm hm hrd
          go_wp2_with fail
          refine HLS.out.mono ?_
          rintro e w7 ⟨rfl, E7⟩
          have bx7 := Ext.heap E7 bx
          have hb7 := Ext.heap E7 (Ext.heap hbx hb)
          have hE7 := hE2.trans (hbx.trans E7)
          have k0 := (blk_cell bx7 0).trans rfl
          have kl := (blk_cell hb7 x.flow).trans (show _ = some (Value.int .i64 l[x.flow]) by simp [hlx])
          have kf := blk_free hb7 x.flow
          simp only [List.getElem?_toArray, List.getElem?_cons_zero, List.getElem?_cons_succ] at k0
          clear c0 c1 c2 c3 c4 hb bx hbx HLS bx7 E7 hlx
          generalize hu : l[x.flow] = u at *
          have HU := Lib.hid hu
          clear hu
          by_cases hbig : 1000 < m
          · have HST : Hid (LateA p [] 10) := by
              show LateA p [] 10
              unfold LateA
              rw [if_pos HN.out]
              exact .inr ⟨rfl, rfl, HW.out.stop HMEM.out (by rw [HM.out]; exact hbig)⟩
            go_wp2_with fail
            try rw [Exit.noGoto_ret]
            exact bodyPost_ret (v := .tuple #[.slice none 0 0, .int .i64 10]) (by simp [results, Try.results19, go_sem]) rfl ⟨[], _, 10, HST.out, rfl, .inr ⟨by decide, rfl⟩, hE.trans hE7⟩
          · by_cases hup : u < m
            · have HWN := Lib.hid (HW.out.step HMEM.out (by rw [HM.out]; omega) (by rw [HGD.out, HM.out]; exact hup))
              have HMS := Lib.hid (leftS_set (l := l) (k := x.flow) (n := m) hfl (by rw [HGD.out]; exact hup) (by omega))
              rw [HM.out] at HWN
              have C8 : Chg (fun q => q = g) w7 (w7.setCell ⟨g, x.flow, none⟩ (.int .i64 m)) := (Chg.refl _ _).setCell _ _ (.inl (Eq.refl _))
              have hb8 := blk_set hb7 x.flow (.int .i64 m)
              rw [ints_set] at hb8
              have HB8 := Lib.hid hb8
              have HA8 := Lib.hid ((HA.out.chg hE7 (fun _ _ _ h => h)).chg C8 (fun q cur hq e => by rw [e, hb7] at hq; simp at hq))
              have HE8 := Lib.hid (Ext.then (hE.trans hE7) C8 (fun b hb => by omega))
              clear hb8 C8 hb7
              go_wp2_with fail
              go_roundg (leftS (l.set x.flow m))
              case measure => rw [HGK.out]; exact HMS.out
              case rel => exact ⟨_, rfl, HWN.out, HB8.out, HA8.out, HE8.out⟩
            · have HALL2 : Hid (∀ y, y ∈ ak.take (j + 1) → leastA l y ≤ l.getD y.flow 0) := fun y hy => by
                rw [HTK.out] at hy
                rcases List.mem_append.1 hy with hy | hy
                · exact HALL.out y hy
                · rw [List.mem_singleton.1 hy, HM.out, HGD.out]; omega
              go_wp2_with fail
              go_roundg g2
              case measure => omega
              case rel => exact ⟨j + 1, by omega, by go_num, HALL2.out, hE7⟩
end Go.Proofs.Ytjdficgejjkaoaa
