/- cuts.asked, cuts.some, cuts.own. -/
import Derived.Test.YtjdficgejjkaoaaKeyMap
import Derived.Test.YtjdficgejjkaoaaStrs
import Derived.Test.YtjdficgejjkaoaaRefLate
namespace Go.Proofs.Ytjdficgejjkaoaa
open Go.RowKit
set_option linter.unusedVariables false
set_option linter.unusedSimpArgs false

theorem site_in {p : PrD} {k : Nat} {x : InD} (h : p.ins[k]? = some x) : (sitesP p)[k]? = some (x.name, x.st) := by
  have hk := (List.getElem?_eq_some_iff.1 h).1
  unfold sitesP
  rw [List.getElem?_append_left (by rw [List.length_map]; exact hk), List.getElem?_map, h]; rfl
theorem site_fl {p : PrD} {k : Nat} {x : FlD} (h : p.flows[k]? = some x) : (sitesP p)[p.ins.length + k]? = some (x.name, x.st) := by
  unfold sitesP
  rw [List.getElem?_append_right (by rw [List.length_map]; omega), List.length_map, show p.ins.length + k - p.ins.length = k from by omega, List.getElem?_map, h]; rfl
theorem sites_len (p : PrD) : (sitesP p).length = p.ins.length + p.flows.length := by unfold sitesP; simp
theorem some_step {st : Int} {q : Int → Bool} {l : List (ByteArray × Int)} {k : Nat} {x : ByteArray × Int} (h : l[k]? = some x) : someG st q 0 (l.take (k + 1)) = someG st q 0 (l.take k) ++ (if x.2 = st ∧ q (k : Int) = true then [x.1] else []) := by
  have hk := (List.getElem?_eq_some_iff.1 h).1
  rw [List.take_add_one, h]
  show someG st q 0 (l.take k ++ [x]) = _
  rw [someG_snoc, List.length_take, Nat.min_eq_left (by omega), Nat.zero_add]
theorem someG_le (st : Int) (q : Int → Bool) : ∀ (l : List (ByteArray × Int)) (k : Nat), (someG st q k l).length ≤ l.length
  | [], k => Nat.le_refl _
  | x :: r, k => by
    have := someG_le st q r (k + 1)
    rw [someG, List.length_append, List.length_cons]
    split <;> simp <;> omega
theorem NmV.lt {w : World} {base : Nat} {l : List ByteArray} {v : Value} (h : NmV w base l v) : ∀ g, v.ownBlock = some g → base ≤ g ∧ g < w.heap.size := fun g hg => World.ownsRow.lt h g hg
theorem NmV.ext {w w' : World} {base : Nat} {l : List ByteArray} {v : Value} (h : NmV w base l v) (he : Ext w w') : NmV w' base l v := h.chg he (fun _ _ h => h)
def RetNm (l : List ByteArray) (w : World) (e : Ending) (w' : World) : Prop := ∃ v, e = .returned v ∧ NmV w' w.heap.size l v ∧ Ext w w'
theorem NmV.rows {w : World} {base : Nat} {l : List ByteArray} {v : Value} (h : NmV w base l v) : ∀ g, v.ownBlock = some g → base ≤ g := fun g hg => (NmV.lt h g hg).1
theorem nm_base {w : World} {base base' : Nat} {l : List ByteArray} {v : Value} (h : NmV w base l v) (hb : base' ≤ base) : NmV w base' l v := ownsRow_base h hb
theorem pr_in {w : World} {lo : Nat} {t : Bool} {p : PrD} {a b c d : Value} (h : RdPr w lo t p #[a, b, c, d]) : RdInV w lo t p.ins b := by
  obtain ⟨_, _, _, e, _, h2, _⟩ := h
  simp only [Array.mk.injEq, List.cons.injEq, and_true] at e
  obtain ⟨_, rfl, _⟩ := e
  exact h2
set_option maxRecDepth 100000 in
set_option maxHeartbeats 4000000 in
theorem someSends_any (p : PrD) (cs : Array Value) (st : Int) (q : Int → Bool) (P S L : Nat) (w : World) (h : RdPr w 0 false p cs) (hp : progP p = true) (HQ : ∀ (a : Int), 0 ≤ a → a ≤ 1000 → ∀ X, Ext w X → Calls Try.prog 55 #[.int .i64 a, .pointer (some ⟨P, 0, none⟩), .pointer (some ⟨S, 0, none⟩), .pointer (some ⟨L, 0, none⟩)] X (RetV (q a) X)) :
    Calls Try.prog 54 #[.agg cs, .int .i64 st, .func (.func 55) #[] #[.pointer (some ⟨P, 0, none⟩), .pointer (some ⟨S, 0, none⟩), .pointer (some ⟨L, 0, none⟩)]] w (RetNm (someG st q 0 (sitesP p)) w) := by
  have HPR := Lib.hid h
  obtain ⟨ai, ci, af, cf, ao, co, rfl⟩ := pr_form h
  have HF := Lib.hid (pr_fl h)
  have HI := Lib.hid (pr_in h)
  have HQQ := Lib.hid HQ
  obtain ⟨n64, n128, _⟩ := prog_ok hp
  clear h HQ
  obtain ⟨i0, hinf, hz0, hz1, hz2⟩ := info_parts infoStr
  have e0 := (Chg.refl (fun _ => False) w).alloc (.cells #[.int .i64 p.st, .slice ai p.ins.length ci, .slice af p.flows.length cf, .slice ao p.outs.length co] 26)
  have bP := heap_alloc_new w (.cells #[.int .i64 p.st, .slice ai p.ins.length ci, .slice af p.flows.length cf, .slice ao p.outs.length co] 26)
  go_enter Try.func54, Try.ntmps54
  go_wp2_with fail
  generalize (w.alloc (.cells #[.int .i64 p.st, .slice ai p.ins.length ci, .slice af p.flows.length cf, .slice ao p.outs.length co] 26)) = W0 at *
  have y0 : ∀ X, Ext W0 X → X.cell? ⟨w.heap.size, 0, none⟩ = some (.int .i64 p.st) := fun X hX => (blk_cell (Ext.heap hX bP) 0).trans rfl
  have y1 : ∀ X, Ext W0 X → X.cell? ⟨w.heap.size, 1, none⟩ = some (.slice ai p.ins.length ci) := fun X hX => (blk_cell (Ext.heap hX bP) 1).trans rfl
  have y2 : ∀ X, Ext W0 X → X.cell? ⟨w.heap.size, 2, none⟩ = some (.slice af p.flows.length cf) := fun X hX => (blk_cell (Ext.heap hX bP) 2).trans rfl
  have y3 : ∀ X, Ext W0 X → X.cell? ⟨w.heap.size, 3, none⟩ = some (.slice ao p.outs.length co) := fun X hX => (blk_cell (Ext.heap hX bP) 3).trans rfl
  have hsz0 := e0.size
  have er : Ext W0 W0 := Chg.refl _ _
  have RW : ∀ (X : World) (l : List ByteArray) (v : Value), NmV X w.heap.size l v → True := fun _ _ _ _ => trivial
  clear bP
  go_loopw [6, 14] (fun t i wr => ∃ k : Nat, k ≤ p.ins.length ∧ i = .int .i64 k ∧ NmV wr W0.heap.size (someG st q 0 ((sitesP p).take k)) t ∧ Ext W0 wr) (fun _ i _ => p.ins.length - (intOf i).toNat)
  case atStart => exact ⟨0, Nat.zero_le _, rfl, NmV.nil _ _, er⟩
  case round =>
    obtain ⟨k, hk, rfl, hN, hE⟩ := hrel
    have hsz := hE.size
    obtain ⟨ta, tc, rfl⟩ := hN.form
    by_cases hlt : k < p.ins.length
    case pos =>
      have hx := List.getElem?_eq_getElem hlt
      have hsite := site_in hx
      have hstep := some_step (st := st) (q := q) hsite
      rw [show (((k : Nat)) : Int) = (k : Int) from by omega] at hstep
      have hle := someG_le st q ((sitesP p).take (k)) 0
      rw [List.length_take] at hle
      have hq1 : (k : Int) < (p.ins.length : Int) := by omega
      obtain ⟨_, _, e, _, _, _, hr, _⟩ := HI.out.ext (e0.trans hE)
      simp only [Value.slice.injEq, true_and] at e
      obtain ⟨rfl, rfl⟩ := e
      obtain ⟨hnm, hty, hst, b, o, rfl, _, hb, c0, c1, c2⟩ := hr k _ hx
      generalize p.ins[k] = x at *
      have HSTEP := Lib.hid hstep
      have e1 : Ext wr (wr.alloc (.cells #[.string x.name, .int .u8 x.ty, .int .i64 x.st] 59)) := (Chg.refl _ _).alloc _
      have xb := heap_alloc_new wr (.cells #[.string x.name, .int .u8 x.ty, .int .i64 x.st] 59)
      clear hstep hx hsite hr
      by_cases hs : x.st = st
      case neg =>
        have bs : (x.st == st) = false := by simpa using hs
        have HN3 := Lib.hid (show NmV (wr.alloc (.cells #[.string x.name, .int .u8 x.ty, .int .i64 x.st] 59)) W0.heap.size (someG st q 0 ((sitesP p).take (k + 1))) (.slice ta (someG st q 0 ((sitesP p).take (k))).length tc) by rw [HSTEP.out, if_neg (fun h => hs h.1), List.append_nil]; exact hN.ext e1)
        have E3 := hE.trans e1
        clear hN
        go_wp2_with fail
        go_roundw
        case rel => exact ⟨k + 1, by omega, by go_num, HN3.out, E3⟩
        case measure => simp [intOf]; omega
      have bs : (x.st == st) = true := by simpa using hs
      have HS := Lib.hid hs
      have E1a := hE.trans e1
      clear hs
      have HQ := Lib.hid (HQQ.out ((k : Int)) (by omega) (by omega) _ ((e0.trans hE).trans e1))
      cases hq : q ((k : Int))
      case false =>
        rw [hq] at HQ
        have HEQ : Hid (someG st q 0 ((sitesP p).take (k + 1)) = someG st q 0 ((sitesP p).take (k))) := by show _ = _; rw [HSTEP.out, if_neg (fun h => by rw [hq] at h; cases h.2), List.append_nil]
        have HN := Lib.hid hN
        clear hN
        go_wp2_with fail
        refine HQ.out.mono ?_
        rintro e w2 ⟨rfl, E2⟩
        have E3 := hE.trans (e1.trans E2)
        have HN3 := Lib.hid (HN.out.ext (e1.trans E2))
        go_wp2_with fail
        go_roundw
        case rel => exact ⟨k + 1, by omega, by go_num, (by show NmV _ _ (someG st q 0 ((sitesP p).take (k + 1))) _; rw [HEQ.out]; exact HN3.out), E3⟩
        case measure => simp [intOf]; omega
      rw [hq] at HQ
      have HEQ : Hid (someG st q 0 ((sitesP p).take (k + 1)) = someG st q 0 ((sitesP p).take (k)) ++ [x.name]) := by show _ = _; rw [HSTEP.out, if_pos ⟨HS.out, hq⟩]
      have HN := Lib.hid hN
      clear hN hq
      generalize hL : someG st q 0 ((sitesP p).take (k)) = L at *
      clear hL
      go_wp2_with fail
      refine HQ.out.mono ?_
      rintro e w2 ⟨rfl, E2⟩
      have E3 := hE.trans (e1.trans E2)
      have hsz3 := E3.size
      have HN2 := Lib.hid (HN.out.ext (e1.trans E2))
      have hx0 : w2.cell? ⟨wr.heap.size, 0, none⟩ = some (.string x.name) := (blk_cell (Ext.heap E2 xb) 0).trans rfl
      clear HQ e1 xb E1a
      go_wp2_with (at_builtin; refine wpList_append_own_at _ rfl _ _ 24 rfl W0.heap.size 9 i0 _ 1 16 Try.underlying24 hinf hz0 hz1 hz2 rfl (by decide) _ _ _ rfl (World.ownsRow.alloc HN2.out _) ⟨_, 0, none⟩ 1 1 [.string x.name] rfl rfl (cell_one_new _ _ _) (by simp [Value.oneCell']) (by unfold maxLen; omega) (by omega) (by simp; omega) ?_; intro v6 w6 hown6 hgrow6 _ hat6; have V6 := NmV.snoc hown6; have E6 : Ext W0 w6 := Ext.then (E3.alloc _) (Chg.of_grownBy hgrow6) (fun b hb => (NmV.rows HN2.out b hb)); clear hown6 hgrow6 hat6)
      rw [← HEQ.out] at V6
      have HN3 := Lib.hid V6
      clear V6
      go_wp2_with fail
      go_roundw
      case rel => exact ⟨k + 1, by omega, by go_num, HN3.out, E6⟩
      case measure => simp [intOf]; omega
    case neg =>
      obtain rfl : k = p.ins.length := by omega
      have y2w := y2 _ hE
      have HN0 := Lib.hid hN
      clear hN
      go_wp2_with fail
      go_loopw [6, 37] (fun t i wr => ∃ k : Nat, k ≤ p.flows.length ∧ i = .int .i64 k ∧ NmV wr W0.heap.size (someG st q 0 ((sitesP p).take (p.ins.length + k))) t ∧ Ext W0 wr) (fun _ i _ => p.flows.length - (intOf i).toNat)
      case atStart => exact ⟨0, Nat.zero_le _, rfl, HN0.out, hE⟩
      case round =>
        clear hE hsz y2w HN0
        obtain ⟨k, hk, rfl, hN, hE⟩ := hrel
        have hsz := hE.size
        obtain ⟨ta, tc, rfl⟩ := hN.form
        by_cases hlt : k < p.flows.length
        case pos =>
          have hx := List.getElem?_eq_getElem hlt
          have hsite := site_fl hx
          have hstep := some_step (st := st) (q := q) hsite
          rw [show (((p.ins.length + k : Nat)) : Int) = (p.ins.length : Int) + (k : Int) from by omega] at hstep
          have hle := someG_le st q ((sitesP p).take (p.ins.length + k)) 0
          rw [List.length_take] at hle
          have hq1 : (k : Int) < (p.flows.length : Int) := by omega
          obtain ⟨hnm, _, hst, _, b, o, rfl, _, hb, c0, c1, c2, c3, _, _, _, vx, hvx, c4, c5, c6, c7⟩ := (HF.out.ext (e0.trans hE)).at hx
          obtain ⟨va, vc, rfl, _⟩ := hvx.form
          clear hvx
          generalize p.flows[k] = x at *
          have HSTEP := Lib.hid hstep
          have e1 : Ext wr (wr.alloc (.cells #[.string x.name, .int .u8 x.ty, .int .i64 x.st, .int .i64 x.df, .int .u8 x.body.op, .int .i64 x.body.n, .string x.body.name, .slice va x.body.args.length vc] 55)) := (Chg.refl _ _).alloc _
          have xb := heap_alloc_new wr (.cells #[.string x.name, .int .u8 x.ty, .int .i64 x.st, .int .i64 x.df, .int .u8 x.body.op, .int .i64 x.body.n, .string x.body.name, .slice va x.body.args.length vc] 55)
          clear hstep hx hsite
          by_cases hs : x.st = st
          case neg =>
            have bs : (x.st == st) = false := by simpa using hs
            have HN3 := Lib.hid (show NmV (wr.alloc (.cells #[.string x.name, .int .u8 x.ty, .int .i64 x.st, .int .i64 x.df, .int .u8 x.body.op, .int .i64 x.body.n, .string x.body.name, .slice va x.body.args.length vc] 55)) W0.heap.size (someG st q 0 ((sitesP p).take (p.ins.length + k + 1))) (.slice ta (someG st q 0 ((sitesP p).take (p.ins.length + k))).length tc) by rw [HSTEP.out, if_neg (fun h => hs h.1), List.append_nil]; exact hN.ext e1)
            have E3 := hE.trans e1
            clear hN
            go_wp2_with fail
            go_roundw
            case rel => exact ⟨k + 1, by omega, by go_num, HN3.out, E3⟩
            case measure => simp [intOf]; omega
          have bs : (x.st == st) = true := by simpa using hs
          have HS := Lib.hid hs
          have E1a := hE.trans e1
          clear hs
          have HQ := Lib.hid (HQQ.out ((p.ins.length : Int) + (k : Int)) (by omega) (by omega) _ ((e0.trans hE).trans e1))
          cases hq : q ((p.ins.length : Int) + (k : Int))
          case false =>
            rw [hq] at HQ
            have HEQ : Hid (someG st q 0 ((sitesP p).take (p.ins.length + k + 1)) = someG st q 0 ((sitesP p).take (p.ins.length + k))) := by show _ = _; rw [HSTEP.out, if_neg (fun h => by rw [hq] at h; cases h.2), List.append_nil]
            have HN := Lib.hid hN
            clear hN
            go_wp2_with fail
            refine HQ.out.mono ?_
            rintro e w2 ⟨rfl, E2⟩
            have E3 := hE.trans (e1.trans E2)
            have HN3 := Lib.hid (HN.out.ext (e1.trans E2))
            go_wp2_with fail
            go_roundw
            case rel => exact ⟨k + 1, by omega, by go_num, (by show NmV _ _ (someG st q 0 ((sitesP p).take (p.ins.length + k + 1))) _; rw [HEQ.out]; exact HN3.out), E3⟩
            case measure => simp [intOf]; omega
          rw [hq] at HQ
          have HEQ : Hid (someG st q 0 ((sitesP p).take (p.ins.length + k + 1)) = someG st q 0 ((sitesP p).take (p.ins.length + k)) ++ [x.name]) := by show _ = _; rw [HSTEP.out, if_pos ⟨HS.out, hq⟩]
          have HN := Lib.hid hN
          clear hN hq
          generalize hL : someG st q 0 ((sitesP p).take (p.ins.length + k)) = L at *
          clear hL
          go_wp2_with fail
          refine HQ.out.mono ?_
          rintro e w2 ⟨rfl, E2⟩
          have E3 := hE.trans (e1.trans E2)
          have hsz3 := E3.size
          have HN2 := Lib.hid (HN.out.ext (e1.trans E2))
          have hx0 : w2.cell? ⟨wr.heap.size, 0, none⟩ = some (.string x.name) := (blk_cell (Ext.heap E2 xb) 0).trans rfl
          clear HQ e1 xb E1a
          go_wp2_with (at_builtin; refine wpList_append_own_at _ rfl _ _ 24 rfl W0.heap.size 9 i0 _ 1 16 Try.underlying24 hinf hz0 hz1 hz2 rfl (by decide) _ _ _ rfl (World.ownsRow.alloc HN2.out _) ⟨_, 0, none⟩ 1 1 [.string x.name] rfl rfl (cell_one_new _ _ _) (by simp [Value.oneCell']) (by unfold maxLen; omega) (by omega) (by simp; omega) ?_; intro v6 w6 hown6 hgrow6 _ hat6; have V6 := NmV.snoc hown6; have E6 : Ext W0 w6 := Ext.then (E3.alloc _) (Chg.of_grownBy hgrow6) (fun b hb => (NmV.rows HN2.out b hb)); clear hown6 hgrow6 hat6)
          rw [← HEQ.out] at V6
          have HN3 := Lib.hid V6
          clear V6
          go_wp2_with fail
          go_roundw
          case rel => exact ⟨k + 1, by omega, by go_num, HN3.out, E6⟩
          case measure => simp [intOf]; omega
        case neg =>
          obtain rfl : k = p.flows.length := by omega
          rw [← sites_len, List.take_length] at hN
          have HN := Lib.hid hN
          have HLE : Hid (((sitesP p).take (p.ins.length + p.flows.length)) = sitesP p) := by show _ = _; rw [← sites_len, List.take_length]
          clear hN
          go_wp2_with fail
          go_ret
          exact ⟨_, rfl, by rw [HLE.out]; exact nm_base HN.out hsz0, e0.trans hE⟩
set_option maxRecDepth 100000 in
set_option maxHeartbeats 4000000 in
theorem someNeeds_any (p : PrD) (cs : Array Value) (st : Int) (q : Int → Bool) (L S : Nat) (w : World) (h : RdPr w 0 false p cs) (hp : progP p = true) (HQ : ∀ (a : Int), 0 ≤ a → a ≤ 1000 → ∀ X, Ext w X → Calls Try.prog 56 #[.int .i64 a, .pointer (some ⟨L, 0, none⟩), .pointer (some ⟨S, 0, none⟩)] X (RetV (q a) X)) :
    Calls Try.prog 54 #[.agg cs, .int .i64 st, .func (.func 56) #[] #[.pointer (some ⟨L, 0, none⟩), .pointer (some ⟨S, 0, none⟩)]] w (RetNm (someG st q 0 (sitesP p)) w) := by
  have HPR := Lib.hid h
  obtain ⟨ai, ci, af, cf, ao, co, rfl⟩ := pr_form h
  have HF := Lib.hid (pr_fl h)
  have HI := Lib.hid (pr_in h)
  have HQQ := Lib.hid HQ
  obtain ⟨n64, n128, _⟩ := prog_ok hp
  clear h HQ
  obtain ⟨i0, hinf, hz0, hz1, hz2⟩ := info_parts infoStr
  have e0 := (Chg.refl (fun _ => False) w).alloc (.cells #[.int .i64 p.st, .slice ai p.ins.length ci, .slice af p.flows.length cf, .slice ao p.outs.length co] 26)
  have bP := heap_alloc_new w (.cells #[.int .i64 p.st, .slice ai p.ins.length ci, .slice af p.flows.length cf, .slice ao p.outs.length co] 26)
  go_enter Try.func54, Try.ntmps54
  go_wp2_with fail
  generalize (w.alloc (.cells #[.int .i64 p.st, .slice ai p.ins.length ci, .slice af p.flows.length cf, .slice ao p.outs.length co] 26)) = W0 at *
  have y0 : ∀ X, Ext W0 X → X.cell? ⟨w.heap.size, 0, none⟩ = some (.int .i64 p.st) := fun X hX => (blk_cell (Ext.heap hX bP) 0).trans rfl
  have y1 : ∀ X, Ext W0 X → X.cell? ⟨w.heap.size, 1, none⟩ = some (.slice ai p.ins.length ci) := fun X hX => (blk_cell (Ext.heap hX bP) 1).trans rfl
  have y2 : ∀ X, Ext W0 X → X.cell? ⟨w.heap.size, 2, none⟩ = some (.slice af p.flows.length cf) := fun X hX => (blk_cell (Ext.heap hX bP) 2).trans rfl
  have y3 : ∀ X, Ext W0 X → X.cell? ⟨w.heap.size, 3, none⟩ = some (.slice ao p.outs.length co) := fun X hX => (blk_cell (Ext.heap hX bP) 3).trans rfl
  have hsz0 := e0.size
  have er : Ext W0 W0 := Chg.refl _ _
  have RW : ∀ (X : World) (l : List ByteArray) (v : Value), NmV X w.heap.size l v → True := fun _ _ _ _ => trivial
  clear bP
  go_loopw [6, 14] (fun t i wr => ∃ k : Nat, k ≤ p.ins.length ∧ i = .int .i64 k ∧ NmV wr W0.heap.size (someG st q 0 ((sitesP p).take k)) t ∧ Ext W0 wr) (fun _ i _ => p.ins.length - (intOf i).toNat)
  case atStart => exact ⟨0, Nat.zero_le _, rfl, NmV.nil _ _, er⟩
  case round =>
    obtain ⟨k, hk, rfl, hN, hE⟩ := hrel
    have hsz := hE.size
    obtain ⟨ta, tc, rfl⟩ := hN.form
    by_cases hlt : k < p.ins.length
    case pos =>
      have hx := List.getElem?_eq_getElem hlt
      have hsite := site_in hx
      have hstep := some_step (st := st) (q := q) hsite
      rw [show (((k : Nat)) : Int) = (k : Int) from by omega] at hstep
      have hle := someG_le st q ((sitesP p).take (k)) 0
      rw [List.length_take] at hle
      have hq1 : (k : Int) < (p.ins.length : Int) := by omega
      obtain ⟨_, _, e, _, _, _, hr, _⟩ := HI.out.ext (e0.trans hE)
      simp only [Value.slice.injEq, true_and] at e
      obtain ⟨rfl, rfl⟩ := e
      obtain ⟨hnm, hty, hst, b, o, rfl, _, hb, c0, c1, c2⟩ := hr k _ hx
      generalize p.ins[k] = x at *
      have HSTEP := Lib.hid hstep
      have e1 : Ext wr (wr.alloc (.cells #[.string x.name, .int .u8 x.ty, .int .i64 x.st] 59)) := (Chg.refl _ _).alloc _
      have xb := heap_alloc_new wr (.cells #[.string x.name, .int .u8 x.ty, .int .i64 x.st] 59)
      clear hstep hx hsite hr
      by_cases hs : x.st = st
      case neg =>
        have bs : (x.st == st) = false := by simpa using hs
        have HN3 := Lib.hid (show NmV (wr.alloc (.cells #[.string x.name, .int .u8 x.ty, .int .i64 x.st] 59)) W0.heap.size (someG st q 0 ((sitesP p).take (k + 1))) (.slice ta (someG st q 0 ((sitesP p).take (k))).length tc) by rw [HSTEP.out, if_neg (fun h => hs h.1), List.append_nil]; exact hN.ext e1)
        have E3 := hE.trans e1
        clear hN
        go_wp2_with fail
        go_roundw
        case rel => exact ⟨k + 1, by omega, by go_num, HN3.out, E3⟩
        case measure => simp [intOf]; omega
      have bs : (x.st == st) = true := by simpa using hs
      have HS := Lib.hid hs
      have E1a := hE.trans e1
      clear hs
      have HQ := Lib.hid (HQQ.out ((k : Int)) (by omega) (by omega) _ ((e0.trans hE).trans e1))
      cases hq : q ((k : Int))
      case false =>
        rw [hq] at HQ
        have HEQ : Hid (someG st q 0 ((sitesP p).take (k + 1)) = someG st q 0 ((sitesP p).take (k))) := by show _ = _; rw [HSTEP.out, if_neg (fun h => by rw [hq] at h; cases h.2), List.append_nil]
        have HN := Lib.hid hN
        clear hN
        go_wp2_with fail
        refine HQ.out.mono ?_
        rintro e w2 ⟨rfl, E2⟩
        have E3 := hE.trans (e1.trans E2)
        have HN3 := Lib.hid (HN.out.ext (e1.trans E2))
        go_wp2_with fail
        go_roundw
        case rel => exact ⟨k + 1, by omega, by go_num, (by show NmV _ _ (someG st q 0 ((sitesP p).take (k + 1))) _; rw [HEQ.out]; exact HN3.out), E3⟩
        case measure => simp [intOf]; omega
      rw [hq] at HQ
      have HEQ : Hid (someG st q 0 ((sitesP p).take (k + 1)) = someG st q 0 ((sitesP p).take (k)) ++ [x.name]) := by show _ = _; rw [HSTEP.out, if_pos ⟨HS.out, hq⟩]
      have HN := Lib.hid hN
      clear hN hq
      generalize hL : someG st q 0 ((sitesP p).take (k)) = L at *
      clear hL
      go_wp2_with fail
      refine HQ.out.mono ?_
      rintro e w2 ⟨rfl, E2⟩
      have E3 := hE.trans (e1.trans E2)
      have hsz3 := E3.size
      have HN2 := Lib.hid (HN.out.ext (e1.trans E2))
      have hx0 : w2.cell? ⟨wr.heap.size, 0, none⟩ = some (.string x.name) := (blk_cell (Ext.heap E2 xb) 0).trans rfl
      clear HQ e1 xb E1a
      go_wp2_with (at_builtin; refine wpList_append_own_at _ rfl _ _ 24 rfl W0.heap.size 9 i0 _ 1 16 Try.underlying24 hinf hz0 hz1 hz2 rfl (by decide) _ _ _ rfl (World.ownsRow.alloc HN2.out _) ⟨_, 0, none⟩ 1 1 [.string x.name] rfl rfl (cell_one_new _ _ _) (by simp [Value.oneCell']) (by unfold maxLen; omega) (by omega) (by simp; omega) ?_; intro v6 w6 hown6 hgrow6 _ hat6; have V6 := NmV.snoc hown6; have E6 : Ext W0 w6 := Ext.then (E3.alloc _) (Chg.of_grownBy hgrow6) (fun b hb => (NmV.rows HN2.out b hb)); clear hown6 hgrow6 hat6)
      rw [← HEQ.out] at V6
      have HN3 := Lib.hid V6
      clear V6
      go_wp2_with fail
      go_roundw
      case rel => exact ⟨k + 1, by omega, by go_num, HN3.out, E6⟩
      case measure => simp [intOf]; omega
    case neg =>
      obtain rfl : k = p.ins.length := by omega
      have y2w := y2 _ hE
      have HN0 := Lib.hid hN
      clear hN
      go_wp2_with fail
      go_loopw [6, 37] (fun t i wr => ∃ k : Nat, k ≤ p.flows.length ∧ i = .int .i64 k ∧ NmV wr W0.heap.size (someG st q 0 ((sitesP p).take (p.ins.length + k))) t ∧ Ext W0 wr) (fun _ i _ => p.flows.length - (intOf i).toNat)
      case atStart => exact ⟨0, Nat.zero_le _, rfl, HN0.out, hE⟩
      case round =>
        clear hE hsz y2w HN0
        obtain ⟨k, hk, rfl, hN, hE⟩ := hrel
        have hsz := hE.size
        obtain ⟨ta, tc, rfl⟩ := hN.form
        by_cases hlt : k < p.flows.length
        case pos =>
          have hx := List.getElem?_eq_getElem hlt
          have hsite := site_fl hx
          have hstep := some_step (st := st) (q := q) hsite
          rw [show (((p.ins.length + k : Nat)) : Int) = (p.ins.length : Int) + (k : Int) from by omega] at hstep
          have hle := someG_le st q ((sitesP p).take (p.ins.length + k)) 0
          rw [List.length_take] at hle
          have hq1 : (k : Int) < (p.flows.length : Int) := by omega
          obtain ⟨hnm, _, hst, _, b, o, rfl, _, hb, c0, c1, c2, c3, _, _, _, vx, hvx, c4, c5, c6, c7⟩ := (HF.out.ext (e0.trans hE)).at hx
          obtain ⟨va, vc, rfl, _⟩ := hvx.form
          clear hvx
          generalize p.flows[k] = x at *
          have HSTEP := Lib.hid hstep
          have e1 : Ext wr (wr.alloc (.cells #[.string x.name, .int .u8 x.ty, .int .i64 x.st, .int .i64 x.df, .int .u8 x.body.op, .int .i64 x.body.n, .string x.body.name, .slice va x.body.args.length vc] 55)) := (Chg.refl _ _).alloc _
          have xb := heap_alloc_new wr (.cells #[.string x.name, .int .u8 x.ty, .int .i64 x.st, .int .i64 x.df, .int .u8 x.body.op, .int .i64 x.body.n, .string x.body.name, .slice va x.body.args.length vc] 55)
          clear hstep hx hsite
          by_cases hs : x.st = st
          case neg =>
            have bs : (x.st == st) = false := by simpa using hs
            have HN3 := Lib.hid (show NmV (wr.alloc (.cells #[.string x.name, .int .u8 x.ty, .int .i64 x.st, .int .i64 x.df, .int .u8 x.body.op, .int .i64 x.body.n, .string x.body.name, .slice va x.body.args.length vc] 55)) W0.heap.size (someG st q 0 ((sitesP p).take (p.ins.length + k + 1))) (.slice ta (someG st q 0 ((sitesP p).take (p.ins.length + k))).length tc) by rw [HSTEP.out, if_neg (fun h => hs h.1), List.append_nil]; exact hN.ext e1)
            have E3 := hE.trans e1
            clear hN
            go_wp2_with fail
            go_roundw
            case rel => exact ⟨k + 1, by omega, by go_num, HN3.out, E3⟩
            case measure => simp [intOf]; omega
          have bs : (x.st == st) = true := by simpa using hs
          have HS := Lib.hid hs
          have E1a := hE.trans e1
          clear hs
          have HQ := Lib.hid (HQQ.out ((p.ins.length : Int) + (k : Int)) (by omega) (by omega) _ ((e0.trans hE).trans e1))
          cases hq : q ((p.ins.length : Int) + (k : Int))
          case false =>
            rw [hq] at HQ
            have HEQ : Hid (someG st q 0 ((sitesP p).take (p.ins.length + k + 1)) = someG st q 0 ((sitesP p).take (p.ins.length + k))) := by show _ = _; rw [HSTEP.out, if_neg (fun h => by rw [hq] at h; cases h.2), List.append_nil]
            have HN := Lib.hid hN
            clear hN
            go_wp2_with fail
            refine HQ.out.mono ?_
            rintro e w2 ⟨rfl, E2⟩
            have E3 := hE.trans (e1.trans E2)
            have HN3 := Lib.hid (HN.out.ext (e1.trans E2))
            go_wp2_with fail
            go_roundw
            case rel => exact ⟨k + 1, by omega, by go_num, (by show NmV _ _ (someG st q 0 ((sitesP p).take (p.ins.length + k + 1))) _; rw [HEQ.out]; exact HN3.out), E3⟩
            case measure => simp [intOf]; omega
          rw [hq] at HQ
          have HEQ : Hid (someG st q 0 ((sitesP p).take (p.ins.length + k + 1)) = someG st q 0 ((sitesP p).take (p.ins.length + k)) ++ [x.name]) := by show _ = _; rw [HSTEP.out, if_pos ⟨HS.out, hq⟩]
          have HN := Lib.hid hN
          clear hN hq
          generalize hL : someG st q 0 ((sitesP p).take (p.ins.length + k)) = L at *
          clear hL
          go_wp2_with fail
          refine HQ.out.mono ?_
          rintro e w2 ⟨rfl, E2⟩
          have E3 := hE.trans (e1.trans E2)
          have hsz3 := E3.size
          have HN2 := Lib.hid (HN.out.ext (e1.trans E2))
          have hx0 : w2.cell? ⟨wr.heap.size, 0, none⟩ = some (.string x.name) := (blk_cell (Ext.heap E2 xb) 0).trans rfl
          clear HQ e1 xb E1a
          go_wp2_with (at_builtin; refine wpList_append_own_at _ rfl _ _ 24 rfl W0.heap.size 9 i0 _ 1 16 Try.underlying24 hinf hz0 hz1 hz2 rfl (by decide) _ _ _ rfl (World.ownsRow.alloc HN2.out _) ⟨_, 0, none⟩ 1 1 [.string x.name] rfl rfl (cell_one_new _ _ _) (by simp [Value.oneCell']) (by unfold maxLen; omega) (by omega) (by simp; omega) ?_; intro v6 w6 hown6 hgrow6 _ hat6; have V6 := NmV.snoc hown6; have E6 : Ext W0 w6 := Ext.then (E3.alloc _) (Chg.of_grownBy hgrow6) (fun b hb => (NmV.rows HN2.out b hb)); clear hown6 hgrow6 hat6)
          rw [← HEQ.out] at V6
          have HN3 := Lib.hid V6
          clear V6
          go_wp2_with fail
          go_roundw
          case rel => exact ⟨k + 1, by omega, by go_num, HN3.out, E6⟩
          case measure => simp [intOf]; omega
        case neg =>
          obtain rfl : k = p.flows.length := by omega
          rw [← sites_len, List.take_length] at hN
          have HN := Lib.hid hN
          have HLE : Hid (((sitesP p).take (p.ins.length + p.flows.length)) = sitesP p) := by show _ = _; rw [← sites_len, List.take_length]
          clear hN
          go_wp2_with fail
          go_ret
          exact ⟨_, rfl, by rw [HLE.out]; exact nm_base HN.out hsz0, e0.trans hE⟩
end Go.Proofs.Ytjdficgejjkaoaa
