/- What stands in this text: Some, Ask15. -/
import Derived.Test.YtgkbhonjodcakaaGreatJ5
import Derived.Test.YtgkbhonjodcakaaGreatJ6
import Derived.Test.YtgkbhonjodcakaaGreatJ7
import Derived.Deep.Cut
namespace Go.Proofs.YtgkbhonjodcakaaGreat
open Go.RowKit
set_option linter.unusedVariables false
set_option linter.unusedSimpArgs false

theorem site_in {p : PrD} {k : Nat} {x : InD} (h : p.ins[k]? = some x) : (sitesP p)[k]? = some (x.name, x.st) := by
  have hk := (List.getElem?_eq_some_iff.1 h).1
  unfold sitesP
  rw [List.getElem?_append_left (by rw [List.length_map]; exact hk), List.getElem?_map, h]; rfl
theorem site_fl {p : PrD} {k : Nat} {x : FlD} (h : p.flows[k]? = some x) : (sitesP p)[p.ins.length + k]? = some (x.name, x.st) := by
  unfold sitesP
  rw [List.getElem?_append_right (by rw [List.length_map]; omega), List.length_map, show p.ins.length + k - p.ins.length = k from by omega, List.getElem?_map, h]; rfl
theorem sites_len (p : PrD) : (sitesP p).length = p.ins.length + p.flows.length := by unfold sitesP; simp
theorem some_step {st : Int} {q : Int → Bool} {l : List (ByteArray × Int)} {k : Nat} {x : ByteArray × Int} (h : l[k]? = some x) : someG st q 0 (l.take (k + 1)) = someG st q 0 (l.take k) ++ (if x.2 = st ∧ q (k : Int) = true then [x.1] else []) := by
  have hk := (List.getElem?_eq_some_iff.1 h).1
  rw [List.take_add_one, h]
  show someG st q 0 (l.take k ++ [x]) = _
  rw [someG_snoc, List.length_take, Nat.min_eq_left (by omega), Nat.zero_add]
theorem someG_le (st : Int) (q : Int → Bool) : ∀ (l : List (ByteArray × Int)) (k : Nat), (someG st q k l).length ≤ l.length
  | [], k => Nat.le_refl _
  | x :: r, k => by
    have := someG_le st q r (k + 1)
    rw [someG, List.length_append, List.length_cons]
    split <;> simp <;> omega
theorem NmV.lt {w : World} {base : Nat} {l : List ByteArray} {v : Value} (h : NmV w base l v) : ∀ g, v.ownBlock = some g → base ≤ g ∧ g < w.heap.size := fun g hg => World.ownsRow.lt h g hg
theorem NmV.ext {w w' : World} {base : Nat} {l : List ByteArray} {v : Value} (h : NmV w base l v) (he : Ext w w') : NmV w' base l v := h.chg he (fun _ _ h => h)
def RetNm (l : List ByteArray) (w : World) (e : Ending) (w' : World) : Prop := ∃ v, e = .returned v ∧ NmV w' w.heap.size l v ∧ Ext w w'
theorem NmV.rows {w : World} {base : Nat} {l : List ByteArray} {v : Value} (h : NmV w base l v) : ∀ g, v.ownBlock = some g → base ≤ g := fun g hg => (NmV.lt h g hg).1
theorem nm_base {w : World} {base base' : Nat} {l : List ByteArray} {v : Value} (h : NmV w base l v) (hb : base' ≤ base) : NmV w base' l v := ownsRow_base h hb
theorem pr_in {w : World} {lo : Nat} {t : Bool} {p : PrD} {a b c d : Value} (h : RdPr w lo t p #[a, b, c, d]) : RdInV w lo t p.ins b := by
  obtain ⟨_, _, _, e, _, h2, _⟩ := h
  simp only [Array.mk.injEq, List.cons.injEq, and_true] at e
  obtain ⟨_, rfl, _⟩ := e
  exact h2
set_option maxRecDepth 100000 in
set_option maxHeartbeats 4000000 in
theorem someNeeds_any (p : PrD) (cs : Array Value) (st : Int) (q : Int → Bool) (L S : Nat) (w : World) (h : RdPr w 0 false p cs) (hp : progP p = true) (HQ : ∀ (a : Int), 0 ≤ a → a ≤ 1000 → ∀ X, Ext w X → Calls Tryz.prog 78 #[.int .i64 a, .pointer (some ⟨L, 0, none⟩), .pointer (some ⟨S, 0, none⟩)] X (RetV (q a) X)) :
    Calls Tryz.prog 77 #[.agg cs, .int .i64 st, .func (.func 78) #[] #[.pointer (some ⟨L, 0, none⟩), .pointer (some ⟨S, 0, none⟩)]] w (RetNm (someG st q 0 (sitesP p)) w) := by
  have HPR := Lib.hid h
  obtain ⟨ai, ci, af, cf, ao, co, rfl⟩ := pr_form h
  have HF := Lib.hid (pr_fl h)
  have HI := Lib.hid (pr_in h)
  have HQQ := Lib.hid HQ
  obtain ⟨n64, n128, _⟩ := prog_ok hp
  clear h HQ
  obtain ⟨i0, hinf, hz0, hz1, hz2⟩ := info_parts infoStr
  have e0 := (Chg.refl (fun _ => False) w).alloc (.cells #[.int .i64 p.st, .slice ai p.ins.length ci, .slice af p.flows.length cf, .slice ao p.outs.length co] 26)
  have bP := heap_alloc_new w (.cells #[.int .i64 p.st, .slice ai p.ins.length ci, .slice af p.flows.length cf, .slice ao p.outs.length co] 26)
  go_enter Tryz.func77, Tryz.ntmps77
  go_wp2_with fail
  generalize (w.alloc (.cells #[.int .i64 p.st, .slice ai p.ins.length ci, .slice af p.flows.length cf, .slice ao p.outs.length co] 26)) = W0 at *
  have y0 : ∀ X, Ext W0 X → X.cell? ⟨w.heap.size, 0, none⟩ = some (.int .i64 p.st) := fun X hX => (blk_cell (Ext.heap hX bP) 0).trans rfl
  have y1 : ∀ X, Ext W0 X → X.cell? ⟨w.heap.size, 1, none⟩ = some (.slice ai p.ins.length ci) := fun X hX => (blk_cell (Ext.heap hX bP) 1).trans rfl
  have y2 : ∀ X, Ext W0 X → X.cell? ⟨w.heap.size, 2, none⟩ = some (.slice af p.flows.length cf) := fun X hX => (blk_cell (Ext.heap hX bP) 2).trans rfl
  have y3 : ∀ X, Ext W0 X → X.cell? ⟨w.heap.size, 3, none⟩ = some (.slice ao p.outs.length co) := fun X hX => (blk_cell (Ext.heap hX bP) 3).trans rfl
  have hsz0 := e0.size
  have er : Ext W0 W0 := Chg.refl _ _
  have RW : ∀ (X : World) (l : List ByteArray) (v : Value), NmV X w.heap.size l v → True := fun _ _ _ _ => trivial
  clear bP
  go_loopw [6, 14] (fun t i wr => ∃ k : Nat, k ≤ p.ins.length ∧ i = .int .i64 k ∧ NmV wr W0.heap.size (someG st q 0 ((sitesP p).take k)) t ∧ Ext W0 wr) (fun _ i _ => p.ins.length - (intOf i).toNat)
  case atStart => exact ⟨0, Nat.zero_le _, rfl, NmV.nil _ _, er⟩
  case round =>
    obtain ⟨k, hk, rfl, hN, hE⟩ := hrel
    have hsz := hE.size
    obtain ⟨ta, tc, rfl⟩ := hN.form
    by_cases hlt : k < p.ins.length
    case pos =>
      have hx := List.getElem?_eq_getElem hlt
      have hsite := site_in hx
      have hstep := some_step (st := st) (q := q) hsite
      rw [show (((k : Nat)) : Int) = (k : Int) from by omega] at hstep
      have hle := someG_le st q ((sitesP p).take (k)) 0
      rw [List.length_take] at hle
      have hq1 : (k : Int) < (p.ins.length : Int) := by omega
      obtain ⟨_, _, e, _, _, _, hr, _⟩ := HI.out.ext (e0.trans hE)
      simp only [Value.slice.injEq, true_and] at e
      obtain ⟨rfl, rfl⟩ := e
      obtain ⟨hnm, hty, hst, b, o, rfl, _, hb, c0, c1, c2⟩ := hr k _ hx
      generalize p.ins[k] = x at *
      have HSTEP := Lib.hid hstep
      have e1 : Ext wr (wr.alloc (.cells #[.string x.name, .int .u8 x.ty, .int .i64 x.st] 147)) := (Chg.refl _ _).alloc _
      have xb := heap_alloc_new wr (.cells #[.string x.name, .int .u8 x.ty, .int .i64 x.st] 147)
      clear hstep hx hsite hr
      by_cases hs : x.st = st
      case neg =>
        have bs : (x.st == st) = false := by simpa using hs
        have HN3 := Lib.hid (show NmV (wr.alloc (.cells #[.string x.name, .int .u8 x.ty, .int .i64 x.st] 147)) W0.heap.size (someG st q 0 ((sitesP p).take (k + 1))) (.slice ta (someG st q 0 ((sitesP p).take (k))).length tc) by rw [HSTEP.out, if_neg (fun h => hs h.1), List.append_nil]; exact hN.ext e1)
        have E3 := hE.trans e1
        clear hN
        go_wp2_with fail
        go_roundw
        case rel => exact ⟨k + 1, by omega, by go_num, HN3.out, E3⟩
        case measure => simp [intOf]; omega
      have bs : (x.st == st) = true := by simpa using hs
      have HS := Lib.hid hs
      have E1a := hE.trans e1
      clear hs
      have HQ := Lib.hid (HQQ.out ((k : Int)) (by omega) (by omega) _ ((e0.trans hE).trans e1))
      cases hq : q ((k : Int))
      case false =>
        rw [hq] at HQ
        have HEQ : Hid (someG st q 0 ((sitesP p).take (k + 1)) = someG st q 0 ((sitesP p).take (k))) := by show _ = _; rw [HSTEP.out, if_neg (fun h => by rw [hq] at h; cases h.2), List.append_nil]
        have HN := Lib.hid hN
        clear hN
        go_wp2_with fail
        refine HQ.out.mono ?_
        rintro e w2 ⟨rfl, E2⟩
        have E3 := hE.trans (e1.trans E2)
        have HN3 := Lib.hid (HN.out.ext (e1.trans E2))
        go_wp2_with fail
        go_roundw
        case rel => exact ⟨k + 1, by omega, by go_num, (by show NmV _ _ (someG st q 0 ((sitesP p).take (k + 1))) _; rw [HEQ.out]; exact HN3.out), E3⟩
        case measure => simp [intOf]; omega
      rw [hq] at HQ
      have HEQ : Hid (someG st q 0 ((sitesP p).take (k + 1)) = someG st q 0 ((sitesP p).take (k)) ++ [x.name]) := by show _ = _; rw [HSTEP.out, if_pos ⟨HS.out, hq⟩]
      have HN := Lib.hid hN
      clear hN hq
      generalize hL : someG st q 0 ((sitesP p).take (k)) = L at *
      clear hL
      go_wp2_with fail
      refine HQ.out.mono ?_
      rintro e w2 ⟨rfl, E2⟩
      have E3 := hE.trans (e1.trans E2)
      have hsz3 := E3.size
      have HN2 := Lib.hid (HN.out.ext (e1.trans E2))
      have hx0 : w2.cell? ⟨wr.heap.size, 0, none⟩ = some (.string x.name) := (blk_cell (Ext.heap E2 xb) 0).trans rfl
      clear HQ e1 xb E1a
      go_wp2_with (at_builtin; refine wpList_append_own_at _ rfl _ _ 24 rfl W0.heap.size 9 i0 _ 1 16 Tryz.underlying24 hinf hz0 hz1 hz2 rfl (by decide) _ _ _ rfl (World.ownsRow.alloc HN2.out _) ⟨_, 0, none⟩ 1 1 [.string x.name] rfl rfl (cell_one_new _ _ _) (by simp [Value.oneCell']) (by unfold maxLen; omega) (by omega) (by simp; omega) ?_; intro v6 w6 hown6 hgrow6 _ hat6; have V6 := NmV.snoc hown6; have E6 : Ext W0 w6 := Ext.then (E3.alloc _) (Chg.of_grownBy hgrow6) (fun b hb => (NmV.rows HN2.out b hb)); clear hown6 hgrow6 hat6)
      rw [← HEQ.out] at V6
      have HN3 := Lib.hid V6
      clear V6
      go_wp2_with fail
      go_roundw
      case rel => exact ⟨k + 1, by omega, by go_num, HN3.out, E6⟩
      case measure => simp [intOf]; omega
    case neg =>
      obtain rfl : k = p.ins.length := by omega
      have y2w := y2 _ hE
      have HN0 := Lib.hid hN
      clear hN
      go_wp2_with fail
      go_loopw [6, 37] (fun t i wr => ∃ k : Nat, k ≤ p.flows.length ∧ i = .int .i64 k ∧ NmV wr W0.heap.size (someG st q 0 ((sitesP p).take (p.ins.length + k))) t ∧ Ext W0 wr) (fun _ i _ => p.flows.length - (intOf i).toNat)
      case atStart => exact ⟨0, Nat.zero_le _, rfl, HN0.out, hE⟩
      case round =>
        clear hE hsz y2w HN0
        obtain ⟨k, hk, rfl, hN, hE⟩ := hrel
        have hsz := hE.size
        obtain ⟨ta, tc, rfl⟩ := hN.form
        by_cases hlt : k < p.flows.length
        case pos =>
          have hx := List.getElem?_eq_getElem hlt
          have hsite := site_fl hx
          have hstep := some_step (st := st) (q := q) hsite
          rw [show (((p.ins.length + k : Nat)) : Int) = (p.ins.length : Int) + (k : Int) from by omega] at hstep
          have hle := someG_le st q ((sitesP p).take (p.ins.length + k)) 0
          rw [List.length_take] at hle
          have hq1 : (k : Int) < (p.flows.length : Int) := by omega
          obtain ⟨hnm, _, hst, _, b, o, rfl, _, hb, c0, c1, c2, c3, _, _, _, vx, hvx, c4, c5, c6, c7⟩ := (HF.out.ext (e0.trans hE)).at hx
          obtain ⟨va, vc, rfl, _⟩ := hvx.form
          clear hvx
          generalize p.flows[k] = x at *
          have HSTEP := Lib.hid hstep
          have e1 : Ext wr (wr.alloc (.cells #[.string x.name, .int .u8 x.ty, .int .i64 x.st, .int .i64 x.df, .int .u8 x.body.op, .int .i64 x.body.n, .string x.body.name, .slice va x.body.args.length vc] 43)) := (Chg.refl _ _).alloc _
          have xb := heap_alloc_new wr (.cells #[.string x.name, .int .u8 x.ty, .int .i64 x.st, .int .i64 x.df, .int .u8 x.body.op, .int .i64 x.body.n, .string x.body.name, .slice va x.body.args.length vc] 43)
          clear hstep hx hsite
          by_cases hs : x.st = st
          case neg =>
            have bs : (x.st == st) = false := by simpa using hs
            have HN3 := Lib.hid (show NmV (wr.alloc (.cells #[.string x.name, .int .u8 x.ty, .int .i64 x.st, .int .i64 x.df, .int .u8 x.body.op, .int .i64 x.body.n, .string x.body.name, .slice va x.body.args.length vc] 43)) W0.heap.size (someG st q 0 ((sitesP p).take (p.ins.length + k + 1))) (.slice ta (someG st q 0 ((sitesP p).take (p.ins.length + k))).length tc) by rw [HSTEP.out, if_neg (fun h => hs h.1), List.append_nil]; exact hN.ext e1)
            have E3 := hE.trans e1
            clear hN
            go_wp2_with fail
            go_roundw
            case rel => exact ⟨k + 1, by omega, by go_num, HN3.out, E3⟩
            case measure => simp [intOf]; omega
          have bs : (x.st == st) = true := by simpa using hs
          have HS := Lib.hid hs
          have E1a := hE.trans e1
          clear hs
          have HQ := Lib.hid (HQQ.out ((p.ins.length : Int) + (k : Int)) (by omega) (by omega) _ ((e0.trans hE).trans e1))
          cases hq : q ((p.ins.length : Int) + (k : Int))
          case false =>
            rw [hq] at HQ
            have HEQ : Hid (someG st q 0 ((sitesP p).take (p.ins.length + k + 1)) = someG st q 0 ((sitesP p).take (p.ins.length + k))) := by show _ = _; rw [HSTEP.out, if_neg (fun h => by rw [hq] at h; cases h.2), List.append_nil]
            have HN := Lib.hid hN
            clear hN
            go_wp2_with fail
            refine HQ.out.mono ?_
            rintro e w2 ⟨rfl, E2⟩
            have E3 := hE.trans (e1.trans E2)
            have HN3 := Lib.hid (HN.out.ext (e1.trans E2))
            go_wp2_with fail
            go_roundw
            case rel => exact ⟨k + 1, by omega, by go_num, (by show NmV _ _ (someG st q 0 ((sitesP p).take (p.ins.length + k + 1))) _; rw [HEQ.out]; exact HN3.out), E3⟩
            case measure => simp [intOf]; omega
          rw [hq] at HQ
          have HEQ : Hid (someG st q 0 ((sitesP p).take (p.ins.length + k + 1)) = someG st q 0 ((sitesP p).take (p.ins.length + k)) ++ [x.name]) := by show _ = _; rw [HSTEP.out, if_pos ⟨HS.out, hq⟩]
          have HN := Lib.hid hN
          clear hN hq
          generalize hL : someG st q 0 ((sitesP p).take (p.ins.length + k)) = L at *
          clear hL
          go_wp2_with fail
          refine HQ.out.mono ?_
          rintro e w2 ⟨rfl, E2⟩
          have E3 := hE.trans (e1.trans E2)
          have hsz3 := E3.size
          have HN2 := Lib.hid (HN.out.ext (e1.trans E2))
          have hx0 : w2.cell? ⟨wr.heap.size, 0, none⟩ = some (.string x.name) := (blk_cell (Ext.heap E2 xb) 0).trans rfl
          clear HQ e1 xb E1a
          go_wp2_with (at_builtin; refine wpList_append_own_at _ rfl _ _ 24 rfl W0.heap.size 9 i0 _ 1 16 Tryz.underlying24 hinf hz0 hz1 hz2 rfl (by decide) _ _ _ rfl (World.ownsRow.alloc HN2.out _) ⟨_, 0, none⟩ 1 1 [.string x.name] rfl rfl (cell_one_new _ _ _) (by simp [Value.oneCell']) (by unfold maxLen; omega) (by omega) (by simp; omega) ?_; intro v6 w6 hown6 hgrow6 _ hat6; have V6 := NmV.snoc hown6; have E6 : Ext W0 w6 := Ext.then (E3.alloc _) (Chg.of_grownBy hgrow6) (fun b hb => (NmV.rows HN2.out b hb)); clear hown6 hgrow6 hat6)
          rw [← HEQ.out] at V6
          have HN3 := Lib.hid V6
          clear V6
          go_wp2_with fail
          go_roundw
          case rel => exact ⟨k + 1, by omega, by go_num, HN3.out, E6⟩
          case measure => simp [intOf]; omega
        case neg =>
          obtain rfl : k = p.flows.length := by omega
          rw [← sites_len, List.take_length] at hN
          have HN := Lib.hid hN
          have HLE : Hid (((sitesP p).take (p.ins.length + p.flows.length)) = sitesP p) := by show _ = _; rw [← sites_len, List.take_length]
          clear hN
          go_wp2_with fail
          go_ret
          exact ⟨_, rfl, by rw [HLE.out]; exact nm_base HN.out hsz0, e0.trans hE⟩
end Go.Proofs.YtgkbhonjodcakaaGreat
namespace Go.Proofs.YtgkbhonjodcakaaGreat
open Go.RowKit
set_option linter.unusedVariables false
set_option linter.unusedSimpArgs false

theorem atG_rng {s : ByteArray} {N : Int} : ∀ {l : List ByteArray} {k : Nat} {d : Int}, 0 ≤ d → d ≤ N → (k : Int) + l.length ≤ N + 1 → 0 ≤ atG s k l d ∧ atG s k l d ≤ N
  | [], k, d, h0, h1, _ => ⟨h0, h1⟩
  | x :: r, k, d, h0, h1, h2 => by
    rw [List.length_cons] at h2
    rw [atG]
    refine atG_rng ?_ ?_ (by omega)
    · split <;> omega
    · split <;> omega
theorem names_len (p : PrD) : (namesT p).length = p.ins.length + p.flows.length := by rw [namesT_eq]; simp
theorem atP_rng {p : PrD} (hp : progP p = true) (s : ByteArray) : 0 ≤ atP p s ∧ atP p s ≤ 200 := by
  obtain ⟨h1, h2, _⟩ := prog_ok hp
  exact atG_rng (by omega) (by omega) (by rw [names_len]; omega)
def atF (l : List ByteArray) (s : ByteArray) : Int := atG s 0 l 0
theorem atF_put (l : List ByteArray) (x : ByteArray) {z : Int} (h : z = (l.length : Int)) : setM (atF l) x z = atF (l ++ [x]) := by
  funext s
  unfold setM atF
  rw [atG_snoc, h, Nat.zero_add]
theorem name_in {p : PrD} {k : Nat} {x : InD} (h : p.ins[k]? = some x) : (namesT p).take (k + 1) = (namesT p).take k ++ [x.name] := by
  have := site_name (site_in h)
  rw [List.take_add_one, this]; rfl
theorem name_fl {p : PrD} {k : Nat} {x : FlD} (h : p.flows[k]? = some x) : (namesT p).take (p.ins.length + k + 1) = (namesT p).take (p.ins.length + k) ++ [x.name] := by
  have := site_name (site_fl h)
  rw [List.take_add_one, this]; rfl
def keysJ (p : PrD) (k j : Nat) (x : FlD) : List (Int × Int) := (p.flows.take k).flatMap (keysF p) ++ ((gthE [] 0 x.body).take j).map fun r => (atP p r.1, x.st)
theorem KyV.mono {w : World} {b n m : Nat} {l : List (Int × Int)} (h : KyV w b n l) (hn : n ≤ m) : KyV w b m l := by
  obtain ⟨D, h1, h2⟩ := h
  exact ⟨D, h1.mono hn, h2⟩
theorem keysJ_zero (p : PrD) (k : Nat) (x : FlD) : keysJ p k 0 x = (p.flows.take k).flatMap (keysF p) := by unfold keysJ; simp
theorem keysJ_step {p : PrD} {k j : Nat} {x : FlD} {r : Rf} (h : (gthE [] 0 x.body)[j]? = some r) : keysJ p k (j + 1) x = keysJ p k j x ++ [(atP p r.1, x.st)] := by
  unfold keysJ
  rw [List.take_add_one, h, List.map_append, ← List.append_assoc]
  rfl
theorem keysJ_full {p : PrD} {k : Nat} {x : FlD} (h : p.flows[k]? = some x) : keysJ p k (gthE [] 0 x.body).length x = (p.flows.take (k + 1)).flatMap (keysF p) := by
  unfold keysJ
  rw [List.take_length, List.take_add_one, h, List.flatMap_append]
  simp [keysF]
def RetKy (p : PrD) (w : World) (e : Ending) (w' : World) : Prop := ∃ K, e = .returned (.map (some K)) ∧ w.heap.size ≤ K ∧ (∃ n, KyV w' K n (keysP p)) ∧ Ext w w'
set_option maxRecDepth 100000 in
set_option maxHeartbeats 8000000 in
theorem asked15_any (p : PrD) (cs : Array Value) (w : World) (h : RdPr w 0 false p cs) (hp : progP p = true) : Calls Tryz.prog 76 #[.agg cs] w (RetKy p w) := by
  obtain ⟨ai, ci, af, cf, ao, co, rfl⟩ := pr_form h
  have HF := Lib.hid (pr_fl h)
  have HI := Lib.hid (pr_in h)
  obtain ⟨n64, n128, _, hokf, _⟩ := prog_ok hp
  have HOKF := Lib.hid hokf
  have HPP := Lib.hid hp
  clear h hp hokf
  have e0 := (Chg.refl (fun _ => False) w).alloc (.cells #[.int .i64 p.st, .slice ai p.ins.length ci, .slice af p.flows.length cf, .slice ao p.outs.length co] 26)
  have bP := heap_alloc_new w (.cells #[.int .i64 p.st, .slice ai p.ins.length ci, .slice af p.flows.length cf, .slice ao p.outs.length co] 26)
  have e1 := e0.alloc (.map #[] 0)
  have bP := Ext.heap ((Chg.refl (fun _ => False) (w.alloc (.cells #[.int .i64 p.st, .slice ai p.ins.length ci, .slice af p.flows.length cf, .slice ao p.outs.length co] 26))).alloc (.map #[] 0)) bP
  have hM := MiV.made (w.alloc (.cells #[.int .i64 p.st, .slice ai p.ins.length ci, .slice af p.flows.length cf, .slice ao p.outs.length co] 26))
  rw [World.size_alloc] at hM
  have hmm := @run_makeMap Tryz.prog
  go_enter Tryz.func76, Tryz.ntmps76
  go_upto_region 2 with (fail)
  generalize ((w.alloc (.cells #[.int .i64 p.st, .slice ai p.ins.length ci, .slice af p.flows.length cf, .slice ao p.outs.length co] 26)).alloc (.map #[] 0)) = W0 at *
  have y1 : ∀ X, Chg (fun q => q = w.heap.size + 1) W0 X → X.cell? ⟨w.heap.size, 1, none⟩ = some (.slice ai p.ins.length ci) := fun X hX => (blk_cell (hX.heap bP (by omega)) 1).trans rfl
  have y2 : ∀ X, Chg (fun q => q = w.heap.size + 1) W0 X → X.cell? ⟨w.heap.size, 2, none⟩ = some (.slice af p.flows.length cf) := fun X hX => (blk_cell (hX.heap bP (by omega)) 2).trans rfl
  have er : Chg (fun q => q = w.heap.size + 1) W0 W0 := Chg.refl _ _
  have ew : ∀ X, Chg (fun q => q = w.heap.size + 1) W0 X → Ext w X := fun X hX => Ext.then e1 hX (fun b hb => by omega)
  have hMl := hM.lt
  go_wp2_with fail
  go_loopw [17] (fun i wr => ∃ k : Nat, k ≤ p.ins.length ∧ i = .int .i64 k ∧ MiV wr (w.heap.size + 1) k (atF ((namesT p).take k)) ∧ Chg (fun q => q = w.heap.size + 1) W0 wr) (fun i _ => p.ins.length - (intOf i).toNat)
  case atStart => exact ⟨0, Nat.zero_le _, rfl, hM, er⟩
  case round =>
    obtain ⟨k, hk, rfl, hm, hC⟩ := hrel
    have hsz := hC.size
    by_cases hlt : k < p.ins.length
    case pos =>
      have hx := List.getElem?_eq_getElem hlt
      have hq1 : (k : Int) < (p.ins.length : Int) := by omega
      obtain ⟨_, _, e, _, _, _, hr, _⟩ := HI.out.ext (ew _ hC)
      simp only [Value.slice.injEq, true_and] at e
      obtain ⟨rfl, rfl⟩ := e
      obtain ⟨hnm, hty, hst, b, o, rfl, _, hb, c0, c1, c2⟩ := hr k _ hx
      have htk := name_in hx
      generalize p.ins[k] = x at *
      obtain ⟨w', hput, hm', hC'⟩ := (hm.ext ((Chg.refl _ _).alloc (.cells #[.string x.name, .int .u8 x.ty, .int .i64 x.st] 147))).put hnm (by unfold maxLen; omega) (z := (k : Int)) (by unfold isI64; omega)
      rw [atF_put _ _ (by rw [List.length_take, names_len]; omega), ← htk] at hm'
      have C2 := (hC.alloc (.cells #[.string x.name, .int .u8 x.ty, .int .i64 x.st] 147)).trans hC'
      have HM2 := Lib.hid hm'
      clear hr hx htk hm hm' hC hC'
      go_wp2_with fail
      go_roundw
      case rel => exact ⟨k + 1, by omega, by go_num, HM2.out, C2⟩
      case measure => simp [intOf]; omega
    obtain rfl : k = p.ins.length := by omega
    have y2w := y2 _ hC
    have HM1 := Lib.hid hm
    clear hm
    go_wp2_with fail
    go_loopw [30] (fun i wr => ∃ k : Nat, k ≤ p.flows.length ∧ i = .int .i64 k ∧ MiV wr (w.heap.size + 1) (p.ins.length + k) (atF ((namesT p).take (p.ins.length + k))) ∧ Chg (fun q => q = w.heap.size + 1) W0 wr) (fun i _ => p.flows.length - (intOf i).toNat)
    case atStart => exact ⟨0, Nat.zero_le _, rfl, HM1.out, hC⟩
    case round =>
      clear HM1 hC y2w hsz
      obtain ⟨k, hk, rfl, hm, hC⟩ := hrel
      have hsz := hC.size
      by_cases hlt : k < p.flows.length
      case pos =>
        have hx := List.getElem?_eq_getElem hlt
        have hq1 : (k : Int) < (p.flows.length : Int) := by omega
        obtain ⟨hnm, _, hst, _, b, o, rfl, _, hb, c0, c1, c2, c3, _, _, _, vx, hvx, c4, c5, c6, c7⟩ := (HF.out.ext (ew _ hC)).at hx
        obtain ⟨va, vc, rfl, _⟩ := hvx.form
        clear hvx
        have htk := name_fl hx
        generalize p.flows[k] = x at *
        obtain ⟨w', hput, hm', hC'⟩ := (hm.ext ((Chg.refl _ _).alloc (.cells #[.string x.name, .int .u8 x.ty, .int .i64 x.st, .int .i64 x.df, .int .u8 x.body.op, .int .i64 x.body.n, .string x.body.name, .slice va x.body.args.length vc] 43))).put hnm (by unfold maxLen; omega) (z := (p.ins.length : Int) + (k : Int)) (by unfold isI64; omega)
        rw [atF_put _ _ (by rw [List.length_take, names_len]; omega), ← htk] at hm'
        have C2 := (hC.alloc (.cells #[.string x.name, .int .u8 x.ty, .int .i64 x.st, .int .i64 x.df, .int .u8 x.body.op, .int .i64 x.body.n, .string x.body.name, .slice va x.body.args.length vc] 43)).trans hC'
        have HM2 := Lib.hid hm'
        have y1w := y1 _ (hC.alloc (.cells #[.string x.name, .int .u8 x.ty, .int .i64 x.st, .int .i64 x.df, .int .u8 x.body.op, .int .i64 x.body.n, .string x.body.name, .slice va x.body.args.length vc] 43))
        clear hx htk hm hm' hC hC'
        go_wp2_with fail
        go_roundw
        case rel => exact ⟨k + 1, by omega, by go_num, HM2.out, C2⟩
        case measure => simp [intOf]; omega
      obtain rfl : k = p.flows.length := by omega
      rw [← names_len, List.take_length] at hm
      have e2 := (Chg.refl (fun _ => False) wr).alloc (.map #[] 0)
      have hK := KyV.made wr
      have hm2 := hm.ext e2
      have bP2 := hC.heap bP (by omega)
      have bP3 := Ext.heap e2 bP2
      have E3 := (ew _ hC).trans e2
      have hwr := lt_of_block bP2
      have hAK : w.heap.size + 1 < wr.heap.size := hm.lt
      clear y1 y2 bP bP2 hm hC er ew hM hMl e1
      go_upto_region 13 with (fail)
      generalize hW2 : wr.alloc (.map #[] 0) = W2 at *
      generalize hK0 : wr.heap.size = K at *
      have y2 : ∀ X, Chg (fun q => q = K) W2 X → X.cell? ⟨w.heap.size, 2, none⟩ = some (.slice af p.flows.length cf) := fun X hX => (blk_cell (hX.heap bP3 (by omega)) 2).trans rfl
      have ew : ∀ X, Chg (fun q => q = K) W2 X → Ext w X := fun X hX => Ext.then E3 hX (fun b hb => by omega)
      have hMX : ∀ X, Chg (fun q => q = K) W2 X → MiV X (w.heap.size + 1) (namesT p).length (atF (namesT p)) := fun X hX => hm2.chg hX (by omega)
      have HMX := Lib.hid hMX
      have er : Chg (fun q => q = K) W2 W2 := Chg.refl _ _
      have HK1 := Lib.hid hK
      clear hMX hm2 hK hW2
      go_wp2_with fail
      go_loopw [48] (fun i wr => ∃ k : Nat, k ≤ p.flows.length ∧ i = .int .i64 k ∧ KyV wr K (k * 200) ((p.flows.take k).flatMap (keysF p)) ∧ Chg (fun q => q = K) W2 wr) (fun i _ => p.flows.length - (intOf i).toNat)
      case atStart => exact ⟨0, Nat.zero_le _, rfl, by simpa using HK1.out, er⟩
      case round =>
        clear HK1
        obtain ⟨k, hk, rfl, hky, hC⟩ := hrel
        have hsz := hC.size
        by_cases hlt : k < p.flows.length
        case pos =>
          have hx := List.getElem?_eq_getElem hlt
          have hq1 : (k : Int) < (p.flows.length : Int) := by omega
          have hok := HOKF.out _ (List.getElem_mem hlt)
          obtain ⟨hnm, _, hst, _, b, o, rfl, _, hb, c0, c1, c2, c3, _, _, hbn, vx, hvx, c4, c5, c6, c7⟩ := (HF.out.ext (ew _ hC)).at hx
          obtain ⟨hwf, hnd⟩ := ok_wf' hok
          have hnames := gthE_names p.flows[k].body 32 [] 0 hwf (fun r h => by simp at h)
          have hz := keysJ_zero p k p.flows[k]
          have hfull := keysJ_full hx
          have HST := Lib.hid (fun j r => keysJ_step (p := p) (k := k) (j := j) (x := p.flows[k]) (r := r))
          generalize p.flows[k] = x at *
          have hle := gthE_le x.body [] 0
          have HR := Lib.hid (fun (X : World) (hX : Ext wr X) => refs_any x.body vx X (hvx.ext hX) hbn (by omega))
          obtain ⟨va, vc, rfl, _⟩ := hvx.form
          have e4 := (Chg.refl (fun _ => False) wr).alloc (.cells #[.string x.name, .int .u8 x.ty, .int .i64 x.st, .int .i64 x.df, .int .u8 x.body.op, .int .i64 x.body.n, .string x.body.name, .slice va x.body.args.length vc] 43)
          have xb := heap_alloc_new wr (.cells #[.string x.name, .int .u8 x.ty, .int .i64 x.st, .int .i64 x.df, .int .u8 x.body.op, .int .i64 x.body.n, .string x.body.name, .slice va x.body.args.length vc] 43)
          rw [← hz] at hky
          have HKY := Lib.hid hky
          have HN := Lib.hid hnames
          have HFU := Lib.hid hfull
          have hlen : (gthE [] 0 x.body).length ≤ 200 := by simp at hle; omega
          clear hx hvx hok hwf hnames hz hfull hky hle
          go_wp2_with fail
          refine (HR.out _ e4).mono ?_
          rintro e w2 ⟨v2, rfl, hV, hE2⟩
          obtain ⟨ra, rc, rfl⟩ := hV.form
          have C2 := (hC.alloc (.cells #[.string x.name, .int .u8 x.ty, .int .i64 x.st, .int .i64 x.df, .int .u8 x.body.op, .int .i64 x.body.n, .string x.body.name, .slice va x.body.args.length vc] 43)).trans (hE2.mono (fun _ _ h => h.elim))
          have xb2 := Ext.heap hE2 xb
          have HKY2 := Lib.hid (HKY.out.chg (e4.trans hE2) (fun h => h))
          have HV := Lib.hid hV
          generalize hL : gthE [] 0 x.body = L at *
          have hKw : K < w2.heap.size := HKY2.out.lt
          have hKo : K < wr.heap.size := HKY.out.lt
          have hxK : wr.heap.size ≠ K := by have := HKY.out.lt; omega
          clear hL HR HKY e4 xb hE2 hV hC
          go_wp2_with fail
          obtain ⟨wo, rfl⟩ : ∃ wo : World, wo = wr := ⟨_, rfl⟩
          go_loopw [56] (fun jv wr => ∃ j : Nat, j ≤ L.length ∧ jv = .int .i64 j ∧ KyV wr K (k * 200 + j) (keysJ p k j x) ∧ Chg (fun q => q = K) w2 wr) (fun jv _ => L.length - (intOf jv).toNat)
          case atStart => exact ⟨0, Nat.zero_le _, rfl, HKY2.out, Chg.refl _ _⟩
          case round =>
            clear HKY2
            obtain ⟨j, hj, rfl, hky, hC⟩ := hrel
            have CW := C2.trans hC
            by_cases hlt2 : j < L.length
            case pos =>
              have hr := List.getElem?_eq_getElem hlt2
              have hq2 : (j : Int) < (L.length : Int) := by omega
              have hrn := HN.out _ (List.getElem_mem hlt2)
              obtain ⟨gr, rfl, c0, c1⟩ := HV.out.get hr
              have hgr : K < gr := by have := (World.ownsRow.lt HV.out gr rfl).1; simp at this; omega
              have hgK : gr ≠ K := by omega
              have d0 := hC.cell c0 hgK
              have d1 := hC.cell c1 hgK
              have hst2 := HST.out j _ hr
              have hag := hrn
              generalize L[j] = r at *
              have e5 := (Chg.refl (fun _ => False) wr).alloc (.cells #[.string r.1, .int .i64 r.2] 78)
              have C5 := CW.alloc (.cells #[.string r.1, .int .i64 r.2] 78)
              have hlook := (HMX.out _ C5).look (s := r.1) (by unfold maxLen; omega)
              have hat := atP_rng HPP.out r.1
              have hate : atF (namesT p) r.1 = atP p r.1 := rfl
              rw [hate] at hlook
              have xb5 := blk_cell ((hC.alloc (.cells #[.string r.1, .int .i64 r.2] 78)).heap xb2 hxK) 2
              simp only [List.getElem?_toArray, List.getElem?_cons_zero, List.getElem?_cons_succ] at xb5
              obtain ⟨w', hput, hky', hC'⟩ := (hky.chg e5 (fun h => h)).put (r := (atP p r.1, x.st)) ⟨by unfold isI64; omega, hst⟩ (by unfold maxLen; omega)
              simp only [kyV] at hput
              rw [← hst2] at hky'
              have C6 := (hC.alloc (.cells #[.string r.1, .int .i64 r.2] 78)).trans hC'
              have HKY3 := Lib.hid hky'
              generalize atP p r.1 = z at *
              clear hr hrn c0 c1 hst2 hky hky' hC hC' e5 C5 hate CW hag
              go_wp2_with fail
              go_roundw
              case rel => exact ⟨j + 1, by omega, by go_num, HKY3.out, C6⟩
              case measure => simp [intOf]; omega
            obtain rfl : j = L.length := by omega
            rw [HFU.out] at hky
            have HKY3 := Lib.hid (KyV.mono hky (show k * 200 + L.length ≤ (k + 1) * 200 by omega))
            clear hky
            go_wp2_with fail
            go_roundw
            case rel => exact ⟨k + 1, by omega, by go_num, HKY3.out, CW⟩
            case measure => simp [intOf]; omega
        obtain rfl : k = p.flows.length := by omega
        rw [List.take_length] at hky
        have HKY3 := Lib.hid hky
        have EW := ew _ hC
        clear hky
        go_wp2_with fail
        go_ret
        exact ⟨K, rfl, by omega, ⟨_, HKY3.out⟩, EW⟩
end Go.Proofs.YtgkbhonjodcakaaGreat
