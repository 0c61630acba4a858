/- cuts.Sends, cuts.Needs: what they answer. -/
import Derived.Test.YtjdficgejjkaoaaSome
import Derived.Deep.Cut
import Derived.Test.YtjdficgejjkaoaaAsk15
namespace Go.Proofs.Ytjdficgejjkaoaa
open Go.RowKit
set_option linter.unusedVariables false
set_option linter.unusedSimpArgs false

def sitesI (p : PrD) : List (ByteArray × Int) := p.ins.map fun x => (x.name, x.st)
def sitesF (p : PrD) : List (ByteArray × Int) := p.flows.map fun x => (x.name, x.st)
def yesQ : Int → Bool := fun _ => true
theorem own_split (p : PrD) (st : Int) : ownN p st = someG st yesQ 0 (sitesI p) ++ someG st yesQ 0 (sitesF p) := by
  have h : ∀ l : List (ByteArray × Int), someG st yesQ 0 l = (l.filter fun x => decide (x.2 = st)).map (·.1) := fun l => by
    rw [someG_eq (g := fun _ => true) (fun _ _ _ _ => rfl), List.filter_eq_self.2 (fun _ _ => rfl)]
  rw [h, h, ← List.map_append, ← List.filter_append]
  rfl
theorem sitesI_at {p : PrD} {k : Nat} {x : InD} (h : p.ins[k]? = some x) : (sitesI p)[k]? = some (x.name, x.st) := by unfold sitesI; rw [List.getElem?_map, h]; rfl
theorem sitesF_at {p : PrD} {k : Nat} {x : FlD} (h : p.flows[k]? = some x) : (sitesF p)[k]? = some (x.name, x.st) := by unfold sitesF; rw [List.getElem?_map, h]; rfl
theorem yes_step {st : Int} {l : List (ByteArray × Int)} {k : Nat} {x : ByteArray × Int} (h : l[k]? = some x) : someG st yesQ 0 (l.take (k + 1)) = someG st yesQ 0 (l.take k) ++ (if x.2 = st then [x.1] else []) := by
  rw [some_step h]
  by_cases hs : x.2 = st
  · rw [if_pos hs, if_pos ⟨hs, rfl⟩]
  · rw [if_neg hs, if_neg (fun e => hs e.1)]
theorem own_len {p : PrD} (hp : progP p = true) (st : Int) : (ownN p st).length ≤ 192 := by
  obtain ⟨h1, h2, _⟩ := prog_ok hp
  unfold ownN
  rw [List.length_map]
  have := List.length_filter_le (fun x : ByteArray × Int => decide (x.2 = st)) (sitesP p)
  rw [sites_len] at this
  omega
set_option maxRecDepth 100000 in
set_option maxHeartbeats 8000000 in
theorem own15_any (p : PrD) (cs : Array Value) (st : Int) (w : World) (h : RdPr w 0 false p cs) (hp : progP p = true) : Calls Try.prog 58 #[.agg cs, .int .i64 st] w (RetNm (ownN p st) w) := by
  obtain ⟨ai, ci, af, cf, ao, co, rfl⟩ := pr_form h
  have HF := Lib.hid (pr_fl h)
  have HI := Lib.hid (pr_in h)
  obtain ⟨n64, n128, _⟩ := prog_ok hp
  have HLEN := Lib.hid (own_len hp st)
  clear h hp
  obtain ⟨i0, hinf, hz0, hz1, hz2⟩ := info_parts infoStr
  have e0 := (Chg.refl (fun _ => False) w).alloc (.cells #[.int .i64 p.st, .slice ai p.ins.length ci, .slice af p.flows.length cf, .slice ao p.outs.length co] 26)
  have bP := heap_alloc_new w (.cells #[.int .i64 p.st, .slice ai p.ins.length ci, .slice af p.flows.length cf, .slice ao p.outs.length co] 26)
  go_enter Try.func58, Try.ntmps58
  go_wp2_with fail
  generalize (w.alloc (.cells #[.int .i64 p.st, .slice ai p.ins.length ci, .slice af p.flows.length cf, .slice ao p.outs.length co] 26)) = W0 at *
  have y1 : ∀ X, Ext W0 X → X.cell? ⟨w.heap.size, 1, none⟩ = some (.slice ai p.ins.length ci) := fun X hX => (blk_cell (Ext.heap hX bP) 1).trans rfl
  have y2 : ∀ X, Ext W0 X → X.cell? ⟨w.heap.size, 2, none⟩ = some (.slice af p.flows.length cf) := fun X hX => (blk_cell (Ext.heap hX bP) 2).trans rfl
  have hsz0 := e0.size
  have er : Ext W0 W0 := Chg.refl _ _
  clear bP
  go_loopw [5, 14] (fun t i wr => ∃ k : Nat, k ≤ p.ins.length ∧ i = .int .i64 k ∧ NmV wr W0.heap.size (someG st yesQ 0 ((sitesI p).take k)) t ∧ Ext W0 wr) (fun _ i _ => p.ins.length - (intOf i).toNat)
  case atStart => exact ⟨0, Nat.zero_le _, rfl, NmV.nil _ _, er⟩
  case round =>
    obtain ⟨k, hk, rfl, hN, hE⟩ := hrel
    have hsz := hE.size
    obtain ⟨ta, tc, rfl⟩ := hN.form
    by_cases hlt : k < p.ins.length
    case pos =>
      have hx := List.getElem?_eq_getElem hlt
      have hstep := yes_step (st := st) (sitesI_at hx)
      have hle := someG_le st yesQ ((sitesI p).take k) 0
      rw [List.length_take] at hle
      have hq1 : (k : Int) < (p.ins.length : Int) := by omega
      obtain ⟨_, _, e, _, _, _, hr, _⟩ := HI.out.ext (e0.trans hE)
      simp only [Value.slice.injEq, true_and] at e
      obtain ⟨rfl, rfl⟩ := e
      obtain ⟨hnm, hty, hst, b, o, rfl, _, hb, c0, c1, c2⟩ := hr k _ hx
      generalize p.ins[k] = x at *
      have HSTEP := Lib.hid hstep
      have e1 : Ext wr (wr.alloc (.cells #[.string x.name, .int .u8 x.ty, .int .i64 x.st] 59)) := (Chg.refl _ _).alloc _
      have xb := heap_alloc_new wr (.cells #[.string x.name, .int .u8 x.ty, .int .i64 x.st] 59)
      clear hstep hx hr
      generalize hL : someG st yesQ 0 ((sitesI p).take k) = L at *
      clear hL
      by_cases hs : x.st = st
      case neg =>
        have bs : (x.st == st) = false := by simpa using hs
        have HN3 := Lib.hid (show NmV (wr.alloc (.cells #[.string x.name, .int .u8 x.ty, .int .i64 x.st] 59)) W0.heap.size (someG st yesQ 0 ((sitesI p).take (k + 1))) (.slice ta L.length tc) by rw [HSTEP.out, if_neg hs, List.append_nil]; exact hN.ext e1)
        have E3 := hE.trans e1
        clear hN
        go_wp2_with fail
        go_roundw
        case rel => exact ⟨k + 1, by omega, by go_num, HN3.out, E3⟩
        case measure => simp [intOf]; omega
      have bs : (x.st == st) = true := by simpa using hs
      have HEQ : Hid (someG st yesQ 0 ((sitesI p).take (k + 1)) = L ++ [x.name]) := by show _ = _; rw [HSTEP.out, if_pos hs]
      have E3 := hE.trans e1
      have HN2 := Lib.hid (hN.ext e1)
      clear hN hs e1
      go_upto_region 6 with (fail)
      generalize wr.alloc (.cells #[.string x.name, .int .u8 x.ty, .int .i64 x.st] 59) = w2 at *
      have hx0 := (blk_cell xb 0).trans rfl
      have hsz3 := E3.size
      clear xb
      go_wp2_with (at_builtin; refine wpList_append_own_at _ rfl _ _ 24 rfl W0.heap.size 9 i0 _ 1 16 Try.underlying24 hinf hz0 hz1 hz2 rfl (by decide) _ _ _ rfl (World.ownsRow.alloc HN2.out _) ⟨_, 0, none⟩ 1 1 [.string x.name] rfl rfl (cell_one_new _ _ _) (by simp [Value.oneCell']) (by unfold maxLen; omega) (by omega) (by simp; omega) ?_; intro v6 w6 hown6 hgrow6 _ hat6; have V6 := NmV.snoc hown6; have E6 : Ext W0 w6 := Ext.then (E3.alloc _) (Chg.of_grownBy hgrow6) (fun b hb => (NmV.rows HN2.out b hb)); clear hown6 hgrow6 hat6)
      rw [← HEQ.out] at V6
      have HN3 := Lib.hid V6
      clear V6
      go_wp2_with fail
      go_roundw
      case rel => exact ⟨k + 1, by omega, by go_num, HN3.out, E6⟩
      case measure => simp [intOf]; omega
    case neg =>
      obtain rfl : k = p.ins.length := by omega
      have y2w := y2 _ hE
      have hII : (sitesI p).take p.ins.length = sitesI p := List.take_of_length_le (by simp [sitesI])
      rw [hII] at hN ⊢
      have HA := Lib.hid hN
      have hle := someG_le st yesQ (sitesI p) 0
      have hlI : (sitesI p).length = p.ins.length := by simp [sitesI]
      generalize hLI : someG st yesQ 0 (sitesI p) = LI at *
      have HLI := Lib.hid hLI
      have HWE := Lib.hid hE
      clear hN hII hLI
      obtain ⟨W1, rfl⟩ : ∃ W1 : World, W1 = wr := ⟨_, rfl⟩
      have y2 : ∀ X, Ext W1 X → X.cell? ⟨w.heap.size, 2, none⟩ = some (.slice af p.flows.length cf) := fun X hX => y2 X (hE.trans hX)
      have er1 : Ext W1 W1 := Chg.refl _ _
      go_wp2_with fail
      go_loopw [6, 31] (fun t i wr => ∃ k : Nat, k ≤ p.flows.length ∧ i = .int .i64 k ∧ NmV wr W1.heap.size (someG st yesQ 0 ((sitesF p).take k)) t ∧ Ext W1 wr) (fun _ i _ => p.flows.length - (intOf i).toNat)
      case atStart => exact ⟨0, Nat.zero_le _, rfl, NmV.nil _ _, er1⟩
      case round =>
        clear y2w hsz hE
        obtain ⟨k, hk, rfl, hN, hE⟩ := hrel
        have hsz := hE.size
        obtain ⟨tb, td, rfl⟩ := hN.form
        by_cases hlt : k < p.flows.length
        case pos =>
          have hx := List.getElem?_eq_getElem hlt
          have hstep := yes_step (st := st) (sitesF_at hx)
          have hle := someG_le st yesQ ((sitesF p).take k) 0
          rw [List.length_take] at hle
          have hq1 : (k : Int) < (p.flows.length : Int) := by omega
          obtain ⟨hnm, _, hst, _, b, o, rfl, _, hb, c0, c1, c2, c3, _, _, _, vx, hvx, c4, c5, c6, c7⟩ := (HF.out.ext (e0.trans (HWE.out.trans hE))).at hx
          obtain ⟨va, vc, rfl, _⟩ := hvx.form
          clear hvx
          generalize p.flows[k] = x at *
          have HSTEP := Lib.hid hstep
          have e1 : Ext wr (wr.alloc (.cells #[.string x.name, .int .u8 x.ty, .int .i64 x.st, .int .i64 x.df, .int .u8 x.body.op, .int .i64 x.body.n, .string x.body.name, .slice va x.body.args.length vc] 55)) := (Chg.refl _ _).alloc _
          have xb := heap_alloc_new wr (.cells #[.string x.name, .int .u8 x.ty, .int .i64 x.st, .int .i64 x.df, .int .u8 x.body.op, .int .i64 x.body.n, .string x.body.name, .slice va x.body.args.length vc] 55)
          clear hstep hx
          generalize hL : someG st yesQ 0 ((sitesF p).take k) = L at *
          clear hL
          by_cases hs : x.st = st
          case neg =>
            have bs : (x.st == st) = false := by simpa using hs
            have HN3 := Lib.hid (show NmV (wr.alloc (.cells #[.string x.name, .int .u8 x.ty, .int .i64 x.st, .int .i64 x.df, .int .u8 x.body.op, .int .i64 x.body.n, .string x.body.name, .slice va x.body.args.length vc] 55)) W1.heap.size (someG st yesQ 0 ((sitesF p).take (k + 1))) (.slice tb L.length td) by rw [HSTEP.out, if_neg hs, List.append_nil]; exact hN.ext e1)
            have E3 := hE.trans e1
            clear hN
            go_wp2_with fail
            go_roundw
            case rel => exact ⟨k + 1, by omega, by go_num, HN3.out, E3⟩
            case measure => simp [intOf]; omega
          have bs : (x.st == st) = true := by simpa using hs
          have HEQ : Hid (someG st yesQ 0 ((sitesF p).take (k + 1)) = L ++ [x.name]) := by show _ = _; rw [HSTEP.out, if_pos hs]
          have E3 := hE.trans e1
          have HN2 := Lib.hid (hN.ext e1)
          clear hN hs e1
          go_upto_region 12 with (fail)
          generalize wr.alloc (.cells #[.string x.name, .int .u8 x.ty, .int .i64 x.st, .int .i64 x.df, .int .u8 x.body.op, .int .i64 x.body.n, .string x.body.name, .slice va x.body.args.length vc] 55) = w2 at *
          have hx0 := (blk_cell xb 0).trans rfl
          have hsz3 := E3.size
          clear xb
          go_wp2_with (at_builtin; refine wpList_append_own_at _ rfl _ _ 24 rfl W1.heap.size 9 i0 _ 1 16 Try.underlying24 hinf hz0 hz1 hz2 rfl (by decide) _ _ _ rfl (World.ownsRow.alloc HN2.out _) ⟨_, 0, none⟩ 1 1 [.string x.name] rfl rfl (cell_one_new _ _ _) (by simp [Value.oneCell']) (by unfold maxLen; omega) (by omega) (by simp; omega) ?_; intro v6 w6 hown6 hgrow6 _ hat6; have V6 := NmV.snoc hown6; have E6 : Ext W1 w6 := Ext.then (E3.alloc _) (Chg.of_grownBy hgrow6) (fun b hb => (NmV.rows HN2.out b hb)); clear hown6 hgrow6 hat6)
          rw [← HEQ.out] at V6
          have HN3 := Lib.hid V6
          clear V6
          go_wp2_with fail
          go_roundw
          case rel => exact ⟨k + 1, by omega, by go_num, HN3.out, E6⟩
          case measure => simp [intOf]; omega
        case neg =>
          obtain rfl : k = p.flows.length := by omega
          have hII : (sitesF p).take p.flows.length = sitesF p := List.take_of_length_le (by simp [sitesF])
          rw [hII] at hN ⊢
          have hsp := own_split p st
          rw [HLI.out] at hsp
          generalize hLF : someG st yesQ 0 (sitesF p) = LF at *
          have HA2 := Lib.hid (HA.out.ext hE)
          have HB2 := Lib.hid hN
          have HSP := Lib.hid hsp
          have e9 := (Chg.refl (fun _ => False) wr).alloc (.cells #[.slice ta LI.length tc, .slice tb LF.length td] 24)
          have b9 := heap_alloc_new wr (.cells #[.slice ta LI.length tc, .slice tb LF.length td] 24)
          have hlen := HLEN.out
          rw [hsp] at hlen
          have HCL := Lib.hid (cutList_any [LI, LF] W0.heap.size (.slice (some ⟨wr.heap.size, 0, none⟩) 2 2) (wr.alloc (.cells #[.slice ta LI.length tc, .slice tb LF.length td] 24))
            ⟨_, _, rfl, fun i l hi => by
              match i, hi with
              | 0, hi =>
                obtain rfl := Option.some.inj hi
                exact ⟨_, _, _, rfl, (blk_cell b9 0).trans rfl, (StV.of (HA2.out.ext e9))⟩
              | 1, hi =>
                obtain rfl := Option.some.inj hi
                exact ⟨_, _, _, rfl, (blk_cell b9 1).trans rfl, (StV.of (HB2.out.ext e9)).base HWE.out.size⟩
              | n + 2, hi => simp at hi⟩ (by simp) (by simp only [List.flatten_cons, List.flatten_nil, List.append_nil]; omega))
          simp only [List.flatten_cons, List.flatten_nil, List.append_nil] at HCL
          rw [← hsp] at HCL
          clear hN hII hlen hsp hLF
          generalize ownN p st = OW at *
          have E9 := e0.trans (HWE.out.trans (hE.trans e9))
          clear HA2 HB2 HA HLEN HSP b9
          go_wp2_with fail
          refine HCL.out.mono ?_
          rintro e w9 ⟨u, rfl, hu, E10⟩
          obtain ⟨ua, uc, rfl⟩ := hu.form
          have HU := Lib.hid (nm_base hu E9.size)
          clear hu HCL
          go_wp2_with fail
          go_ret
          exact ⟨_, rfl, HU.out, E9.trans E10⟩
end Go.Proofs.Ytjdficgejjkaoaa
namespace Go.Proofs.Ytjdficgejjkaoaa
open Go.RowKit
set_option linter.unusedVariables false
set_option linter.unusedSimpArgs false

theorem hasK_any (l : List (Int × Int)) (k : Int × Int) : hasK l k = l.any fun q => decide (q = k) := rfl
theorem sendQ_at {p : PrD} {st a : Int} {n : Nat} (h : (n : Int) + 1 ≤ p.st) : ((List.range (n + 1)).map fun (k : Nat) => ((k : Int) + 1)).any (fun s => !decide (s = st) && hasK (keysP p) (a, s)) = (((List.range n).map fun (k : Nat) => ((k : Int) + 1)).any (fun s => !decide (s = st) && hasK (keysP p) (a, s)) || (!decide ((n : Int) + 1 = st) && hasK (keysP p) (a, (n : Int) + 1))) := by
  rw [List.range_succ, List.map_append, List.any_append]
  simp
/-- The stations gone through so far. -/
def sendR (p : PrD) (st a : Int) (n : Nat) : Bool := ((List.range n).map fun (k : Nat) => ((k : Int) + 1)).any (fun s => !decide (s = st) && hasK (keysP p) (a, s))
theorem sendR_full (p : PrD) (st a : Int) : sendR p st a p.st.toNat = sendQ p st a := rfl
theorem sendR_step (p : PrD) (st a : Int) (n : Nat) : sendR p st a (n + 1) = (sendR p st a n || (!decide ((n : Int) + 1 = st) && hasK (keysP p) (a, (n : Int) + 1))) := by
  unfold sendR
  rw [List.range_succ, List.map_append, List.any_append]
  simp
theorem sendQ_true {p : PrD} {st a : Int} {n : Nat} (hn : (n : Int) + 1 ≤ p.st) (h1 : (n : Int) + 1 ≠ st) (h2 : hasK (keysP p) (a, (n : Int) + 1) = true) : sendQ p st a = true := by
  unfold sendQ
  rw [List.any_eq_true]
  exact ⟨(n : Int) + 1, stations_mem.2 ⟨by omega, hn⟩, by simp [h1, h2]⟩
set_option maxRecDepth 100000 in
set_option maxHeartbeats 4000000 in
theorem sends1_any (p : PrD) (st a : Int) (P S L K n : Nat) (c1 c2 c3 : Value) (w : World) (h8 : p.st ≤ 8) (h0 : 0 ≤ p.st) (ha0 : 0 ≤ a) (ha1 : a ≤ 1000) (hst : isI64 st) (hP : w.heap[P]? = some (.cells #[.int .i64 p.st, c1, c2, c3] 26 (0, 0))) (hS : w.heap[S]? = some (.cells #[.int .i64 st] 3 (0, 0))) (hL : w.heap[L]? = some (.cells #[.map (some K)] 106 (0, 0))) (hK : KyV w K n (keysP p)) :
    Calls Try.prog 55 #[.int .i64 a, .pointer (some ⟨P, 0, none⟩), .pointer (some ⟨S, 0, none⟩), .pointer (some ⟨L, 0, none⟩)] w (RetV (sendQ p st a) w) := by
  have x0 := (blk_cell hP 0).trans rfl
  have x1 := (blk_cell hS 0).trans rfl
  have x2 := (blk_cell hL 0).trans rfl
  have HK := Lib.hid (fun (s : Int) (h : isI64 s) => hK.look (r := (a, s)) ⟨by unfold isI64; omega, h⟩)
  clear hP hS hL hK
  go_enter Try.func55, Try.ntmps55
  go_wp2_with fail
  go_loop [6] (fun i => ∃ k : Nat, (k : Int) ≤ p.st ∧ i = .int .i64 ((k : Int) + 1) ∧ Hid (sendR p st a k = false)) (fun i => 9 - (intOf i).toNat)
  case atStart => exact ⟨0, by omega, rfl, Lib.hid rfl⟩
  case round =>
    obtain ⟨k, hk, rfl, hR⟩ := hrel
    by_cases hlt : (k : Int) + 1 ≤ p.st
    case pos =>
      have hlook := HK.out ((k : Int) + 1) (by unfold isI64; omega)
      simp only [kyV] at hlook
      by_cases hs : (k : Int) + 1 = st
      case pos =>
        have bs : ((k : Int) + 1 != st) = false := by simpa using hs
        have hR2 : Hid (sendR p st a (k + 1) = false) := by show _ = _; rw [sendR_step, hR.out]; simp [hs]
        have HS2 := Lib.hid hs
        clear hs hlook
        go_wp2_with fail
        go_round
        case rel => exact ⟨k + 1, by omega, by go_num, hR2⟩
        case measure => simp [intOf]; omega
      have bs : ((k : Int) + 1 != st) = true := by simpa using hs
      have HS2 := Lib.hid hs
      cases hb : hasK (keysP p) (a, (k : Int) + 1)
      case false =>
        rw [hb] at hlook
        have hR2 : Hid (sendR p st a (k + 1) = false) := by show _ = _; rw [sendR_step, hR.out, hb]; simp
        clear hs hb
        go_wp2_with fail
        go_round
        case rel => exact ⟨k + 1, by omega, by go_num, hR2⟩
        case measure => simp [intOf]; omega
      rw [hb] at hlook
      have hT := Lib.hid (sendQ_true hlt hs hb)
      clear hs hb
      go_wp2_with fail
      go_ret
      exact ⟨by rw [hT.out]; rfl, Chg.refl _ _⟩
    have hR2 : Hid (sendQ p st a = false) := by show _ = _; rw [← sendR_full, show p.st.toNat = k from by omega]; exact hR.out
    go_wp2_with fail
    go_ret
    exact ⟨by rw [hR2.out]; rfl, Chg.refl _ _⟩
set_option maxRecDepth 100000 in
theorem needs1_any (p : PrD) (st a : Int) (L S K n : Nat) (w : World) (ha0 : 0 ≤ a) (ha1 : a ≤ 1000) (hst : isI64 st) (hS : w.heap[S]? = some (.cells #[.int .i64 st] 3 (0, 0))) (hL : w.heap[L]? = some (.cells #[.map (some K)] 106 (0, 0))) (hK : KyV w K n (keysP p)) :
    Calls Try.prog 56 #[.int .i64 a, .pointer (some ⟨L, 0, none⟩), .pointer (some ⟨S, 0, none⟩)] w (RetV (hasK (keysP p) (a, st)) w) := by
  have x1 := (blk_cell hS 0).trans rfl
  have x2 := (blk_cell hL 0).trans rfl
  have hlook := hK.look (r := (a, st)) ⟨by unfold isI64; omega, hst⟩
  simp only [kyV] at hlook
  clear hS hL hK
  generalize hasK (keysP p) (a, st) = b at *
  go_enter Try.func56, Try.ntmps56
  go_wp2_with fail
  go_ret
  exact ⟨rfl, Chg.refl _ _⟩
end Go.Proofs.Ytjdficgejjkaoaa
namespace Go.Proofs.Ytjdficgejjkaoaa
open Go.RowKit
set_option linter.unusedVariables false
set_option linter.unusedSimpArgs false

theorem sends_len {p : PrD} (hp : progP p = true) (st : Int) : (sendsP p st).length ≤ 192 := by
  have := own_len hp st
  unfold sendsP
  split
  · exact Nat.le_trans (List.length_filter_le _ _) this
  · simp
set_option maxRecDepth 100000 in
set_option maxHeartbeats 4000000 in
theorem sends_any (p : PrD) (cs : Array Value) (st : Int) (w : World) (h : RdPr w 0 false p cs) (hst : isI64 st) : Calls Try.prog 25 #[.agg cs, .int .i64 st] w (RetSt (sendsP p st) w) := by
  have HP := Lib.hid h
  obtain ⟨ai, ci, af, cf, ao, co, rfl⟩ := pr_form h
  clear h
  have e0 := (Chg.refl (fun _ => False) w).alloc (.cells #[.int .i64 p.st, .slice ai p.ins.length ci, .slice af p.flows.length cf, .slice ao p.outs.length co] 26)
  have bP := heap_alloc_new w (.cells #[.int .i64 p.st, .slice ai p.ins.length ci, .slice af p.flows.length cf, .slice ao p.outs.length co] 26)
  have e1 := e0.alloc (.cells #[.int .i64 st] 3)
  have bS := heap_alloc_new (w.alloc (.cells #[.int .i64 p.st, .slice ai p.ins.length ci, .slice af p.flows.length cf, .slice ao p.outs.length co] 26)) (.cells #[.int .i64 st] 3)
  rw [World.size_alloc] at bS
  have bP := Ext.heap ((Chg.refl (fun _ => False) (w.alloc (.cells #[.int .i64 p.st, .slice ai p.ins.length ci, .slice af p.flows.length cf, .slice ao p.outs.length co] 26))).alloc (.cells #[.int .i64 st] 3)) bP
  go_enter Try.func25, Try.ntmps25
  go_upto_region 1 with (fail)
  generalize ((w.alloc (.cells #[.int .i64 p.st, .slice ai p.ins.length ci, .slice af p.flows.length cf, .slice ao p.outs.length co] 26)).alloc (.cells #[.int .i64 st] 3)) = W0 at *
  have y0 : ∀ X, Ext W0 X → X.cell? ⟨w.heap.size, 0, none⟩ = some (.int .i64 p.st) := fun X hX => (blk_cell (Ext.heap hX bP) 0).trans rfl
  have y1 : ∀ X, Ext W0 X → X.cell? ⟨w.heap.size, 1, none⟩ = some (.slice ai p.ins.length ci) := fun X hX => (blk_cell (Ext.heap hX bP) 1).trans rfl
  have y2 : ∀ X, Ext W0 X → X.cell? ⟨w.heap.size, 2, none⟩ = some (.slice af p.flows.length cf) := fun X hX => (blk_cell (Ext.heap hX bP) 2).trans rfl
  have y3 : ∀ X, Ext W0 X → X.cell? ⟨w.heap.size, 3, none⟩ = some (.slice ao p.outs.length co) := fun X hX => (blk_cell (Ext.heap hX bP) 3).trans rfl
  have s0 : ∀ X, Ext W0 X → X.cell? ⟨w.heap.size + 1, 0, none⟩ = some (.int .i64 st) := fun X hX => (blk_cell (Ext.heap hX bS) 0).trans rfl
  have er : Ext W0 W0 := Chg.refl _ _
  have HBP := Lib.hid bP
  have HBS := Lib.hid bS
  clear bP bS e0
  have HC := Lib.hid (nCheck_any p _ W0 (HP.out.ext e1))
  unfold RetE at HC
  by_cases hn : namesP p = 0
  case neg =>
    have bn : (namesP p != 0) = true := by simpa using hn
    have HE : Hid (sendsP p st = []) := by show _ = _; unfold sendsP; rw [if_neg hn]
    generalize namesP p = nn at *
    clear hn
    go_wp2_with fail
    refine HC.out.mono ?_
    rintro e w1 ⟨rfl, E1⟩
    go_wp2_with fail
    go_ret
    exact ⟨_, rfl, .inl ⟨rfl, HE.out⟩, e1.trans E1⟩
  have HN := Lib.hid hn
  rw [hn] at HC
  clear hn
  go_wp2_with fail
  refine HC.out.mono ?_
  rintro e w1 ⟨rfl, E1⟩
  clear HC
  have HPR := Lib.hid (names_prog HN.out)
  have hst8 := (progP_parts.1 HPR.out).1
  obtain ⟨hst1, hst8, n64, n128, _⟩ := hst8
  have HAS := Lib.hid (asked15_any p _ w1 (HP.out.ext (e1.trans E1)) HPR.out)
  go_wp2_with fail
  refine HAS.out.mono ?_
  rintro e w2 ⟨K, rfl, hK0, ⟨n, hK⟩, E2'⟩
  have E2 := E1.trans E2'
  have e3 := (Chg.refl (fun _ => False) w2).alloc (.cells #[.map (some K)] 106)
  have bL := heap_alloc_new w2 (.cells #[.map (some K)] 106)
  have HK3 := Lib.hid (hK.chg e3 (fun h => h))
  have HKW := Lib.hid hK.lt
  go_upto_region 4 with (fail)
  generalize hW3 : w2.alloc (.cells #[.map (some K)] 106) = W3 at *
  generalize hL0 : w2.heap.size = L at *
  have E3 := E2.trans e3
  have HBL := Lib.hid bL
  clear hW3 E2' E1 hK HAS er
  have HSM := Lib.hid (someSends_any p _ st (sendQ p st) w.heap.size (w.heap.size + 1) L W3 (HP.out.ext (e1.trans E3)) HPR.out (fun a h0 h1 X hX => sends1_any p st a _ _ _ K n _ _ _ X hst8 (by omega) h0 h1 hst (Ext.heap (E3.trans hX) HBP.out) (Ext.heap (E3.trans hX) HBS.out) (Ext.heap hX HBL.out) (HK3.out.chg hX (fun h => h))))
  rw [some_sends HN.out] at HSM
  have hsl := sends_len HPR.out st
  generalize sendsP p st = R at *
  go_wp2_with fail
  refine HSM.out.mono ?_
  rintro e w4 ⟨u, rfl, hu, E4⟩
  obtain ⟨ua, uc, hcap, hmx, rfl⟩ : ∃ ua uc, R.length ≤ uc ∧ uc ≤ maxLen ∧ u = .slice ua R.length uc := by
    obtain ⟨a, c, h1, h2, h3⟩ := (StV.of hu).form
    exact ⟨a, c, h2, h3, h1⟩
  have HU := Lib.hid ((StV.of (nm_base hu (e1.trans E3).size)).clip)
  clear hu HSM
  go_wp2_with fail
  refine (clipStr_any ua R.length uc _ hcap (by omega)).mono ?_
  rintro e w5 ⟨rfl, rfl⟩
  go_wp2_with fail
  go_ret
  exact ⟨_, rfl, HU.out, (e1.trans E3).trans E4⟩
/-- What each station has that this one needs, station by station. -/
def ndL (p : PrD) (st : Int) (n : Nat) : List (List ByteArray) := (((List.range n).map fun (k : Nat) => ((k : Int) + 1)).filter fun s => !decide (s = st)).map fun s => (ownN p s).filter (hereAsks p st)
theorem ndL_step (p : PrD) (st : Int) (n : Nat) : ndL p st (n + 1) = ndL p st n ++ (if (n : Int) + 1 = st then [] else [(ownN p ((n : Int) + 1)).filter (hereAsks p st)]) := by
  unfold ndL
  rw [List.range_succ, List.map_append, List.filter_append, List.map_append]
  congr 1
  by_cases h : (n : Int) + 1 = st
  · rw [if_pos h]; simp [h]
  · rw [if_neg h]; simp [h]
theorem ndL_len (p : PrD) (st : Int) (n : Nat) : (ndL p st n).length ≤ n := by
  unfold ndL
  rw [List.length_map]
  exact Nat.le_trans (List.length_filter_le _ _) (by simp)
theorem ndL_flat {p : PrD} (h : namesP p = 0) (st : Int) : (ndL p st p.st.toNat).flatten = needsP p st := by
  have key : ∀ l : List Int, ((l.filter fun s => !decide (s = st)).map fun s => (ownN p s).filter (hereAsks p st)).flatten = l.flatMap (needsAt p st) := by
    intro l
    induction l with
    | nil => rfl
    | cons a r ih =>
      rw [List.flatMap_cons, ← ih]
      unfold needsAt
      by_cases e : a = st
      · rw [if_pos e, List.filter_cons_of_neg (by simp [e])]; rfl
      · rw [if_neg e, List.filter_cons_of_pos (by simp [e])]; rfl
  unfold needsP
  rw [if_pos h]
  exact key _
theorem flat_le {ls : List (List ByteArray)} {m : Nat} (h : ∀ l, l ∈ ls → l.length ≤ m) : ls.flatten.length ≤ ls.length * m := by
  induction ls with
  | nil => simp
  | cons a r ih =>
    rw [List.flatten_cons, List.length_append, List.length_cons, Nat.add_mul]
    have := ih (fun l hl => h l (by simp [hl]))
    have := h a (by simp)
    omega
theorem nd_mem {p : PrD} (hp : progP p = true) {st : Int} {n : Nat} {l : List ByteArray} (h : l ∈ ndL p st n) : l.length ≤ 192 := by
  unfold ndL at h
  obtain ⟨s, _, rfl⟩ := List.mem_map.1 h
  exact Nat.le_trans (List.length_filter_le _ _) (own_len hp s)
theorem needs_len {p : PrD} (hp : progP p = true) (st : Int) : (needsP p st).length ≤ 1536 := by
  by_cases h : namesP p = 0
  · rw [← ndL_flat h]
    have h1 := flat_le (fun l hl => nd_mem hp (st := st) (n := p.st.toNat) hl)
    have h2 := ndL_len p st p.st.toNat
    have h3 := (progP_parts.1 hp).1.2.1
    have : (ndL p st p.st.toNat).length * 192 ≤ 8 * 192 := Nat.mul_le_mul_right _ (by omega)
    omega
  · unfold needsP; rw [if_neg h]; simp
theorem infoSS : (Try.prog.info? 24).map (fun i => (i.zero, i.size, i.bytes)) = some (some (.slice none 0 0), 1, 24) := by kernel_rfl
/-- A list of lists of texts, of one's own. -/
def NdV (w : World) (base : Nat) (ls : List (List ByteArray)) (v : Value) : Prop := ∃ us : List Value, us.length = ls.length ∧ w.ownsRow base 24 1 v ls.length us ∧ ∀ (i : Nat) (l : List ByteArray) (u : Value), ls[i]? = some l → us[i]? = some u → StV w base l u
theorem NdV.nil (w : World) (base : Nat) : NdV w base [] (.slice none 0 0) := ⟨[], rfl, World.ownsRow_nil _ _ _ _, fun i l u h => by simp at h⟩
theorem NdV.form {w : World} {base : Nat} {ls : List (List ByteArray)} {v : Value} (h : NdV w base ls v) : ∃ a cap, v = .slice a ls.length cap := by
  obtain ⟨us, _, h, _⟩ := h
  rcases h.2 with ⟨h0, h1⟩ | ⟨g, cap, cur, h1, _⟩
  · exact ⟨none, 0, by rw [h0, h1]⟩
  · exact ⟨_, _, h1⟩
theorem NdV.ext {w w' : World} {base : Nat} {ls : List (List ByteArray)} {v : Value} (h : NdV w base ls v) (he : Ext w w') : NdV w' base ls v := by
  obtain ⟨us, h1, h2, h3⟩ := h
  exact ⟨us, h1, ownsRow_ext h2 he, fun i l u hl hu => (h3 i l u hl hu).ext he⟩
theorem NdV.snoc {w2 w9 : World} {base : Nat} {ls : List (List ByteArray)} {us : List Value} {v v6 u : Value} {l : List ByteArray} {o : Obj} (h1 : us.length = ls.length) (h2 : w2.ownsRow base 24 1 v ls.length us)
    (h3 : ∀ (i : Nat) (l : List ByteArray) (u : Value), ls[i]? = some l → us[i]? = some u → StV w2 base l u) (hu : StV w2 base l u) (hown : w9.ownsRow base 24 1 v6 (ls.length + 1) (us ++ [u])) (hg : (w2.alloc o).grownBy w9 v.ownBlock) : NdV w9 base (ls ++ [l]) v6 := by
  have C9 : Chg (fun b => v.ownBlock = some b) w2 w9 := ((Chg.refl _ _).alloc o).trans (Chg.of_grownBy hg)
  have hne : ∀ (l : List ByteArray) (u : Value), StV w2 base l u → ∀ g, u.ownBlock = some g → ¬ v.ownBlock = some g := by
    intro l u hs g hg1 hg2
    rcases hs with ⟨rfl, _⟩ | ⟨g', cap, cur, rfl, _, hh, _⟩
    · cases hg1
    · simp only [Value.ownBlock, Option.some.injEq] at hg1
      subst hg1
      rcases h2.2 with ⟨rfl, _⟩ | ⟨g2, cap2, cur2, rfl, _, hh2, _⟩
      · cases hg2
      · simp only [Value.ownBlock, Option.some.injEq] at hg2
        subst hg2
        rw [hh] at hh2
        simp only [Option.some.injEq, Obj.cells.injEq] at hh2
        exact absurd hh2.2.1 (by decide)
  refine ⟨us ++ [u], by simp [h1], by rw [List.length_append]; exact hown, fun i l' u' hl hu' => ?_⟩
  by_cases hi : i < ls.length
  · rw [List.getElem?_append_left hi] at hl
    rw [List.getElem?_append_left (by omega)] at hu'
    have := h3 i l' u' hl hu'
    exact this.chg C9 (hne _ _ this)
  · have hi2 : i = ls.length := by
      have := (List.getElem?_eq_some_iff.1 hl).1
      simp at this; omega
    subst hi2
    rw [List.getElem?_append_right (Nat.le_refl _)] at hl
    rw [List.getElem?_append_right (by omega), h1] at hu'
    simp only [Nat.sub_self, List.getElem?_cons_zero, Option.some.injEq] at hl hu'
    subst hl hu'
    exact hu.chg C9 (hne _ _ hu)
theorem NdV.rd {w : World} {base : Nat} {ls : List (List ByteArray)} {v : Value} (h : NdV w base ls v) : RdSS w base ls v := by
  obtain ⟨us, h1, h2, h3⟩ := h
  rcases h2.2 with ⟨h0, h4⟩ | ⟨g, cap, cur, h4, h5, h6, h7, h8, h9, h10⟩
  · have : ls = [] := List.length_eq_zero_iff.1 h4
    subst this
    exact ⟨none, 0, h0, fun i l h => by simp at h⟩
  · refine ⟨_, _, h4, fun i l hi => ?_⟩
    have hl := (List.getElem?_eq_some_iff.1 hi).1
    have hu : us[i]? = some (us[i]'(by omega)) := List.getElem?_eq_getElem (by omega)
    refine ⟨g, 0, _, rfl, ?_, h3 i l _ hi hu⟩
    rw [Nat.zero_add, blk_cell h6]
    have e : (cur.toList.take (ls.length * 1))[i]? = us[i]? := by rw [h10]
    rw [List.getElem?_take, if_pos (by omega), hu] at e
    simpa using e
theorem NdV.rows {w : World} {base : Nat} {ls : List (List ByteArray)} {us : List Value} {v : Value} (h2 : w.ownsRow base 24 1 v ls.length us) : ∀ g, v.ownBlock = some g → base ≤ g := fun g hg => (World.ownsRow.lt h2 g hg).1
set_option maxRecDepth 100000 in
set_option maxHeartbeats 4000000 in
theorem needs_any (p : PrD) (cs : Array Value) (st : Int) (w : World) (h : RdPr w 0 false p cs) (hst : isI64 st) : Calls Try.prog 26 #[.agg cs, .int .i64 st] w (RetSt (needsP p st) w) := by
  have HP := Lib.hid h
  obtain ⟨ai, ci, af, cf, ao, co, rfl⟩ := pr_form h
  clear h
  have e0 := (Chg.refl (fun _ => False) w).alloc (.cells #[.int .i64 p.st, .slice ai p.ins.length ci, .slice af p.flows.length cf, .slice ao p.outs.length co] 26)
  have bP := heap_alloc_new w (.cells #[.int .i64 p.st, .slice ai p.ins.length ci, .slice af p.flows.length cf, .slice ao p.outs.length co] 26)
  have e1 := e0.alloc (.cells #[.int .i64 st] 3)
  have bS := heap_alloc_new (w.alloc (.cells #[.int .i64 p.st, .slice ai p.ins.length ci, .slice af p.flows.length cf, .slice ao p.outs.length co] 26)) (.cells #[.int .i64 st] 3)
  rw [World.size_alloc] at bS
  have bP := Ext.heap ((Chg.refl (fun _ => False) (w.alloc (.cells #[.int .i64 p.st, .slice ai p.ins.length ci, .slice af p.flows.length cf, .slice ao p.outs.length co] 26))).alloc (.cells #[.int .i64 st] 3)) bP
  go_enter Try.func26, Try.ntmps26
  go_upto_region 1 with (fail)
  generalize ((w.alloc (.cells #[.int .i64 p.st, .slice ai p.ins.length ci, .slice af p.flows.length cf, .slice ao p.outs.length co] 26)).alloc (.cells #[.int .i64 st] 3)) = W0 at *
  have y0 : ∀ X, Ext W0 X → X.cell? ⟨w.heap.size, 0, none⟩ = some (.int .i64 p.st) := fun X hX => (blk_cell (Ext.heap hX bP) 0).trans rfl
  have y1 : ∀ X, Ext W0 X → X.cell? ⟨w.heap.size, 1, none⟩ = some (.slice ai p.ins.length ci) := fun X hX => (blk_cell (Ext.heap hX bP) 1).trans rfl
  have y2 : ∀ X, Ext W0 X → X.cell? ⟨w.heap.size, 2, none⟩ = some (.slice af p.flows.length cf) := fun X hX => (blk_cell (Ext.heap hX bP) 2).trans rfl
  have y3 : ∀ X, Ext W0 X → X.cell? ⟨w.heap.size, 3, none⟩ = some (.slice ao p.outs.length co) := fun X hX => (blk_cell (Ext.heap hX bP) 3).trans rfl
  have s0 : ∀ X, Ext W0 X → X.cell? ⟨w.heap.size + 1, 0, none⟩ = some (.int .i64 st) := fun X hX => (blk_cell (Ext.heap hX bS) 0).trans rfl
  have er : Ext W0 W0 := Chg.refl _ _
  have HBP := Lib.hid bP
  have HBS := Lib.hid bS
  clear bP bS e0
  have HC := Lib.hid (nCheck_any p _ W0 (HP.out.ext e1))
  unfold RetE at HC
  by_cases hn : namesP p = 0
  case neg =>
    have bn : (namesP p != 0) = true := by simpa using hn
    have HE : Hid (needsP p st = []) := by show _ = _; unfold needsP; rw [if_neg hn]
    generalize namesP p = nn at *
    clear hn
    go_wp2_with fail
    refine HC.out.mono ?_
    rintro e w1 ⟨rfl, E1⟩
    go_wp2_with fail
    go_ret
    exact ⟨_, rfl, .inl ⟨rfl, HE.out⟩, e1.trans E1⟩
  have HN := Lib.hid hn
  rw [hn] at HC
  clear hn
  go_wp2_with fail
  refine HC.out.mono ?_
  rintro e w1 ⟨rfl, E1⟩
  clear HC
  have HPR := Lib.hid (names_prog HN.out)
  have hst8 := (progP_parts.1 HPR.out).1
  obtain ⟨hst1, hst8, n64, n128, _⟩ := hst8
  have HAS := Lib.hid (asked15_any p _ w1 (HP.out.ext (e1.trans E1)) HPR.out)
  go_wp2_with fail
  refine HAS.out.mono ?_
  rintro e w2 ⟨K, rfl, hK0, ⟨n, hK⟩, E2'⟩
  have E2 := E1.trans E2'
  have e3 := (Chg.refl (fun _ => False) w2).alloc (.cells #[.map (some K)] 106)
  have bL := heap_alloc_new w2 (.cells #[.map (some K)] 106)
  have HK3 := Lib.hid (hK.chg e3 (fun h => h))
  have HKW := Lib.hid hK.lt
  go_upto_region 4 with (fail)
  generalize hW3 : w2.alloc (.cells #[.map (some K)] 106) = W3 at *
  generalize hL0 : w2.heap.size = L at *
  have E3 := E2.trans e3
  have HBL := Lib.hid bL
  clear hW3 E2' E1 hK HAS er
  have HSM := Lib.hid (fun (s : Int) (Y : World) (hY : Ext W3 Y) => by
    have := someNeeds_any p _ s (fun a => hasK (keysP p) (a, st)) L (w.heap.size + 1) Y (HP.out.ext ((e1.trans E3).trans hY)) HPR.out (fun a h0 h1 X hX => needs1_any p st a _ _ K n X h0 h1 hst (Ext.heap ((E3.trans hY).trans hX) HBS.out) (Ext.heap (hY.trans hX) HBL.out) (HK3.out.chg (hY.trans hX) (fun h => h)))
    rw [some_needs HN.out] at this
    exact this)
  obtain ⟨i0, hinf, hz0, hz1, hz2⟩ := info_parts infoSS
  have er : Ext W3 W3 := Chg.refl _ _
  replace y0 := fun X (hX : Ext W3 X) => y0 X (E3.trans hX)
  replace y1 := fun X (hX : Ext W3 X) => y1 X (E3.trans hX)
  replace y2 := fun X (hX : Ext W3 X) => y2 X (E3.trans hX)
  replace y3 := fun X (hX : Ext W3 X) => y3 X (E3.trans hX)
  replace s0 := fun X (hX : Ext W3 X) => s0 X (E3.trans hX)
  have ea : ∀ X o, Ext W3 X → Ext W3 (X.alloc o) := fun X o hX => hX.alloc o
  go_wp2_with fail
  go_loopw [6, 7] (fun t i wr => ∃ k : Nat, (k : Int) ≤ p.st ∧ i = .int .i64 ((k : Int) + 1) ∧ NdV wr W3.heap.size (ndL p st k) t ∧ Ext W3 wr) (fun _ i _ => 9 - (intOf i).toNat)
  case atStart => exact ⟨0, by omega, rfl, NdV.nil _ _, er⟩
  case round =>
    obtain ⟨k, hk, rfl, hN, hE⟩ := hrel
    have hsz := hE.size
    obtain ⟨ta, tc, rfl⟩ := hN.form
    have hll := ndL_len p st k
    have HSTEP := Lib.hid (ndL_step p st k)
    by_cases hlt : (k : Int) + 1 ≤ p.st
    case pos =>
      by_cases hs : (k : Int) + 1 = st
      case pos =>
        have bs : ((k : Int) + 1 != st) = false := by simpa using hs
        have HEQ : Hid (ndL p st (k + 1) = ndL p st k) := by show _ = _; rw [HSTEP.out, if_pos hs, List.append_nil]
        have HNN := Lib.hid hN
        clear hs hN
        generalize hls : ndL p st k = ls at *
        clear hls
        go_wp2_with fail
        go_roundw
        case rel => exact ⟨k + 1, by omega, by go_num, (by rw [HEQ.out]; exact HNN.out), hE⟩
        case measure => simp [intOf]; omega
      have bs : ((k : Int) + 1 != st) = true := by simpa using hs
      have HEQ : Hid (ndL p st (k + 1) = ndL p st k ++ [(ownN p ((k : Int) + 1)).filter (hereAsks p st)]) := by show _ = _; rw [HSTEP.out, if_neg hs]
      clear hs HSTEP
      generalize hls : ndL p st k = ls at *
      clear hls
      have hSM := HSM.out ((k : Int) + 1) wr hE
      generalize (ownN p ((k : Int) + 1)).filter (hereAsks p st) = l at *
      have HNN := Lib.hid hN
      clear hN
      go_wp2_with fail
      refine hSM.mono ?_
      rintro e w4 ⟨u, rfl, hu, E4⟩
      have hsu := (StV.of hu).base hsz
      have HSU := Lib.hid hsu
      obtain ⟨ua, uc, rfl⟩ := hu.form
      obtain ⟨us, h1, h2, h3⟩ := HNN.out.ext E4
      have H1 := Lib.hid h1
      have H3 := Lib.hid h3
      have E5 := hE.trans E4
      have hsz5 := E5.size
      clear hu hsu hSM h1 h3
      go_wp2_with (at_builtin; refine wpList_append_own_at _ rfl _ _ 111 rfl W3.heap.size 24 i0 _ 1 24 Try.underlying111 hinf hz0 hz1 hz2 rfl (by decide) _ _ _ rfl (World.ownsRow.alloc h2 _) ⟨_, 0, none⟩ 1 1 [.slice ua l.length uc] rfl rfl (cell_one_new _ _ _) (by simp [Value.oneCell']) (by unfold maxLen; omega) (by omega) (by simp; omega) ?_; intro v6 w6 hown6 hgrow6 _ hat6; have V6 := NdV.snoc H1.out h2 H3.out HSU.out hown6 hgrow6; have E6 : Ext W3 w6 := Ext.then (E5.alloc _) (Chg.of_grownBy hgrow6) (fun b hb => (NdV.rows h2 b hb)); clear hown6 hgrow6 hat6)
      rw [← HEQ.out] at V6
      have HV6 := Lib.hid V6
      clear V6 h2
      go_wp2_with fail
      go_roundw
      case rel => exact ⟨k + 1, by omega, by go_num, HV6.out, E6⟩
      case measure => simp [intOf]; omega
    have hke : p.st.toNat = k := by omega
    have hfl := ndL_flat HN.out st
    have hln := needs_len HPR.out st
    rw [hke] at hfl
    have HCL := Lib.hid (cutList_any (ndL p st k) W3.heap.size _ wr hN.rd (by omega) (by rw [hfl]; omega))
    rw [hfl] at HCL
    clear hN hfl hke HSM
    generalize needsP p st = R at *
    generalize ndL p st k = ls at *
    go_wp2_with fail
    refine HCL.out.mono ?_
    rintro e w4 ⟨u, rfl, hu, E4⟩
    obtain ⟨ua, uc, hcap, hmx, rfl⟩ : ∃ ua uc, R.length ≤ uc ∧ uc ≤ maxLen ∧ u = .slice ua R.length uc := by
      obtain ⟨a, c, h1, h2, h3⟩ := (StV.of hu).form
      exact ⟨a, c, h2, h3, h1⟩
    have HU := Lib.hid ((StV.of (nm_base hu ((e1.trans E3).trans hE).size)).clip)
    clear hu HCL
    go_wp2_with fail
    refine (clipStr_any ua R.length uc _ hcap (by omega)).mono ?_
    rintro e w5 ⟨rfl, rfl⟩
    go_wp2_with fail
    go_ret
    exact ⟨_, rfl, HU.out, ((e1.trans E3).trans hE).trans E4⟩
end Go.Proofs.Ytjdficgejjkaoaa
