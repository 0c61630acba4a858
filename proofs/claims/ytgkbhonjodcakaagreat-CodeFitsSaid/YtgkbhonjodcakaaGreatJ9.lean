/- What stands in this text: Needs, Age. -/
import Derived.Test.YtgkbhonjodcakaaGreatJ7
import Derived.Test.YtgkbhonjodcakaaGreatJ8
import Derived.Deep.Cut
namespace Go.Proofs.YtgkbhonjodcakaaGreat
open Go.RowKit
set_option linter.unusedVariables false
set_option linter.unusedSimpArgs false

def sitesI (p : PrD) : List (ByteArray × Int) := p.ins.map fun x => (x.name, x.st)
def sitesF (p : PrD) : List (ByteArray × Int) := p.flows.map fun x => (x.name, x.st)
def yesQ : Int → Bool := fun _ => true
theorem own_split (p : PrD) (st : Int) : ownN p st = someG st yesQ 0 (sitesI p) ++ someG st yesQ 0 (sitesF p) := by
  have h : ∀ l : List (ByteArray × Int), someG st yesQ 0 l = (l.filter fun x => decide (x.2 = st)).map (·.1) := fun l => by
    rw [someG_eq (g := fun _ => true) (fun _ _ _ _ => rfl), List.filter_eq_self.2 (fun _ _ => rfl)]
  rw [h, h, ← List.map_append, ← List.filter_append]
  rfl
theorem sitesI_at {p : PrD} {k : Nat} {x : InD} (h : p.ins[k]? = some x) : (sitesI p)[k]? = some (x.name, x.st) := by unfold sitesI; rw [List.getElem?_map, h]; rfl
theorem sitesF_at {p : PrD} {k : Nat} {x : FlD} (h : p.flows[k]? = some x) : (sitesF p)[k]? = some (x.name, x.st) := by unfold sitesF; rw [List.getElem?_map, h]; rfl
theorem yes_step {st : Int} {l : List (ByteArray × Int)} {k : Nat} {x : ByteArray × Int} (h : l[k]? = some x) : someG st yesQ 0 (l.take (k + 1)) = someG st yesQ 0 (l.take k) ++ (if x.2 = st then [x.1] else []) := by
  rw [some_step h]
  by_cases hs : x.2 = st
  · rw [if_pos hs, if_pos ⟨hs, rfl⟩]
  · rw [if_neg hs, if_neg (fun e => hs e.1)]
theorem own_len {p : PrD} (hp : progP p = true) (st : Int) : (ownN p st).length ≤ 192 := by
  obtain ⟨h1, h2, _⟩ := prog_ok hp
  unfold ownN
  rw [List.length_map]
  have := List.length_filter_le (fun x : ByteArray × Int => decide (x.2 = st)) (sitesP p)
  rw [sites_len] at this
  omega
set_option maxRecDepth 100000 in
set_option maxHeartbeats 8000000 in
theorem own15_any (p : PrD) (cs : Array Value) (st : Int) (w : World) (h : RdPr w 0 false p cs) (hp : progP p = true) : Calls Tryz.prog 30 #[.agg cs, .int .i64 st] w (RetNm (ownN p st) w) := by
  obtain ⟨ai, ci, af, cf, ao, co, rfl⟩ := pr_form h
  have HF := Lib.hid (pr_fl h)
  have HI := Lib.hid (pr_in h)
  obtain ⟨n64, n128, _⟩ := prog_ok hp
  have HLEN := Lib.hid (own_len hp st)
  clear h hp
  obtain ⟨i0, hinf, hz0, hz1, hz2⟩ := info_parts infoStr
  have e0 := (Chg.refl (fun _ => False) w).alloc (.cells #[.int .i64 p.st, .slice ai p.ins.length ci, .slice af p.flows.length cf, .slice ao p.outs.length co] 26)
  have bP := heap_alloc_new w (.cells #[.int .i64 p.st, .slice ai p.ins.length ci, .slice af p.flows.length cf, .slice ao p.outs.length co] 26)
  go_enter Tryz.func30, Tryz.ntmps30
  go_wp2_with fail
  generalize (w.alloc (.cells #[.int .i64 p.st, .slice ai p.ins.length ci, .slice af p.flows.length cf, .slice ao p.outs.length co] 26)) = W0 at *
  have y1 : ∀ X, Ext W0 X → X.cell? ⟨w.heap.size, 1, none⟩ = some (.slice ai p.ins.length ci) := fun X hX => (blk_cell (Ext.heap hX bP) 1).trans rfl
  have y2 : ∀ X, Ext W0 X → X.cell? ⟨w.heap.size, 2, none⟩ = some (.slice af p.flows.length cf) := fun X hX => (blk_cell (Ext.heap hX bP) 2).trans rfl
  have hsz0 := e0.size
  have er : Ext W0 W0 := Chg.refl _ _
  clear bP
  go_loopw [5, 14] (fun t i wr => ∃ k : Nat, k ≤ p.ins.length ∧ i = .int .i64 k ∧ NmV wr W0.heap.size (someG st yesQ 0 ((sitesI p).take k)) t ∧ Ext W0 wr) (fun _ i _ => p.ins.length - (intOf i).toNat)
  case atStart => exact ⟨0, Nat.zero_le _, rfl, NmV.nil _ _, er⟩
  case round =>
    obtain ⟨k, hk, rfl, hN, hE⟩ := hrel
    have hsz := hE.size
    obtain ⟨ta, tc, rfl⟩ := hN.form
    by_cases hlt : k < p.ins.length
    case pos =>
      have hx := List.getElem?_eq_getElem hlt
      have hstep := yes_step (st := st) (sitesI_at hx)
      have hle := someG_le st yesQ ((sitesI p).take k) 0
      rw [List.length_take] at hle
      have hq1 : (k : Int) < (p.ins.length : Int) := by omega
      obtain ⟨_, _, e, _, _, _, hr, _⟩ := HI.out.ext (e0.trans hE)
      simp only [Value.slice.injEq, true_and] at e
      obtain ⟨rfl, rfl⟩ := e
      obtain ⟨hnm, hty, hst, b, o, rfl, _, hb, c0, c1, c2⟩ := hr k _ hx
      generalize p.ins[k] = x at *
      have HSTEP := Lib.hid hstep
      have e1 : Ext wr (wr.alloc (.cells #[.string x.name, .int .u8 x.ty, .int .i64 x.st] 147)) := (Chg.refl _ _).alloc _
      have xb := heap_alloc_new wr (.cells #[.string x.name, .int .u8 x.ty, .int .i64 x.st] 147)
      clear hstep hx hr
      generalize hL : someG st yesQ 0 ((sitesI p).take k) = L at *
      clear hL
      by_cases hs : x.st = st
      case neg =>
        have bs : (x.st == st) = false := by simpa using hs
        have HN3 := Lib.hid (show NmV (wr.alloc (.cells #[.string x.name, .int .u8 x.ty, .int .i64 x.st] 147)) W0.heap.size (someG st yesQ 0 ((sitesI p).take (k + 1))) (.slice ta L.length tc) by rw [HSTEP.out, if_neg hs, List.append_nil]; exact hN.ext e1)
        have E3 := hE.trans e1
        clear hN
        go_wp2_with fail
        go_roundw
        case rel => exact ⟨k + 1, by omega, by go_num, HN3.out, E3⟩
        case measure => simp [intOf]; omega
      have bs : (x.st == st) = true := by simpa using hs
      have HEQ : Hid (someG st yesQ 0 ((sitesI p).take (k + 1)) = L ++ [x.name]) := by show _ = _; rw [HSTEP.out, if_pos hs]
      have E3 := hE.trans e1
      have HN2 := Lib.hid (hN.ext e1)
      clear hN hs e1
      go_upto_region 6 with (fail)
      generalize wr.alloc (.cells #[.string x.name, .int .u8 x.ty, .int .i64 x.st] 147) = w2 at *
      have hx0 := (blk_cell xb 0).trans rfl
      have hsz3 := E3.size
      clear xb
      go_wp2_with (at_builtin; refine wpList_append_own_at _ rfl _ _ 24 rfl W0.heap.size 9 i0 _ 1 16 Tryz.underlying24 hinf hz0 hz1 hz2 rfl (by decide) _ _ _ rfl (World.ownsRow.alloc HN2.out _) ⟨_, 0, none⟩ 1 1 [.string x.name] rfl rfl (cell_one_new _ _ _) (by simp [Value.oneCell']) (by unfold maxLen; omega) (by omega) (by simp; omega) ?_; intro v6 w6 hown6 hgrow6 _ hat6; have V6 := NmV.snoc hown6; have E6 : Ext W0 w6 := Ext.then (E3.alloc _) (Chg.of_grownBy hgrow6) (fun b hb => (NmV.rows HN2.out b hb)); clear hown6 hgrow6 hat6)
      rw [← HEQ.out] at V6
      have HN3 := Lib.hid V6
      clear V6
      go_wp2_with fail
      go_roundw
      case rel => exact ⟨k + 1, by omega, by go_num, HN3.out, E6⟩
      case measure => simp [intOf]; omega
    case neg =>
      obtain rfl : k = p.ins.length := by omega
      have y2w := y2 _ hE
      have hII : (sitesI p).take p.ins.length = sitesI p := List.take_of_length_le (by simp [sitesI])
      rw [hII] at hN ⊢
      have HA := Lib.hid hN
      have hle := someG_le st yesQ (sitesI p) 0
      have hlI : (sitesI p).length = p.ins.length := by simp [sitesI]
      generalize hLI : someG st yesQ 0 (sitesI p) = LI at *
      have HLI := Lib.hid hLI
      have HWE := Lib.hid hE
      clear hN hII hLI
      obtain ⟨W1, rfl⟩ : ∃ W1 : World, W1 = wr := ⟨_, rfl⟩
      have y2 : ∀ X, Ext W1 X → X.cell? ⟨w.heap.size, 2, none⟩ = some (.slice af p.flows.length cf) := fun X hX => y2 X (hE.trans hX)
      have er1 : Ext W1 W1 := Chg.refl _ _
      go_wp2_with fail
      go_loopw [6, 31] (fun t i wr => ∃ k : Nat, k ≤ p.flows.length ∧ i = .int .i64 k ∧ NmV wr W1.heap.size (someG st yesQ 0 ((sitesF p).take k)) t ∧ Ext W1 wr) (fun _ i _ => p.flows.length - (intOf i).toNat)
      case atStart => exact ⟨0, Nat.zero_le _, rfl, NmV.nil _ _, er1⟩
      case round =>
        clear y2w hsz hE
        obtain ⟨k, hk, rfl, hN, hE⟩ := hrel
        have hsz := hE.size
        obtain ⟨tb, td, rfl⟩ := hN.form
        by_cases hlt : k < p.flows.length
        case pos =>
          have hx := List.getElem?_eq_getElem hlt
          have hstep := yes_step (st := st) (sitesF_at hx)
          have hle := someG_le st yesQ ((sitesF p).take k) 0
          rw [List.length_take] at hle
          have hq1 : (k : Int) < (p.flows.length : Int) := by omega
          obtain ⟨hnm, _, hst, _, b, o, rfl, _, hb, c0, c1, c2, c3, _, _, _, vx, hvx, c4, c5, c6, c7⟩ := (HF.out.ext (e0.trans (HWE.out.trans hE))).at hx
          obtain ⟨va, vc, rfl, _⟩ := hvx.form
          clear hvx
          generalize p.flows[k] = x at *
          have HSTEP := Lib.hid hstep
          have e1 : Ext wr (wr.alloc (.cells #[.string x.name, .int .u8 x.ty, .int .i64 x.st, .int .i64 x.df, .int .u8 x.body.op, .int .i64 x.body.n, .string x.body.name, .slice va x.body.args.length vc] 43)) := (Chg.refl _ _).alloc _
          have xb := heap_alloc_new wr (.cells #[.string x.name, .int .u8 x.ty, .int .i64 x.st, .int .i64 x.df, .int .u8 x.body.op, .int .i64 x.body.n, .string x.body.name, .slice va x.body.args.length vc] 43)
          clear hstep hx
          generalize hL : someG st yesQ 0 ((sitesF p).take k) = L at *
          clear hL
          by_cases hs : x.st = st
          case neg =>
            have bs : (x.st == st) = false := by simpa using hs
            have HN3 := Lib.hid (show NmV (wr.alloc (.cells #[.string x.name, .int .u8 x.ty, .int .i64 x.st, .int .i64 x.df, .int .u8 x.body.op, .int .i64 x.body.n, .string x.body.name, .slice va x.body.args.length vc] 43)) W1.heap.size (someG st yesQ 0 ((sitesF p).take (k + 1))) (.slice tb L.length td) by rw [HSTEP.out, if_neg hs, List.append_nil]; exact hN.ext e1)
            have E3 := hE.trans e1
            clear hN
            go_wp2_with fail
            go_roundw
            case rel => exact ⟨k + 1, by omega, by go_num, HN3.out, E3⟩
            case measure => simp [intOf]; omega
          have bs : (x.st == st) = true := by simpa using hs
          have HEQ : Hid (someG st yesQ 0 ((sitesF p).take (k + 1)) = L ++ [x.name]) := by show _ = _; rw [HSTEP.out, if_pos hs]
          have E3 := hE.trans e1
          have HN2 := Lib.hid (hN.ext e1)
          clear hN hs e1
          go_upto_region 12 with (fail)
          generalize wr.alloc (.cells #[.string x.name, .int .u8 x.ty, .int .i64 x.st, .int .i64 x.df, .int .u8 x.body.op, .int .i64 x.body.n, .string x.body.name, .slice va x.body.args.length vc] 43) = w2 at *
          have hx0 := (blk_cell xb 0).trans rfl
          have hsz3 := E3.size
          clear xb
          go_wp2_with (at_builtin; refine wpList_append_own_at _ rfl _ _ 24 rfl W1.heap.size 9 i0 _ 1 16 Tryz.underlying24 hinf hz0 hz1 hz2 rfl (by decide) _ _ _ rfl (World.ownsRow.alloc HN2.out _) ⟨_, 0, none⟩ 1 1 [.string x.name] rfl rfl (cell_one_new _ _ _) (by simp [Value.oneCell']) (by unfold maxLen; omega) (by omega) (by simp; omega) ?_; intro v6 w6 hown6 hgrow6 _ hat6; have V6 := NmV.snoc hown6; have E6 : Ext W1 w6 := Ext.then (E3.alloc _) (Chg.of_grownBy hgrow6) (fun b hb => (NmV.rows HN2.out b hb)); clear hown6 hgrow6 hat6)
          rw [← HEQ.out] at V6
          have HN3 := Lib.hid V6
          clear V6
          go_wp2_with fail
          go_roundw
          case rel => exact ⟨k + 1, by omega, by go_num, HN3.out, E6⟩
          case measure => simp [intOf]; omega
        case neg =>
          obtain rfl : k = p.flows.length := by omega
          have hII : (sitesF p).take p.flows.length = sitesF p := List.take_of_length_le (by simp [sitesF])
          rw [hII] at hN ⊢
          have hsp := own_split p st
          rw [HLI.out] at hsp
          generalize hLF : someG st yesQ 0 (sitesF p) = LF at *
          have HA2 := Lib.hid (HA.out.ext hE)
          have HB2 := Lib.hid hN
          have HSP := Lib.hid hsp
          have e9 := (Chg.refl (fun _ => False) wr).alloc (.cells #[.slice ta LI.length tc, .slice tb LF.length td] 24)
          have b9 := heap_alloc_new wr (.cells #[.slice ta LI.length tc, .slice tb LF.length td] 24)
          have hlen := HLEN.out
          rw [hsp] at hlen
          have HCL := Lib.hid (cutList_any [LI, LF] W0.heap.size (.slice (some ⟨wr.heap.size, 0, none⟩) 2 2) (wr.alloc (.cells #[.slice ta LI.length tc, .slice tb LF.length td] 24))
            ⟨_, _, rfl, fun i l hi => by
              match i, hi with
              | 0, hi =>
                obtain rfl := Option.some.inj hi
                exact ⟨_, _, _, rfl, (blk_cell b9 0).trans rfl, (StV.of (HA2.out.ext e9))⟩
              | 1, hi =>
                obtain rfl := Option.some.inj hi
                exact ⟨_, _, _, rfl, (blk_cell b9 1).trans rfl, (StV.of (HB2.out.ext e9)).base HWE.out.size⟩
              | n + 2, hi => simp at hi⟩ (by simp) (by simp only [List.flatten_cons, List.flatten_nil, List.append_nil]; omega))
          simp only [List.flatten_cons, List.flatten_nil, List.append_nil] at HCL
          rw [← hsp] at HCL
          clear hN hII hlen hsp hLF
          generalize ownN p st = OW at *
          have E9 := e0.trans (HWE.out.trans (hE.trans e9))
          clear HA2 HB2 HA HLEN HSP b9
          go_wp2_with fail
          refine HCL.out.mono ?_
          rintro e w9 ⟨u, rfl, hu, E10⟩
          obtain ⟨ua, uc, rfl⟩ := hu.form
          have HU := Lib.hid (nm_base hu E9.size)
          clear hu HCL
          go_wp2_with fail
          go_ret
          exact ⟨_, rfl, HU.out, E9.trans E10⟩
end Go.Proofs.YtgkbhonjodcakaaGreat
namespace Go.Proofs.YtgkbhonjodcakaaGreat
open Go.RowKit
set_option linter.unusedVariables false
set_option linter.unusedSimpArgs false

set_option maxRecDepth 100000 in
theorem needs1_any (p : PrD) (st a : Int) (L S K n : Nat) (w : World) (ha0 : 0 ≤ a) (ha1 : a ≤ 1000) (hst : isI64 st) (hS : w.heap[S]? = some (.cells #[.int .i64 st] 3 (0, 0))) (hL : w.heap[L]? = some (.cells #[.map (some K)] 171 (0, 0))) (hK : KyV w K n (keysP p)) :
    Calls Tryz.prog 78 #[.int .i64 a, .pointer (some ⟨L, 0, none⟩), .pointer (some ⟨S, 0, none⟩)] w (RetV (hasK (keysP p) (a, st)) w) := by
  have x1 := (blk_cell hS 0).trans rfl
  have x2 := (blk_cell hL 0).trans rfl
  have hlook := hK.look (r := (a, st)) ⟨by unfold isI64; omega, hst⟩
  simp only [kyV] at hlook
  clear hS hL hK
  generalize hasK (keysP p) (a, st) = b at *
  go_enter Tryz.func78, Tryz.ntmps78
  go_wp2_with fail
  go_ret
  exact ⟨rfl, Chg.refl _ _⟩
end Go.Proofs.YtgkbhonjodcakaaGreat
namespace Go.Proofs.YtgkbhonjodcakaaGreat
open Go.RowKit
set_option linter.unusedVariables false
set_option linter.unusedSimpArgs false

/-- What each station has that this one needs, station by station. -/
def ndL (p : PrD) (st : Int) (n : Nat) : List (List ByteArray) := (((List.range n).map fun (k : Nat) => ((k : Int) + 1)).filter fun s => !decide (s = st)).map fun s => (ownN p s).filter (hereAsks p st)
theorem ndL_step (p : PrD) (st : Int) (n : Nat) : ndL p st (n + 1) = ndL p st n ++ (if (n : Int) + 1 = st then [] else [(ownN p ((n : Int) + 1)).filter (hereAsks p st)]) := by
  unfold ndL
  rw [List.range_succ, List.map_append, List.filter_append, List.map_append]
  congr 1
  by_cases h : (n : Int) + 1 = st
  · rw [if_pos h]; simp [h]
  · rw [if_neg h]; simp [h]
theorem ndL_len (p : PrD) (st : Int) (n : Nat) : (ndL p st n).length ≤ n := by
  unfold ndL
  rw [List.length_map]
  exact Nat.le_trans (List.length_filter_le _ _) (by simp)
theorem ndL_flat {p : PrD} (h : namesP p = 0) (st : Int) : (ndL p st p.st.toNat).flatten = needsP p st := by
  have key : ∀ l : List Int, ((l.filter fun s => !decide (s = st)).map fun s => (ownN p s).filter (hereAsks p st)).flatten = l.flatMap (needsAt p st) := by
    intro l
    induction l with
    | nil => rfl
    | cons a r ih =>
      rw [List.flatMap_cons, ← ih]
      unfold needsAt
      by_cases e : a = st
      · rw [if_pos e, List.filter_cons_of_neg (by simp [e])]; rfl
      · rw [if_neg e, List.filter_cons_of_pos (by simp [e])]; rfl
  unfold needsP
  rw [if_pos h]
  exact key _
theorem flat_le {ls : List (List ByteArray)} {m : Nat} (h : ∀ l, l ∈ ls → l.length ≤ m) : ls.flatten.length ≤ ls.length * m := by
  induction ls with
  | nil => simp
  | cons a r ih =>
    rw [List.flatten_cons, List.length_append, List.length_cons, Nat.add_mul]
    have := ih (fun l hl => h l (by simp [hl]))
    have := h a (by simp)
    omega
theorem nd_mem {p : PrD} (hp : progP p = true) {st : Int} {n : Nat} {l : List ByteArray} (h : l ∈ ndL p st n) : l.length ≤ 192 := by
  unfold ndL at h
  obtain ⟨s, _, rfl⟩ := List.mem_map.1 h
  exact Nat.le_trans (List.length_filter_le _ _) (own_len hp s)
theorem needs_len {p : PrD} (hp : progP p = true) (st : Int) : (needsP p st).length ≤ 1536 := by
  by_cases h : namesP p = 0
  · rw [← ndL_flat h]
    have h1 := flat_le (fun l hl => nd_mem hp (st := st) (n := p.st.toNat) hl)
    have h2 := ndL_len p st p.st.toNat
    have h3 := (progP_parts.1 hp).1.2.1
    have : (ndL p st p.st.toNat).length * 192 ≤ 8 * 192 := Nat.mul_le_mul_right _ (by omega)
    omega
  · unfold needsP; rw [if_neg h]; simp
theorem infoSS : (Tryz.prog.info? 24).map (fun i => (i.zero, i.size, i.bytes)) = some (some (.slice none 0 0), 1, 24) := by kernel_rfl
/-- A list of lists of texts, of one's own. -/
def NdV (w : World) (base : Nat) (ls : List (List ByteArray)) (v : Value) : Prop := ∃ us : List Value, us.length = ls.length ∧ w.ownsRow base 24 1 v ls.length us ∧ ∀ (i : Nat) (l : List ByteArray) (u : Value), ls[i]? = some l → us[i]? = some u → StV w base l u
theorem NdV.nil (w : World) (base : Nat) : NdV w base [] (.slice none 0 0) := ⟨[], rfl, World.ownsRow_nil _ _ _ _, fun i l u h => by simp at h⟩
theorem NdV.form {w : World} {base : Nat} {ls : List (List ByteArray)} {v : Value} (h : NdV w base ls v) : ∃ a cap, v = .slice a ls.length cap := by
  obtain ⟨us, _, h, _⟩ := h
  rcases h.2 with ⟨h0, h1⟩ | ⟨g, cap, cur, h1, _⟩
  · exact ⟨none, 0, by rw [h0, h1]⟩
  · exact ⟨_, _, h1⟩
theorem NdV.ext {w w' : World} {base : Nat} {ls : List (List ByteArray)} {v : Value} (h : NdV w base ls v) (he : Ext w w') : NdV w' base ls v := by
  obtain ⟨us, h1, h2, h3⟩ := h
  exact ⟨us, h1, ownsRow_ext h2 he, fun i l u hl hu => (h3 i l u hl hu).ext he⟩
theorem NdV.snoc {w2 w9 : World} {base : Nat} {ls : List (List ByteArray)} {us : List Value} {v v6 u : Value} {l : List ByteArray} {o : Obj} (h1 : us.length = ls.length) (h2 : w2.ownsRow base 24 1 v ls.length us)
    (h3 : ∀ (i : Nat) (l : List ByteArray) (u : Value), ls[i]? = some l → us[i]? = some u → StV w2 base l u) (hu : StV w2 base l u) (hown : w9.ownsRow base 24 1 v6 (ls.length + 1) (us ++ [u])) (hg : (w2.alloc o).grownBy w9 v.ownBlock) : NdV w9 base (ls ++ [l]) v6 := by
  have C9 : Chg (fun b => v.ownBlock = some b) w2 w9 := ((Chg.refl _ _).alloc o).trans (Chg.of_grownBy hg)
  have hne : ∀ (l : List ByteArray) (u : Value), StV w2 base l u → ∀ g, u.ownBlock = some g → ¬ v.ownBlock = some g := by
    intro l u hs g hg1 hg2
    rcases hs with ⟨rfl, _⟩ | ⟨g', cap, cur, rfl, _, hh, _⟩
    · cases hg1
    · simp only [Value.ownBlock, Option.some.injEq] at hg1
      subst hg1
      rcases h2.2 with ⟨rfl, _⟩ | ⟨g2, cap2, cur2, rfl, _, hh2, _⟩
      · cases hg2
      · simp only [Value.ownBlock, Option.some.injEq] at hg2
        subst hg2
        rw [hh] at hh2
        simp only [Option.some.injEq, Obj.cells.injEq] at hh2
        exact absurd hh2.2.1 (by decide)
  refine ⟨us ++ [u], by simp [h1], by rw [List.length_append]; exact hown, fun i l' u' hl hu' => ?_⟩
  by_cases hi : i < ls.length
  · rw [List.getElem?_append_left hi] at hl
    rw [List.getElem?_append_left (by omega)] at hu'
    have := h3 i l' u' hl hu'
    exact this.chg C9 (hne _ _ this)
  · have hi2 : i = ls.length := by
      have := (List.getElem?_eq_some_iff.1 hl).1
      simp at this; omega
    subst hi2
    rw [List.getElem?_append_right (Nat.le_refl _)] at hl
    rw [List.getElem?_append_right (by omega), h1] at hu'
    simp only [Nat.sub_self, List.getElem?_cons_zero, Option.some.injEq] at hl hu'
    subst hl hu'
    exact hu.chg C9 (hne _ _ hu)
theorem NdV.rd {w : World} {base : Nat} {ls : List (List ByteArray)} {v : Value} (h : NdV w base ls v) : RdSS w base ls v := by
  obtain ⟨us, h1, h2, h3⟩ := h
  rcases h2.2 with ⟨h0, h4⟩ | ⟨g, cap, cur, h4, h5, h6, h7, h8, h9, h10⟩
  · have : ls = [] := List.length_eq_zero_iff.1 h4
    subst this
    exact ⟨none, 0, h0, fun i l h => by simp at h⟩
  · refine ⟨_, _, h4, fun i l hi => ?_⟩
    have hl := (List.getElem?_eq_some_iff.1 hi).1
    have hu : us[i]? = some (us[i]'(by omega)) := List.getElem?_eq_getElem (by omega)
    refine ⟨g, 0, _, rfl, ?_, h3 i l _ hi hu⟩
    rw [Nat.zero_add, blk_cell h6]
    have e : (cur.toList.take (ls.length * 1))[i]? = us[i]? := by rw [h10]
    rw [List.getElem?_take, if_pos (by omega), hu] at e
    simpa using e
theorem NdV.rows {w : World} {base : Nat} {ls : List (List ByteArray)} {us : List Value} {v : Value} (h2 : w.ownsRow base 24 1 v ls.length us) : ∀ g, v.ownBlock = some g → base ≤ g := fun g hg => (World.ownsRow.lt h2 g hg).1
set_option maxRecDepth 100000 in
set_option maxHeartbeats 4000000 in
theorem needs_any (p : PrD) (cs : Array Value) (st : Int) (w : World) (h : RdPr w 0 false p cs) (hst : isI64 st) : Calls Tryz.prog 31 #[.agg cs, .int .i64 st] w (RetSt (needsP p st) w) := by
  have HP := Lib.hid h
  obtain ⟨ai, ci, af, cf, ao, co, rfl⟩ := pr_form h
  clear h
  have e0 := (Chg.refl (fun _ => False) w).alloc (.cells #[.int .i64 p.st, .slice ai p.ins.length ci, .slice af p.flows.length cf, .slice ao p.outs.length co] 26)
  have bP := heap_alloc_new w (.cells #[.int .i64 p.st, .slice ai p.ins.length ci, .slice af p.flows.length cf, .slice ao p.outs.length co] 26)
  have e1 := e0.alloc (.cells #[.int .i64 st] 3)
  have bS := heap_alloc_new (w.alloc (.cells #[.int .i64 p.st, .slice ai p.ins.length ci, .slice af p.flows.length cf, .slice ao p.outs.length co] 26)) (.cells #[.int .i64 st] 3)
  rw [World.size_alloc] at bS
  have bP := Ext.heap ((Chg.refl (fun _ => False) (w.alloc (.cells #[.int .i64 p.st, .slice ai p.ins.length ci, .slice af p.flows.length cf, .slice ao p.outs.length co] 26))).alloc (.cells #[.int .i64 st] 3)) bP
  go_enter Tryz.func31, Tryz.ntmps31
  go_upto_region 1 with (fail)
  generalize ((w.alloc (.cells #[.int .i64 p.st, .slice ai p.ins.length ci, .slice af p.flows.length cf, .slice ao p.outs.length co] 26)).alloc (.cells #[.int .i64 st] 3)) = W0 at *
  have y0 : ∀ X, Ext W0 X → X.cell? ⟨w.heap.size, 0, none⟩ = some (.int .i64 p.st) := fun X hX => (blk_cell (Ext.heap hX bP) 0).trans rfl
  have y1 : ∀ X, Ext W0 X → X.cell? ⟨w.heap.size, 1, none⟩ = some (.slice ai p.ins.length ci) := fun X hX => (blk_cell (Ext.heap hX bP) 1).trans rfl
  have y2 : ∀ X, Ext W0 X → X.cell? ⟨w.heap.size, 2, none⟩ = some (.slice af p.flows.length cf) := fun X hX => (blk_cell (Ext.heap hX bP) 2).trans rfl
  have y3 : ∀ X, Ext W0 X → X.cell? ⟨w.heap.size, 3, none⟩ = some (.slice ao p.outs.length co) := fun X hX => (blk_cell (Ext.heap hX bP) 3).trans rfl
  have s0 : ∀ X, Ext W0 X → X.cell? ⟨w.heap.size + 1, 0, none⟩ = some (.int .i64 st) := fun X hX => (blk_cell (Ext.heap hX bS) 0).trans rfl
  have er : Ext W0 W0 := Chg.refl _ _
  have HBP := Lib.hid bP
  have HBS := Lib.hid bS
  clear bP bS e0
  have HC := Lib.hid (nCheck_any p _ W0 (HP.out.ext e1))
  unfold RetE at HC
  by_cases hn : namesP p = 0
  case neg =>
    have bn : (namesP p != 0) = true := by simpa using hn
    have HE : Hid (needsP p st = []) := by show _ = _; unfold needsP; rw [if_neg hn]
    generalize namesP p = nn at *
    clear hn
    go_wp2_with fail
    refine HC.out.mono ?_
    rintro e w1 ⟨rfl, E1⟩
    go_wp2_with fail
    go_ret
    exact ⟨_, rfl, .inl ⟨rfl, HE.out⟩, e1.trans E1⟩
  have HN := Lib.hid hn
  rw [hn] at HC
  clear hn
  go_wp2_with fail
  refine HC.out.mono ?_
  rintro e w1 ⟨rfl, E1⟩
  clear HC
  have HPR := Lib.hid (names_prog HN.out)
  have hst8 := (progP_parts.1 HPR.out).1
  obtain ⟨hst1, hst8, n64, n128, _⟩ := hst8
  have HAS := Lib.hid (asked15_any p _ w1 (HP.out.ext (e1.trans E1)) HPR.out)
  go_wp2_with fail
  refine HAS.out.mono ?_
  rintro e w2 ⟨K, rfl, hK0, ⟨n, hK⟩, E2'⟩
  have E2 := E1.trans E2'
  have e3 := (Chg.refl (fun _ => False) w2).alloc (.cells #[.map (some K)] 171)
  have bL := heap_alloc_new w2 (.cells #[.map (some K)] 171)
  have HK3 := Lib.hid (hK.chg e3 (fun h => h))
  have HKW := Lib.hid hK.lt
  go_upto_region 4 with (fail)
  generalize hW3 : w2.alloc (.cells #[.map (some K)] 171) = W3 at *
  generalize hL0 : w2.heap.size = L at *
  have E3 := E2.trans e3
  have HBL := Lib.hid bL
  clear hW3 E2' E1 hK HAS er
  have HSM := Lib.hid (fun (s : Int) (Y : World) (hY : Ext W3 Y) => by
    have := someNeeds_any p _ s (fun a => hasK (keysP p) (a, st)) L (w.heap.size + 1) Y (HP.out.ext ((e1.trans E3).trans hY)) HPR.out (fun a h0 h1 X hX => needs1_any p st a _ _ K n X h0 h1 hst (Ext.heap ((E3.trans hY).trans hX) HBS.out) (Ext.heap (hY.trans hX) HBL.out) (HK3.out.chg (hY.trans hX) (fun h => h)))
    rw [some_needs HN.out] at this
    exact this)
  obtain ⟨i0, hinf, hz0, hz1, hz2⟩ := info_parts infoSS
  have er : Ext W3 W3 := Chg.refl _ _
  replace y0 := fun X (hX : Ext W3 X) => y0 X (E3.trans hX)
  replace y1 := fun X (hX : Ext W3 X) => y1 X (E3.trans hX)
  replace y2 := fun X (hX : Ext W3 X) => y2 X (E3.trans hX)
  replace y3 := fun X (hX : Ext W3 X) => y3 X (E3.trans hX)
  replace s0 := fun X (hX : Ext W3 X) => s0 X (E3.trans hX)
  have ea : ∀ X o, Ext W3 X → Ext W3 (X.alloc o) := fun X o hX => hX.alloc o
  go_wp2_with fail
  go_loopw [6, 7] (fun t i wr => ∃ k : Nat, (k : Int) ≤ p.st ∧ i = .int .i64 ((k : Int) + 1) ∧ NdV wr W3.heap.size (ndL p st k) t ∧ Ext W3 wr) (fun _ i _ => 9 - (intOf i).toNat)
  case atStart => exact ⟨0, by omega, rfl, NdV.nil _ _, er⟩
  case round =>
    obtain ⟨k, hk, rfl, hN, hE⟩ := hrel
    have hsz := hE.size
    obtain ⟨ta, tc, rfl⟩ := hN.form
    have hll := ndL_len p st k
    have HSTEP := Lib.hid (ndL_step p st k)
    by_cases hlt : (k : Int) + 1 ≤ p.st
    case pos =>
      by_cases hs : (k : Int) + 1 = st
      case pos =>
        have bs : ((k : Int) + 1 != st) = false := by simpa using hs
        have HEQ : Hid (ndL p st (k + 1) = ndL p st k) := by show _ = _; rw [HSTEP.out, if_pos hs, List.append_nil]
        have HNN := Lib.hid hN
        clear hs hN
        generalize hls : ndL p st k = ls at *
        clear hls
        go_wp2_with fail
        go_roundw
        case rel => exact ⟨k + 1, by omega, by go_num, (by rw [HEQ.out]; exact HNN.out), hE⟩
        case measure => simp [intOf]; omega
      have bs : ((k : Int) + 1 != st) = true := by simpa using hs
      have HEQ : Hid (ndL p st (k + 1) = ndL p st k ++ [(ownN p ((k : Int) + 1)).filter (hereAsks p st)]) := by show _ = _; rw [HSTEP.out, if_neg hs]
      clear hs HSTEP
      generalize hls : ndL p st k = ls at *
      clear hls
      have hSM := HSM.out ((k : Int) + 1) wr hE
      generalize (ownN p ((k : Int) + 1)).filter (hereAsks p st) = l at *
      have HNN := Lib.hid hN
      clear hN
      go_wp2_with fail
      refine hSM.mono ?_
      rintro e w4 ⟨u, rfl, hu, E4⟩
      have hsu := (StV.of hu).base hsz
      have HSU := Lib.hid hsu
      obtain ⟨ua, uc, rfl⟩ := hu.form
      obtain ⟨us, h1, h2, h3⟩ := HNN.out.ext E4
      have H1 := Lib.hid h1
      have H3 := Lib.hid h3
      have E5 := hE.trans E4
      have hsz5 := E5.size
      clear hu hsu hSM h1 h3
      go_wp2_with (at_builtin; refine wpList_append_own_at _ rfl _ _ 170 rfl W3.heap.size 24 i0 _ 1 24 Tryz.underlying170 hinf hz0 hz1 hz2 rfl (by decide) _ _ _ rfl (World.ownsRow.alloc h2 _) ⟨_, 0, none⟩ 1 1 [.slice ua l.length uc] rfl rfl (cell_one_new _ _ _) (by simp [Value.oneCell']) (by unfold maxLen; omega) (by omega) (by simp; omega) ?_; intro v6 w6 hown6 hgrow6 _ hat6; have V6 := NdV.snoc H1.out h2 H3.out HSU.out hown6 hgrow6; have E6 : Ext W3 w6 := Ext.then (E5.alloc _) (Chg.of_grownBy hgrow6) (fun b hb => (NdV.rows h2 b hb)); clear hown6 hgrow6 hat6)
      rw [← HEQ.out] at V6
      have HV6 := Lib.hid V6
      clear V6 h2
      go_wp2_with fail
      go_roundw
      case rel => exact ⟨k + 1, by omega, by go_num, HV6.out, E6⟩
      case measure => simp [intOf]; omega
    have hke : p.st.toNat = k := by omega
    have hfl := ndL_flat HN.out st
    have hln := needs_len HPR.out st
    rw [hke] at hfl
    have HCL := Lib.hid (cutList_any (ndL p st k) W3.heap.size _ wr hN.rd (by omega) (by rw [hfl]; omega))
    rw [hfl] at HCL
    clear hN hfl hke HSM
    generalize needsP p st = R at *
    generalize ndL p st k = ls at *
    go_wp2_with fail
    refine HCL.out.mono ?_
    rintro e w4 ⟨u, rfl, hu, E4⟩
    obtain ⟨ua, uc, hcap, hmx, rfl⟩ : ∃ ua uc, R.length ≤ uc ∧ uc ≤ maxLen ∧ u = .slice ua R.length uc := by
      obtain ⟨a, c, h1, h2, h3⟩ := (StV.of hu).form
      exact ⟨a, c, h2, h3, h1⟩
    have HU := Lib.hid ((StV.of (nm_base hu ((e1.trans E3).trans hE).size)).clip)
    clear hu HCL
    go_wp2_with fail
    refine (clipStr_any ua R.length uc _ hcap (by omega)).mono ?_
    rintro e w5 ⟨rfl, rfl⟩
    go_wp2_with fail
    go_ret
    exact ⟨_, rfl, HU.out, ((e1.trans E3).trans hE).trans E4⟩
end Go.Proofs.YtgkbhonjodcakaaGreat
namespace Go.Proofs.YtgkbhonjodcakaaGreat
open Go.RowKit Go.Shelf
attribute [local go_sem] Oper.semAt_some
set_option linter.unusedVariables false
set_option linter.unusedSimpArgs false

/-- Does one that asks be this flow, and ask for this? -/
def askIs (flow : Int) (r : Rf) (x : Ask) : Bool := decide ((x.flow : Int) = flow) && decide (x.ref = r)
theorem ageP_eq (p : PrD) (l : List Int) (flow : Int) (r : Rf) : ageP p l flow r = if lateChk p l = false then ((0 : Int), (1 : Int)) else match (asksP p).find? (askIs flow r) with
  | none => (0, 1)
  | some x => (l.getD x.flow 0 - leastA l x, 0) := rfl
theorem age_no {p : PrD} {l : List Int} {flow : Int} {r : Rf} (h : lateChk p l = false) : ageP p l flow r = (0, 1) := by rw [ageP_eq, if_pos h]
theorem age_none {p : PrD} {l : List Int} {flow : Int} {r : Rf} (h : lateChk p l = true) (hn : ∀ x, x ∈ asksP p → askIs flow r x = false) : ageP p l flow r = (0, 1) := by
  rw [ageP_eq, if_neg (by simp [h])]
  rw [List.find?_eq_none.2 (fun x hx => by simp [hn x hx])]
theorem age_some {p : PrD} {l : List Int} {flow : Int} {r : Rf} (h : lateChk p l = true) {ys : List Ask} {x : Ask} (hp : ys ++ [x] <+: asksP p) (hn : ∀ y, y ∈ ys → askIs flow r y = false) (hx : askIs flow r x = true) : ageP p l flow r = (l.getD x.flow 0 - leastA l x, 0) := by
  rw [ageP_eq, if_neg (by simp [h])]
  obtain ⟨rest, e⟩ := hp
  rw [← e, List.append_assoc, List.find?_append, List.find?_eq_none.2 (fun x hx => by simp [hn x hx])]
  simp [List.find?_cons, hx]
def RetAge (a : Int × Int) (w : World) (e : Ending) (w' : World) : Prop := e = .returned (.tuple #[.int .i64 a.1, .int .i64 a.2]) ∧ Ext w w'
theorem leastA_rng {p : PrD} {l : List Int} (h : LsOk p l) {x : Ask} (hx : AskOk p x) : -32 ≤ leastA l x ∧ leastA l x ≤ 1001 := by
  have h1 := getD_rng h.2 x.src.toNat
  have h2 := hx.more0
  have h3 := hx.more1
  unfold leastA
  split <;> omega
/-- The boxes. -/
def AgB (w : World) (v : Value) (flow : Int) (r : Rf) (a b : Int) (W : World) : Prop := Boxed W (w.heap.size + 1) 29 v ∧ Boxed W (w.heap.size + 1 + 1) 3 (.int .i64 flow) ∧ W.heap[w.heap.size + 1 + 1 + 1]? = some (.cells #[.string r.1, .int .i64 r.2] 78 (0, 0)) ∧ Boxed W (w.heap.size + 1 + 1 + 1 + 1) 3 (.int .i64 a) ∧ Boxed W (w.heap.size + 1 + 1 + 1 + 1 + 1) 30 (.int .i64 b)
theorem AgB.kept {w : World} {v : Value} {flow : Int} {r : Rf} {a b : Int} {W W' : World} {row : Option Nat} {N : Nat} (h : AgB w v flow r a b W) (hg : W.grownBy W' row) (hr : ∀ r, row = some r → N ≤ r ∧ ∃ o : Obj, W.heap[r]? = some o ∧ o.isCells = false) : AgB w v flow r a b W' :=
  ⟨bkept h.1 hg hr, bkept h.2.1 hg hr, blkept h.2.2.1 hg hr, bkept h.2.2.2.1 hg hr, bkept h.2.2.2.2 hg hr⟩
theorem AgB.ext {w : World} {v : Value} {flow : Int} {r : Rf} {a b : Int} {W W' : World} (h : AgB w v flow r a b W) (he : Ext W W') : AgB w v flow r a b W' :=
  ⟨Ext.heap he h.1, Ext.heap he h.2.1, Ext.heap he h.2.2.1, Ext.heap he h.2.2.2.1, Ext.heap he h.2.2.2.2⟩
/-- Both results written. -/
def agSet (w : World) (a b : Int) (W : World) : World := (W.setCell ⟨w.heap.size + 1 + 1 + 1 + 1, 0, none⟩ (.int .i64 a)).setCell ⟨w.heap.size + 1 + 1 + 1 + 1 + 1, 0, none⟩ (.int .i64 b)
theorem AgB.set {w : World} {v : Value} {flow : Int} {r : Rf} {a b c d : Int} {W : World} (h : AgB w v flow r a b W) : AgB w v flow r c d (agSet w c d W) := by
  obtain ⟨h1, h2, h3, h4, h5⟩ := h
  refine ⟨((h1.other (by omega) _).other (by omega) _), ((h2.other (by omega) _).other (by omega) _), ?_, ((Boxed.set _ h4).other (by omega) _), Boxed.set _ (h5.other (by omega) _)⟩
  exact (Chg.setCell (Chg.setCell (Chg.refl (fun q => q = w.heap.size + 1 + 1 + 1 + 1 ∨ q = w.heap.size + 1 + 1 + 1 + 1 + 1) W) ⟨w.heap.size + 1 + 1 + 1 + 1, 0, none⟩ (.int .i64 c) (.inl (.inl (Eq.refl _)))) ⟨w.heap.size + 1 + 1 + 1 + 1 + 1, 0, none⟩ (.int .i64 d) (.inl (.inr (Eq.refl _)))).heap h3 (by omega)
theorem agSet_others (w : World) (a b : Int) (W : World) : KeepsOthers W (agSet w a b W) := (KeepsOthers.setCell _ _ _).trans (KeepsOthers.setCell _ _ _)
theorem agSet_below {w W : World} (a b : Int) (hB : Below w.heap.size w W) : Below w.heap.size w (agSet w a b W) :=
  (hB.setCell (p := ⟨w.heap.size + 1 + 1 + 1 + 1, 0, none⟩) (by show _ ≤ w.heap.size + 1 + 1 + 1 + 1; omega) _).setCell (p := ⟨w.heap.size + 1 + 1 + 1 + 1 + 1, 0, none⟩) (by show _ ≤ w.heap.size + 1 + 1 + 1 + 1 + 1; omega) _
/-- Between two rounds. -/
def AgI (p : PrD) (w : World) (N0 : Nat) (v : Value) (flow : Int) (r : Rf) (pre : List (AskS p)) (W : World) : Prop := ((∀ x, x ∈ pre → askIs flow r x.1 = false) ∧ AgB w v flow r 0 0 W ∧ N0 ≤ W.heap.size) ∧ Below w.heap.size w W
/-- A round has left: here it is. -/
def AgIx (p : PrD) (l : List Int) (w : World) (v : Value) (flow : Int) (r : Rf) (c : Code) (pre : List (AskS p)) (W : World) : Prop := (c = .ret ∧ ∃ ys x, pre = ys ++ [x] ∧ (∀ y, y ∈ ys → askIs flow r y.1 = false) ∧ askIs flow r x.1 = true ∧ AgB w v flow r (l.getD x.1.flow 0 - leastA l x.1) 0 W) ∧ Below w.heap.size w W
theorem AgI.own {p : PrD} {w : World} {v : Value} {flow : Int} {r : Rf} {N N0 : Nat} (hN : w.heap.size ≤ N) : OwnFrom N (AgI p w N0 v flow r) := by
  refine OwnFrom.and (fun s X Y row hs hg hr => ?_) (ownFrom_below (Nat.le_refl _) hN)
  obtain ⟨h1, h2, h3⟩ := hs
  exact ⟨h1, h2.kept hg hr, Nat.le_trans h3 hg.size⟩
theorem AgIx.own {p : PrD} {l : List Int} {w : World} {v : Value} {flow : Int} {r : Rf} {N : Nat} (hN : w.heap.size ≤ N) (c : Code) : OwnFrom N (AgIx p l w v flow r c) := by
  refine OwnFrom.and (fun s X Y row hs hg hr => ?_) (ownFrom_below (Nat.le_refl _) hN)
  obtain ⟨h1, ys, x, h2, h3, h4, h5⟩ := hs
  exact ⟨h1, ys, x, h2, h3, h4, h5.kept hg hr⟩
theorem res_ag {W : World} {tmps : Array Value} {b c : Nat} {u v : Value} (hc : W.cell? ⟨b, 0, none⟩ = some u) (hd : W.cell? ⟨c, 0, none⟩ = some v) (h : tmps[8]?.getD undef = .pointer (some ⟨b, 0, none⟩)) (k : tmps[9]?.getD undef = .pointer (some ⟨c, 0, none⟩)) : (results Tryz.f28 tmps).run Tryz.prog W = .ok (.tuple #[u, v]) W := by
  simp [results, Tryz.results28, go_sem, h, k, hc, hd]
theorem ag_leave {w W : World} {D : Nat} {v : Value} {flow : Int} {r : Rf} {a b : Int} {A : Int × Int} {tmps : Array Value} (hd : W.heap[D]? = some (.deferred (some []))) (hDw : w.heap.size ≤ D) (rb : AgB w v flow r a b W) (hE : Below w.heap.size w W) (hn : A = (a, b))
    (ht : tmps[8]?.getD undef = .pointer (some ⟨w.heap.size + 1 + 1 + 1 + 1, 0, none⟩)) (ht2 : tmps[9]?.getD undef = .pointer (some ⟨w.heap.size + 1 + 1 + 1 + 1 + 1, 0, none⟩)) : LeavesInM Fence.wide 8 Tryz.prog Tryz.f28 tmps (RetAge A w) [{ target := .collected D, args := #[] }] .returning W := by
  have rb1 : AgB w v flow r a b (W.putObj D (.deferred none)) := rb.kept (N := 0) (grownBy_putObj' W D (.deferred none)) (fun q e => by cases e; exact ⟨Nat.zero_le _, _, hd, rfl⟩)
  refine ⟨by simp, .inl ⟨_, _, rfl, run_takeDeferred hd, ?_⟩⟩
  exact ⟨_, res_ag rb1.2.2.2.1.cell rb1.2.2.2.2.cell ht ht2, by rw [hn], Ext.of_below (hE.trans (belowK_b (w := w) (Nat.le_refl _) W D _ _ hDw hd rfl rfl))⟩
set_option maxRecDepth 100000 in
set_option maxHeartbeats 3000000 in
theorem age_any (p : PrD) (cs : Array Value) (l : List Int) (v : Value) (fi : Int) (r : Rf) (w : World) (h : RdPr w 0 false p cs) (hl : RdIntV w 0 false l v) : Calls Tryz.prog 28 #[.agg cs, v, .int .i64 fi, .agg #[.string r.1, .int .i64 r.2]] w (RetAge (ageP p l fi r) w) := by
  have HP := Lib.hid h
  have HL := Lib.hid hl
  obtain ⟨r1, r2⟩ := r
  obtain ⟨ai, ci, af, cf, ao, co, rfl⟩ := pr_form h
  obtain ⟨la, lc, rfl, hlf, _⟩ := hl.form
  unfold fitsR at hlf
  clear h hl
  have e0 : Ext w ((((((w.alloc (.cells #[.int .i64 p.st, .slice ai p.ins.length ci, .slice af p.flows.length cf, .slice ao p.outs.length co] 26)).alloc (.cells #[.slice la l.length lc] 29)).alloc (.cells #[.int .i64 fi] 3)).alloc (.cells #[.string r1, .int .i64 r2] 78)).alloc (.cells #[.int .i64 0] 3)).alloc (.cells #[.int .i64 0] 30)) := ((((((Chg.refl _ _).alloc _).alloc _).alloc _).alloc _).alloc _).alloc _
  have b0 := Ext.heap ((((((Chg.refl (fun _ => False) (w.alloc (.cells #[.int .i64 p.st, .slice ai p.ins.length ci, .slice af p.flows.length cf, .slice ao p.outs.length co] 26))).alloc (.cells #[.slice la l.length lc] 29)).alloc (.cells #[.int .i64 fi] 3)).alloc (.cells #[.string r1, .int .i64 r2] 78)).alloc (.cells #[.int .i64 0] 3)).alloc (.cells #[.int .i64 0] 30)) (heap_alloc_new w (.cells #[.int .i64 p.st, .slice ai p.ins.length ci, .slice af p.flows.length cf, .slice ao p.outs.length co] 26))
  have b1 := Ext.heap (((((Chg.refl (fun _ => False) ((w.alloc (.cells #[.int .i64 p.st, .slice ai p.ins.length ci, .slice af p.flows.length cf, .slice ao p.outs.length co] 26)).alloc (.cells #[.slice la l.length lc] 29))).alloc (.cells #[.int .i64 fi] 3)).alloc (.cells #[.string r1, .int .i64 r2] 78)).alloc (.cells #[.int .i64 0] 3)).alloc (.cells #[.int .i64 0] 30)) (heap_alloc_new (w.alloc (.cells #[.int .i64 p.st, .slice ai p.ins.length ci, .slice af p.flows.length cf, .slice ao p.outs.length co] 26)) (.cells #[.slice la l.length lc] 29))
  have b2 := Ext.heap ((((Chg.refl (fun _ => False) (((w.alloc (.cells #[.int .i64 p.st, .slice ai p.ins.length ci, .slice af p.flows.length cf, .slice ao p.outs.length co] 26)).alloc (.cells #[.slice la l.length lc] 29)).alloc (.cells #[.int .i64 fi] 3))).alloc (.cells #[.string r1, .int .i64 r2] 78)).alloc (.cells #[.int .i64 0] 3)).alloc (.cells #[.int .i64 0] 30)) (heap_alloc_new ((w.alloc (.cells #[.int .i64 p.st, .slice ai p.ins.length ci, .slice af p.flows.length cf, .slice ao p.outs.length co] 26)).alloc (.cells #[.slice la l.length lc] 29)) (.cells #[.int .i64 fi] 3))
  have b3 := Ext.heap (((Chg.refl (fun _ => False) ((((w.alloc (.cells #[.int .i64 p.st, .slice ai p.ins.length ci, .slice af p.flows.length cf, .slice ao p.outs.length co] 26)).alloc (.cells #[.slice la l.length lc] 29)).alloc (.cells #[.int .i64 fi] 3)).alloc (.cells #[.string r1, .int .i64 r2] 78))).alloc (.cells #[.int .i64 0] 3)).alloc (.cells #[.int .i64 0] 30)) (heap_alloc_new (((w.alloc (.cells #[.int .i64 p.st, .slice ai p.ins.length ci, .slice af p.flows.length cf, .slice ao p.outs.length co] 26)).alloc (.cells #[.slice la l.length lc] 29)).alloc (.cells #[.int .i64 fi] 3)) (.cells #[.string r1, .int .i64 r2] 78))
  have b4 := Ext.heap ((Chg.refl (fun _ => False) (((((w.alloc (.cells #[.int .i64 p.st, .slice ai p.ins.length ci, .slice af p.flows.length cf, .slice ao p.outs.length co] 26)).alloc (.cells #[.slice la l.length lc] 29)).alloc (.cells #[.int .i64 fi] 3)).alloc (.cells #[.string r1, .int .i64 r2] 78)).alloc (.cells #[.int .i64 0] 3))).alloc (.cells #[.int .i64 0] 30)) (heap_alloc_new ((((w.alloc (.cells #[.int .i64 p.st, .slice ai p.ins.length ci, .slice af p.flows.length cf, .slice ao p.outs.length co] 26)).alloc (.cells #[.slice la l.length lc] 29)).alloc (.cells #[.int .i64 fi] 3)).alloc (.cells #[.string r1, .int .i64 r2] 78)) (.cells #[.int .i64 0] 3))
  have b5 := Ext.heap (Chg.refl (fun _ => False) ((((((w.alloc (.cells #[.int .i64 p.st, .slice ai p.ins.length ci, .slice af p.flows.length cf, .slice ao p.outs.length co] 26)).alloc (.cells #[.slice la l.length lc] 29)).alloc (.cells #[.int .i64 fi] 3)).alloc (.cells #[.string r1, .int .i64 r2] 78)).alloc (.cells #[.int .i64 0] 3)).alloc (.cells #[.int .i64 0] 30))) (heap_alloc_new (((((w.alloc (.cells #[.int .i64 p.st, .slice ai p.ins.length ci, .slice af p.flows.length cf, .slice ao p.outs.length co] 26)).alloc (.cells #[.slice la l.length lc] 29)).alloc (.cells #[.int .i64 fi] 3)).alloc (.cells #[.string r1, .int .i64 r2] 78)).alloc (.cells #[.int .i64 0] 3)) (.cells #[.int .i64 0] 30))
  simp only [World.size_alloc] at b1 b2 b3 b4 b5
  refine (callsIn_wide (n := 8)).1 ?_
  refine callsIn_of_wp_marks Tryz.func28 rfl trivial ?_ rfl
  simp only [Tryz.ntmps28, List.size_toArray, List.length_cons, List.length_nil, Nat.reduceAdd, Nat.reduceSub, Array.replicate_succ, Array.replicate_zero, List.push_toArray, List.append_toArray, List.nil_append, List.cons_append]
  gi_wp2
  generalize ((((((w.alloc (.cells #[.int .i64 p.st, .slice ai p.ins.length ci, .slice af p.flows.length cf, .slice ao p.outs.length co] 26)).alloc (.cells #[.slice la l.length lc] 29)).alloc (.cells #[.int .i64 fi] 3)).alloc (.cells #[.string r1, .int .i64 r2] 78)).alloc (.cells #[.int .i64 0] 3)).alloc (.cells #[.int .i64 0] 30)) = W0 at *
  have HB0 : Hid (AgB w (.slice la l.length lc) fi (r1, r2) 0 0 W0) := ⟨b1, b2, b3, b4, b5⟩
  refine ⟨trivial, (callsIn_wide.2 (lateChk_any p _ l _ _ (HP.out.ext e0) (HL.out.ext e0))).mono ?_⟩
  rintro e w1 ⟨he, E1⟩
  have F1 := e0.trans E1
  have HB1 := Lib.hid (HB0.out.ext E1)
  have xb1 := Ext.heap E1 b0
  clear b0 b1 b2 b3 b4 b5 HB0 E1 e0
  have q4 := HB1.out.2.2.2.1
  have q5 := HB1.out.2.2.2.2
  have hsz1 : w.heap.size + 1 + 1 + 1 + 1 + 1 < w1.heap.size := lt_of_block q5
  have r4 := q4.cell
  have r5 := q5.cell
  have g4 := q4.frozen
  have g5 := q5.frozen
  clear q4 q5
  cases hc : lateChk p l
  · rw [hc] at he
    subst he
    have HA := Lib.hid (age_no (p := p) (l := l) (flow := fi) (r := (r1, r2)) hc)
    have HS := Lib.hid (HB1.out.set (c := 0) (d := 1))
    clear hc
    gi_wp2
    have HS2 := HS.out
    exact ⟨_, res_ag HS2.2.2.2.1.cell HS2.2.2.2.2.cell rfl rfl, by rw [HA.out], Ext.of_below (agSet_below 0 1 (Ext.below F1))⟩
  rw [hc] at he
  subst he
  have HC := Lib.hid hc
  clear hc
  have x0 := (blk_cell xb1 0).trans rfl
  have x1 := (blk_cell xb1 1).trans rfl
  have x2 := (blk_cell xb1 2).trans rfl
  have x3 := (blk_cell xb1 3).trans rfl
  simp only [List.getElem?_toArray, List.getElem?_cons_zero, List.getElem?_cons_succ] at x0 x1 x2 x3
  have HCI := Lib.hid (lateChk_iff.1 HC.out)
  have HPR := Lib.hid (names_prog HCI.out.1)
  have HOK : Hid (LsOk p l) := ⟨HCI.out.2.1, HCI.out.2.2.1⟩
  gi_wp2
  refine ⟨trivial, (callsIn_wide.2 (askings_any _ _ _ _ _ _ rfl)).mono ?_⟩
  rintro e w' ⟨rfl, rfl⟩
  have E3 : Ext w1 (w1.alloc (.cells #[.int .i64 p.st, .slice ai p.ins.length ci, .slice af p.flows.length cf, .slice ao p.outs.length co] 26)) := (Chg.refl _ _).alloc _
  have F3 := F1.trans E3
  have pb := heap_alloc_new w1 (.cells #[.int .i64 p.st, .slice ai p.ins.length ci, .slice af p.flows.length cf, .slice ao p.outs.length co] 26)
  have HB3 := Lib.hid (HB1.out.ext E3)
  have hs3 : Hid ((w1.alloc (.cells #[.int .i64 p.st, .slice ai p.ins.length ci, .slice af p.flows.length cf, .slice ao p.outs.length co] 26)).heap.size = w1.heap.size + 1) := by show _ = _; simp
  have hs4 : w.heap.size ≤ (w1.alloc (.cells #[.int .i64 p.st, .slice ai p.ins.length ci, .slice af p.flows.length cf, .slice ao p.outs.length co] 26)).heap.size := by rw [hs3.out]; omega
  generalize (w1.alloc (.cells #[.int .i64 p.st, .slice ai p.ins.length ci, .slice af p.flows.length cf, .slice ao p.outs.length co] 26)) = W0 at *
  generalize w1.heap.size = Bs at *
  clear x0 x1 x2 x3 r4 r5 g4 g5 xb1 E3 HB1
  gi_wp2
  refine wpIn_rangeFunc_ownH rfl (by omega) (gf := 68) (lb := #[.pointer (some ⟨Bs, 0, none⟩)]) rfl trivial (enters_of Tryz.func68 (by kernel_rfl) rfl)
    (askings_iter 7 (by omega) Bs p W0 _ (HP.out.ext F3) HPR.out pb) kpT_t (fun W l o o' hl => kpT_b (Nat.le_refl _) W l o o' hl) (Below.refl _ _) (fun _ => rfl)
    (AgI p w W0.heap.size (.slice la l.length lc) fi (r1, r2)) (AgIx p l w (.slice la l.length lc) fi (r1, r2)) (AgI.own hs4) (AgIx.own hs4) ⟨⟨fun x h => by simp at h, HB3.out, Nat.le_refl _⟩, Ext.below F3⟩
    (fun x a' W => ∃ Bx, W0.heap.size ≤ Bx ∧ W.heap[Bx]? = some (.cells #[.int .i64 x.1.flow, .int .i64 x.1.src, .int .i64 x.1.more, .string x.1.ref.1, .int .i64 x.1.ref.2] 80 (0, 0)) ∧ W0.heap.size ≤ W.heap.size ∧ a' = { tmps := #[.agg #[.int .i64 p.st, .slice ai p.ins.length ci, .slice af p.flows.length cf, .slice ao p.outs.length co], .slice la l.length lc, .int .i64 fi, .agg #[.string r1, .int .i64 r2], .pointer (some ⟨w.heap.size, 0, none⟩), .pointer (some ⟨w.heap.size + 1, 0, none⟩), .pointer (some ⟨w.heap.size + 1 + 1, 0, none⟩), .pointer (some ⟨w.heap.size + 1 + 1 + 1, 0, none⟩), .pointer (some ⟨w.heap.size + 1 + 1 + 1 + 1, 0, none⟩), .pointer (some ⟨w.heap.size + 1 + 1 + 1 + 1 + 1, 0, none⟩), .pointer (some ⟨Bx, 0, none⟩), .agg #[.int .i64 p.st, .slice ai p.ins.length ci, .slice af p.flows.length cf, .slice ao p.outs.length co], .slice la l.length lc, .bool true, .bool false, .agg #[.int .i64 p.st, .slice ai p.ins.length ci, .slice af p.flows.length cf, .slice ao p.outs.length co], .func (.func 68) #[] #[.pointer (some ⟨Bs, 0, none⟩)], askV x.1, undef, undef, undef, undef, undef, undef, undef, undef, undef, undef, undef, undef, undef, undef, undef, undef, undef, undef], defers := [] })
    (fun x a' _ X Y row hs hg hr => by obtain ⟨Bx, h1, h2, h3, h4⟩ := hs; exact ⟨Bx, h1, blkept h2 hg hr, by have := hg.size; omega, h4⟩)
    ?assign ?body ?done ?stop
  case assign =>
    rintro l0 pre x W K ⟨⟨h1, h2, hws⟩, hB⟩ hK
    simp only [askC, askV]
    gi_wp2
    have E : Ext W (W.alloc (.cells #[.int .i64 x.1.flow, .int .i64 x.1.src, .int .i64 x.1.more, .string x.1.ref.1, .int .i64 x.1.ref.2] 80)) := (Chg.refl _ _).alloc _
    exact hK _ _ ((KeepsOthers.alloc _ _).from _) (Ext.kpT E hws) ⟨⟨h1, h2.ext E, by simp; omega⟩, hB.alloc hB.size _⟩ ⟨W.heap.size, hws, World.alloc_heap_new W _, by simp; omega, rfl⟩
  case body =>
    rintro l0 pre x a' W hl0 ⟨rr, hr⟩ ⟨⟨h1, h2, hws⟩, hB⟩ ⟨Bx, hBx, bX, hWs, rfl⟩ hlt
    have hao := ask_ok HPR.out x.2
    have hEw : Ext w W := Ext.of_below hB
    obtain ⟨a1, a2, a3, a4, a5⟩ := h2
    have HH2 : Hid (AgB w (.slice la l.length lc) fi (r1, r2) 0 0 W) := ⟨a1, a2, a3, a4, a5⟩
    have HH1 := Lib.hid h1
    have HPRE := Lib.hid h1
    have k0 := (blk_cell bX 0).trans rfl
    have k1 := (blk_cell bX 1).trans rfl
    have k2 := (blk_cell bX 2).trans rfl
    have k3 := (blk_cell bX 3).trans rfl
    have k4 := (blk_cell bX 4).trans rfl
    have m2 := a2.cell
    have m3 := (blk_cell a3 0).trans rfl
    have m4 := (blk_cell a3 1).trans rfl
    simp only [List.getElem?_toArray, List.getElem?_cons_zero, List.getElem?_cons_succ] at k0 k1 k2 k3 k4 m3 m4
    have HGO : Hid (∀ X, Ext W X → askIs fi (r1, r2) x.1 = false → KeepsFrom W0.heap.size W X ∧ KpT W0.heap.size W X ∧ AgI p w W0.heap.size (.slice la l.length lc) fi (r1, r2) (pre ++ [x]) X) := fun X hX he =>
      ⟨keepsFrom_ext hX _, Ext.kpT hX hws, ⟨fun y hy => (List.mem_append.1 hy).elim (HH1.out y) (fun e => by rw [List.mem_singleton.1 e]; exact he), HH2.out.ext hX, Nat.le_trans hws hX.size⟩, Ext.below (hEw.trans hX)⟩
    have HIS : Hid (askIs fi (r1, r2) x.1 = (decide ((x.1.flow : Int) = fi) && decide (x.1.ref = (r1, r2)))) := rfl
    have hmx : Tryz.prog.follows .mixedOrders = true := by kernel_rfl
    by_cases hf : (x.1.flow : Int) = fi
    case neg =>
      have bf : ((x.1.flow : Int) == fi) = false := by simpa using hf
      have HE : Hid (askIs fi (r1, r2) x.1 = false) := by show _ = _; rw [HIS.out]; simp [hf]
      clear hf h1 a1 a2 a3 a4 a5
      gi_wp2
      exact HGO.out _ (Chg.refl _ _) HE.out
    subst hf
    clear h1 HH1
    have hfl : x.1.flow < l.length := by have := hao.flow; have := HOK.out.1; omega
    have hfi : (x.1.flow : Int) < (l.length : Int) := by omega
    have hsq : 0 ≤ (x.1.flow : Int) := by omega
    have hx := List.getElem?_eq_getElem hfl
    have hgd : l.getD x.1.flow 0 = l[x.1.flow] := by rw [List.getD_eq_getElem?_getD, hx]; rfl
    have HGD := Lib.hid hgd
    obtain ⟨hu64, b2, o2, rfl, _, hb2, cu⟩ := HL.out.get hx
    have hur := HOK.out.2 _ (List.getElem_mem hfl)
    have hmr := leastA_rng HOK.out hao
    have HLS := Lib.hid (fun (X : World) (hX : Ext W X) => askLeast_any p x.1 l _ X hao (HL.out.ext (hEw.trans hX)) HOK.out)
    have hu := fun (X : World) (hX : Chg (fun q => q = w.heap.size + 1 + 1 + 1 + 1 ∨ q = w.heap.size + 1 + 1 + 1 + 1 + 1) W X) => hX.cell (Ext.cell hEw cu) (by simp only; omega)
    have hBx5 : w.heap.size + 1 + 1 + 1 + 1 + 1 < Bx := by have := hs3.out; omega
    have hx0 : ∀ X, Chg (fun q => q = w.heap.size + 1 + 1 + 1 + 1 ∨ q = w.heap.size + 1 + 1 + 1 + 1 + 1) W X → X.cell? ⟨Bx, 0, none⟩ = some (.int .i64 x.1.flow) := fun X hX => hX.cell k0 (by simp only; omega)
    have hx1 : ∀ X, Chg (fun q => q = w.heap.size + 1 + 1 + 1 + 1 ∨ q = w.heap.size + 1 + 1 + 1 + 1 + 1) W X → X.cell? ⟨Bx, 1, none⟩ = some (.int .i64 x.1.src) := fun X hX => hX.cell k1 (by simp only; omega)
    have hx2 : ∀ X, Chg (fun q => q = w.heap.size + 1 + 1 + 1 + 1 ∨ q = w.heap.size + 1 + 1 + 1 + 1 + 1) W X → X.cell? ⟨Bx, 2, none⟩ = some (.int .i64 x.1.more) := fun X hX => hX.cell k2 (by simp only; omega)
    have hx3 : ∀ X, Chg (fun q => q = w.heap.size + 1 + 1 + 1 + 1 ∨ q = w.heap.size + 1 + 1 + 1 + 1 + 1) W X → X.cell? ⟨Bx, 3, none⟩ = some (.string x.1.ref.1) := fun X hX => hX.cell k3 (by simp only; omega)
    have hx4 : ∀ X, Chg (fun q => q = w.heap.size + 1 + 1 + 1 + 1 ∨ q = w.heap.size + 1 + 1 + 1 + 1 + 1) W X → X.cell? ⟨Bx, 4, none⟩ = some (.int .i64 x.1.ref.2) := fun X hX => hX.cell k4 (by simp only; omega)
    have hyl : ∀ X, Chg (fun q => q = w.heap.size + 1 + 1 + 1 + 1 ∨ q = w.heap.size + 1 + 1 + 1 + 1 + 1) W X → X.cell? ⟨w.heap.size + 1, 0, none⟩ = some (.slice (some ⟨b2, o2, none⟩) l.length lc) := fun X hX => hX.cell a1.cell (by simp only; omega)
    have hyf : ∀ X, Chg (fun q => q = w.heap.size + 1 + 1 + 1 + 1 ∨ q = w.heap.size + 1 + 1 + 1 + 1 + 1) W X → X.cell? ⟨w.heap.size + 1 + 1, 0, none⟩ = some (.int .i64 x.1.flow) := fun X hX => hX.cell a2.cell (by simp only; omega)
    clear hBx5
    have hEd : Chg (fun q => q = w.heap.size + 1 + 1 + 1 + 1 ∨ q = w.heap.size + 1 + 1 + 1 + 1 + 1) W W.drew := (Chg.refl _ _).drew
    have hEe : Ext W W.drew := (Chg.refl _ _).drew
    unfold askV at HLS
    unfold RetE at HLS
    have HMR := Lib.hid (rfl : leastA l x.1 = leastA l x.1)
    generalize hm : leastA l x.1 = m at HLS hmr
    have HM := Lib.hid hm
    clear hm hgd hx a1 a2 a3 a4 a5 cu hao HMR
    have hub : 0 ≤ l[x.1.flow] ∧ l[x.1.flow] ≤ 1000 := hur
    generalize l[x.1.flow] = u at *
    obtain ⟨u0, u1⟩ := hub
    obtain ⟨m0, m1⟩ := hmr
    have hwr : IntKind.i64.wrap (u - m) = u - m := by rw [IntKind.wrap_i64] <;> omega
    gi_wp2
    · have he1 := str_eq.1 (show (x.1.ref.1.toList == r1.toList) = true by rw [beq_iff_eq]; assumption)
      have he2 : x.1.ref.2 = r2 := by assumption
      have HIS2 : Hid (askIs (x.1.flow : Int) (r1, r2) x.1 = true) := by show _ = _; rw [HIS.out, ← he1, ← he2]; simp
      subst he1
      subst he2
      clear hwr
      refine region_lift (fun X => Chg (fun q => q = w.heap.size + 1 + 1 + 1 + 1 ∨ q = w.heap.size + 1 + 1 + 1 + 1 + 1) W X) (by kernel_rfl) (by kernel_rfl) (by rintro ⟨_, _, h⟩; exact h) hEd (fun hHeld => ?_)
      refine wpAnyH_take (i := 0) (oi := _) (v := ?_) rfl (by kernel_rfl) (by kernel_rfl) (by kernel_rfl) (fun _ _ _ h => h) (Or.inl ⟨by rfl, ?_⟩) (by assumption) ?_
      rotate_left
      · (intro X hSw; (try dsimp only at hSw); go_simp; try with_reducible rfl)
      try simp only [Act.put, List.setIfInBounds_toArray, List.set_cons_zero, List.set_cons_succ]
      refine wpAnyH_take (i := 1) (oi := _) (v := ?_) rfl (by kernel_rfl) (by kernel_rfl) (by kernel_rfl) (fun _ _ _ h => h) (Or.inl ⟨by rfl, ?_⟩) (by assumption) ?_
      rotate_left
      · (intro X hSw; (try dsimp only at hSw); go_simp; try with_reducible rfl)
      try simp only [Act.put, List.setIfInBounds_toArray, List.set_cons_zero, List.set_cons_succ]
      refine wpAnyH_take (i := 4) (oi := _) (v := ?_) rfl (by kernel_rfl) (by kernel_rfl) (by kernel_rfl) (fun _ _ _ h => h) (Or.inl ⟨by rfl, ?_⟩) (by assumption) ?_
      rotate_left
      · (intro X hSw; (try dsimp only at hSw); go_simp; try with_reducible rfl)
      try simp only [Act.put, List.setIfInBounds_toArray, List.set_cons_zero, List.set_cons_succ]
      refine wpAnyH_take (i := 5) (oi := _) (v := ?_) rfl (by kernel_rfl) (by kernel_rfl) (by kernel_rfl) (fun _ _ _ h => h) (Or.inl ⟨by rfl, ?_⟩) (by assumption) ?_
      rotate_left
      · (intro X hSw; (try dsimp only at hSw); go_simp; try with_reducible rfl)
      try simp only [Act.put, List.setIfInBounds_toArray, List.set_cons_zero, List.set_cons_succ]
      refine wpAnyH_take (i := 2) (oi := _) (v := ?_) rfl (by kernel_rfl) (by kernel_rfl) (by kernel_rfl) (fun _ _ _ h => h) (Or.inl ⟨by rfl, ?_⟩) (by assumption) ?_
      rotate_left
      · (intro X hSw; (try dsimp only at hSw); go_simp; try with_reducible rfl)
      try simp only [Act.put, List.setIfInBounds_toArray, List.set_cons_zero, List.set_cons_succ]
      refine wpAnyH_take (i := 3) (oi := _) (v := ?_) rfl (by kernel_rfl) (by kernel_rfl) (by kernel_rfl) (fun _ _ _ h => h) (Or.inl ⟨by rfl, ?_⟩) (by assumption) ?_
      rotate_left
      · (intro X hSw; (try dsimp only at hSw); go_simp; try with_reducible rfl)
      try simp only [Act.put, List.setIfInBounds_toArray, List.set_cons_zero, List.set_cons_succ]
      refine wpAnyH_ready (rs := [6]) (by kernel_rfl) (by simp) ?_
      refine AllReadyH.cons (o := _) rfl (fun K hK => ?_) AllReadyH.nil
      go_simp
      refine (HLS.out _ hEe).mono ?_
      rintro e W5 ⟨rfl, E5⟩
      have hE5 := hEe.trans E5
      have hC5 : Chg (fun q => q = w.heap.size + 1 + 1 + 1 + 1 ∨ q = w.heap.size + 1 + 1 + 1 + 1 + 1) W W5 := hE5.mono (fun _ _ h => h.elim)
      go_simp
      refine hK.out _ _ (hC5) (fun hHeld2 => ?_)
      clear hK K
      try simp only [Act.put, List.setIfInBounds_toArray, List.set_cons_zero, List.set_cons_succ]
      have H25 := Lib.hid (HH2.out.ext hE5)
      have q4 := H25.out.2.2.2.1.cell
      have g4 := H25.out.2.2.2.1.frozen
      have q5 := H25.out.2.2.2.2.cell
      have g5 := H25.out.2.2.2.2.frozen
      have hwr : IntKind.i64.wrap (u - m) = u - m := by rw [IntKind.wrap_i64] <;> omega
      refine wpAnyH_take (i := 7) (oi := _) (v := ?_) rfl (by kernel_rfl) (by kernel_rfl) (by kernel_rfl) (fun _ _ _ h => h) (Or.inl ⟨by rfl, ?_⟩) (by assumption) ?_
      rotate_left
      · (intro X hSw; (try dsimp only at hSw); go_simp; try with_reducible rfl)
      try simp only [Act.put, List.setIfInBounds_toArray, List.set_cons_zero, List.set_cons_succ]
      clear hwr
      refine wpAnyH_ready (rs := [8]) (by kernel_rfl) (by simp) ?_
      refine AllReadyH.cons (o := _) rfl (fun K hK => ?_) AllReadyH.nil
      go_simp
      refine hK.out _ _ (hC5.setCell _ _ (.inl (.inl (Eq.refl _)))) (fun hHeld2 => ?_)
      clear hK K
      try simp only [Act.put, List.setIfInBounds_toArray, List.set_cons_zero, List.set_cons_succ]
      have q6 := (Boxed.other (B := w.heap.size + 1 + 1 + 1 + 1 + 1) (B' := w.heap.size + 1 + 1 + 1 + 1) H25.out.2.2.2.2 (by omega) (.int .i64 (u - m))).cell
      have g6 := (Boxed.other (B := w.heap.size + 1 + 1 + 1 + 1 + 1) (B' := w.heap.size + 1 + 1 + 1 + 1) H25.out.2.2.2.2 (by omega) (.int .i64 (u - m))).frozen
      refine wpAnyH_ready (rs := [9]) (by kernel_rfl) (by simp) ?_
      refine AllReadyH.cons (o := _) rfl (fun K hK => ?_) AllReadyH.nil
      go_simp
      refine hK.out _ _ ((hC5.setCell _ _ (.inl (.inl (Eq.refl _)))).setCell _ _ (.inl (.inr (Eq.refl _)))) (fun hHeld2 => ?_)
      clear hK K
      try simp only [Act.put, List.setIfInBounds_toArray, List.set_cons_zero, List.set_cons_succ]
      refine wpAnyH_done (by kernel_rfl) ?_ _
      have hs5 := hE5.size
      have HQ : Hid (KeepsFrom W0.heap.size W (agSet w (u - m) 0 W5) ∧ AgIx p l w (.slice (some ⟨b2, o2, none⟩) l.length lc) x.1.flow (x.1.ref.1, x.1.ref.2) .ret (pre ++ [x]) (agSet w (u - m) 0 W5)) :=
        ⟨(keepsFrom_ext hE5 _).trans ((agSet_others w _ _ _).from _), ⟨rfl, pre, x, rfl, HPRE.out, HIS2.out, by rw [HM.out, HGD.out]; exact H25.out.set⟩, agSet_below _ _ (Ext.below (hEw.trans hE5))⟩
      gi_wp2
      exact HQ.out
    · exact HGO.out _ (Chg.refl _ _) (by rw [HIS.out]; have h : ¬ x.1.ref.2 = r2 := by assumption
                                         simp [Prod.ext_iff, h])
    · exact HGO.out _ (Chg.refl _ _) (by rw [HIS.out]; have h : ¬ x.1.ref.1.toList = r1.toList := by assumption
                                         have h2 : x.1.ref.1 ≠ r1 := fun e => h (by rw [e])
                                         simp [Prod.ext_iff, h2])
  case done =>
    rintro D ys W hD hys ⟨⟨h1, h2, _⟩, hB⟩ hK
    have HT := Lib.hid (age_none (p := p) (l := l) (flow := fi) (r := (r1, r2)) HC.out (fun x hx => by
      rw [← hys] at hx
      obtain ⟨y, hy, rfl⟩ := List.mem_map.1 hx
      exact h1 y hy))
    have q4 := h2.2.2.2.1
    have q5 := h2.2.2.2.2
    have r4 := q4.cell
    have r5 := q5.cell
    have g4 := q4.frozen
    have g5 := q5.frozen
    have HS := Lib.hid (h2.set (c := 0) (d := 1))
    have hd6 := Lib.hid ((agSet_others w 0 1 W).same D _ hK rfl)
    have hB6 := Lib.hid (agSet_below 0 1 hB)
    clear q4 q5 h2
    gi_wp2
    exact ag_leave hd6.out (by omega) HS.out hB6.out HT.out rfl rfl
  case stop =>
    rintro D c pre W hD hpre ⟨⟨rfl, ys, x, rfl, h3, h4, h5⟩, hB⟩ hK
    have HT := Lib.hid (age_some (p := p) (l := l) (flow := fi) (r := (r1, r2)) HC.out (by rw [List.map_append] at hpre; exact hpre) (fun y hy => by obtain ⟨z, hz, rfl⟩ := List.mem_map.1 hy; exact h3 z hz) h4)
    gi_wp2
    exact ag_leave hK (by omega) h5 hB HT.out rfl rfl
end Go.Proofs.YtgkbhonjodcakaaGreat
