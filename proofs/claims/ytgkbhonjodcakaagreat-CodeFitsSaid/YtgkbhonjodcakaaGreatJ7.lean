/- What stands in this text: AskIt, Lift, LateChk, RefLate. -/
import Derived.Test.YtgkbhonjodcakaaGreatJ3
import Derived.Test.YtgkbhonjodcakaaGreatJ4
import Derived.Test.YtgkbhonjodcakaaGreatJ6
import Derived.RangeFuncCalls
import Derived.OrdersHeld
import Derived.OrdersIn
import Derived.Deep.RegionHeld3
namespace Go.Proofs.YtgkbhonjodcakaaGreat
open Go.RowKit Go.Shelf
attribute [local go_sem] Oper.semAt_some
set_option linter.unusedVariables false
set_option linter.unusedSimpArgs false

abbrev AskS (p : PrD) := {x : Ask // x ∈ asksP p}
def askC {p : PrD} (x : AskS p) : Array Value := #[askV x.1]
/-- What a round may write, while lists of one's own are read: nothing that lay, no cells but those of askings. -/
structure KpT (n0 : Nat) (A B : World) : Prop where
  below : Below n0 A B
  cells : ∀ (k : Nat) (cs : Array Value) (t : TypeId) (f : Nat × Nat), A.heap[k]? = some (.cells cs t f) → t ≠ 80 → t ≠ 75 → B.heap[k]? = some (.cells cs t f)
theorem kpT_t {n0 : Nat} {A B C : World} (h : KpT n0 A B) (k : KpT n0 B C) : KpT n0 A C := ⟨h.below.trans k.below, fun i cs t f h1 h2 h3 => k.cells i cs t f (h.cells i cs t f h1 h2 h3) h2 h3⟩
theorem kpT_b {n0 m : Nat} (hn : n0 ≤ m) (W : World) (l : Nat) (o o' : Obj) (hl : m ≤ l) (h : W.heap[l]? = some o) (hc : o.isCells = false) (hw : o.isWalk = false) : KpT n0 W (W.putObj l o') := by
  have hh : ∀ k, k ≠ l → (W.putObj l o').heap[k]? = W.heap[k]? := fun k hk => World.putObj_heap_other hk
  refine ⟨⟨rfl, rfl, rfl, by simp, fun k hk => hh k (by omega)⟩, fun k cs t f hk h2 h3 => ?_⟩
  rw [hh k (by rintro rfl; rw [h] at hk; cases hk; simp [Obj.isCells] at hc)]
  exact hk
theorem Ext.kpT {n0 : Nat} {A B : World} (h : Ext A B) (hn : n0 ≤ A.heap.size) : KpT n0 A B :=
  ⟨(Ext.below h).mono hn, fun k cs t f hk _ _ => Ext.heap h hk⟩
theorem askings_any (cs : Array Value) (a b c d : Value) (w : World) (h : cs = #[a, b, c, d]) : Calls Tryz.prog 23 #[.agg cs] w fun e w' =>
    e = .returned (.func (.func 68) #[] #[.pointer (some ⟨w.heap.size, 0, none⟩)]) ∧ w' = w.alloc (.cells cs 26) := by
  subst h
  go_enter Tryz.func23, Tryz.ntmps23
  go_wp2_with fail
  go_ret
  exact ⟨rfl, rfl⟩
theorem asksL_take {p : PrD} : ∀ {l : List FlD} {i k : Nat} {f : FlD}, l[k]? = some f → asksL p i (l.take (k + 1)) = asksL p i (l.take k) ++ asksOf p (i + k) f
  | [], i, k, f, h => by simp at h
  | x :: r, i, 0, f, h => by
    simp only [List.getElem?_cons_zero, Option.some.injEq] at h
    subst h
    simp [asksL]
  | x :: r, i, k + 1, f, h => by
    simp only [List.getElem?_cons_succ] at h
    rw [List.take_succ_cons, List.take_succ_cons, asksL, asksL, asksL_take h, List.append_assoc, show i + 1 + k = i + (k + 1) from by omega]
theorem asks_cut {p : PrD} {k j : Nat} {f : FlD} {r : Rf} (h : p.flows[k]? = some f) (hr : (gthE [] 0 f.body)[j]? = some r) :
    ∃ rest, asksP p = (asksL p 0 (p.flows.take k) ++ ((gthE [] 0 f.body).take j).map (askOf p k f)) ++ askOf p k f r :: rest := by
  have hk := (List.getElem?_eq_some_iff.1 h)
  obtain ⟨hk, he⟩ := hk
  have hj := (List.getElem?_eq_some_iff.1 hr)
  obtain ⟨hj, hje⟩ := hj
  have e1 : ∀ (l : List FlD) (i : Nat) (m : List FlD), asksL p i (l ++ m) = asksL p i l ++ asksL p (i + l.length) m := by
    intro l
    induction l with
    | nil => intro i m; simp [asksL]
    | cons x r ih => intro i m; rw [List.cons_append, asksL, ih, asksL, List.append_assoc, List.length_cons, show i + 1 + r.length = i + (r.length + 1) from by omega]
  have e2 : p.flows = p.flows.take k ++ f :: p.flows.drop (k + 1) := by
    rw [← he, ← List.drop_eq_getElem_cons hk, List.take_append_drop]
  have e3 : gthE [] 0 f.body = (gthE [] 0 f.body).take j ++ r :: (gthE [] 0 f.body).drop (j + 1) := by
    rw [← hje, ← List.drop_eq_getElem_cons hj, List.take_append_drop]
  refine ⟨((gthE [] 0 f.body).drop (j + 1)).map (askOf p k f) ++ asksL p (k + 1) (p.flows.drop (k + 1)), ?_⟩
  have e4 : asksP p = asksL p 0 (p.flows.take k) ++ asksL p k (f :: p.flows.drop (k + 1)) := by
    have := e1 (p.flows.take k) 0 (f :: p.flows.drop (k + 1))
    rw [← e2, Nat.zero_add, List.length_take, Nat.min_eq_left (by omega)] at this
    exact this
  have e5 : asksOf p k f = ((gthE [] 0 f.body).take j).map (askOf p k f) ++ askOf p k f r :: ((gthE [] 0 f.body).drop (j + 1)).map (askOf p k f) := by
    have := congrArg (List.map (askOf p k f)) e3
    rw [List.map_append, List.map_cons] at this
    exact this
  rw [e4, asksL, e5]
  simp
set_option maxRecDepth 100000 in
set_option maxHeartbeats 4000000 in
theorem askings_iter (n : Nat) (hn : 1 ≤ n) (Bs : Nat) (p : PrD) (w : World) (cs : Array Value) (hP : RdPr w 0 false p cs) (hok : progP p = true) (hB : w.heap[Bs]? = some (.cells cs 26 (0, 0))) :
    SeqStopsK Fence.wide n Tryz.prog 68 #[.pointer (some ⟨Bs, 0, none⟩)] (askC (p := p)) (KpT w.heap.size) (fun ys => ys.map (·.1) = asksP p) (fun pre => pre.map (·.1) <+: asksP p) (asksP p).length w := fun l J Jx W hW hJ hJx hY h0 => by
  have HP := Lib.hid hP
  obtain ⟨vi, vf, vo, rfl, hst, hi, hf, ho⟩ := hP
  obtain ⟨ai, ci, rfl, ri⟩ := hi
  obtain ⟨af, cf, rfl, rf⟩ := hf
  obtain ⟨ao, co, rfl, ro⟩ := ho
  have HFL := Lib.hid (show RdFlV w 0 false p.flows (.slice af p.flows.length cf) from ⟨_, _, rfl, rf⟩)
  have n2 : p.flows.length ≤ 9000000000000000000 := by have := rf.1; unfold fitsR at this; omega
  clear ri rf ro hst
  have hE0 : Ext w W := Ext.of_below hW
  have b0 : ∀ X, Ext w X → X.cell? ⟨Bs, 0, none⟩ = some (.int .i64 p.st) := fun X hX => (blk_cell (Ext.heap hX hB) 0).trans rfl
  have b1 : ∀ X, Ext w X → X.cell? ⟨Bs, 1, none⟩ = some (.slice ai p.ins.length ci) := fun X hX => (blk_cell (Ext.heap hX hB) 1).trans rfl
  have b2 : ∀ X, Ext w X → X.cell? ⟨Bs, 2, none⟩ = some (.slice af p.flows.length cf) := fun X hX => (blk_cell (Ext.heap hX hB) 2).trans rfl
  have b3 : ∀ X, Ext w X → X.cell? ⟨Bs, 3, none⟩ = some (.slice ao p.outs.length co) := fun X hX => (blk_cell (Ext.heap hX hB) 3).trans rfl
  have ed : ∀ X, Ext w X → Ext w X.drew := fun X hX => hX.drew
  have ea : ∀ X o, Ext w X → Ext w (X.alloc o) := fun X o hX => hX.alloc o
  have hal : ∀ (pre : List (AskS p)) (wr W' : World), J pre wr → Ext wr W' → J pre W' := fun pre wr W' h he => hJ pre wr W' none h (Ext.grown he) (fun r e => by cases e)
  have HOK := Lib.hid (prog_ok hok).2.2.2.1
  have HAOK := Lib.hid (fun x hx => ask_ok (p := p) hok (x := x) hx)
  have HAL := Lib.hid hal
  have HY := Lib.hid hY
  have HFd := Lib.hid (fun (s : ByteArray) (X : World) (hX : Ext w X) => find_any p s _ X (HP.out.ext hX))
  clear hok hal hY
  refine callsIn_of_wp Tryz.func68 rfl trivial ?_ rfl
  simp only [Tryz.ntmps68, List.size_toArray, List.length_cons, List.length_nil, Nat.reduceAdd, Nat.reduceSub, Array.replicate_succ, Array.replicate_zero, List.push_toArray, List.append_toArray, List.nil_append, List.cons_append]
  gi_wp2
  gi_loopw [15] (fun i wr => ∃ (k : Nat) (pre : List (AskS p)), k ≤ p.flows.length ∧ i = .int .i64 k ∧ pre.map (·.1) = asksL p 0 (p.flows.take k) ∧ J pre wr ∧ Ext w wr) (fun i _ => p.flows.length - (intOf i).toNat)
  case atStart => exact ⟨0, [], Nat.zero_le _, rfl, by simp [asksL], h0, hE0⟩
  case round =>
    obtain ⟨k, pre, hk, rfl, hpre, hJs, hE⟩ := hrel
    by_cases hlt : k < p.flows.length
    · have hx := List.getElem?_eq_getElem hlt
      have hokx := HOK.out _ (List.getElem_mem hlt)
      obtain ⟨_, _, e, _, _, _, hr, _⟩ := HFL.out.ext hE
      simp only [Value.slice.injEq, true_and] at e
      obtain ⟨rfl, rfl⟩ := e
      obtain ⟨hnm, _, hstx, _, b, o, rfl, _, hb, c0, c1, c2, c3, _, _, hbn, v, hvx, c4, c5, c6, c7⟩ := hr k _ hx
      have htk := asksL_take (p := p) (i := 0) hx
      have hcut := fun j r => asks_cut (p := p) (j := j) (r := r) hx
      have hmem := fun r (h : r ∈ gthE [] 0 p.flows[k].body) => asksP_mem.2 ⟨k, _, r, hx, h, rfl⟩
      generalize p.flows[k] = x at *
      obtain ⟨hwf, hnd⟩ := ok_wf' hokx
      have hnames := gthE_names x.body 32 [] 0 hwf (fun r h => by simp at h)
      have hle := gthE_le x.body [] 0
      have hrefs := fun (W : World) (hE : Ext wr W) => refs_any x.body v W (hvx.ext hE) hbn (by omega)
      obtain ⟨va, vc, rfl, _⟩ := hvx.form
      have e1 : Ext wr (wr.alloc (.cells #[.string x.name, .int .u8 x.ty, .int .i64 x.st, .int .i64 x.df, .int .u8 x.body.op, .int .i64 x.body.n, .string x.body.name, .slice va x.body.args.length vc] 43)) := (Chg.refl _ _).alloc _
      have xb := heap_alloc_new wr (.cells #[.string x.name, .int .u8 x.ty, .int .i64 x.st, .int .i64 x.df, .int .u8 x.body.op, .int .i64 x.body.n, .string x.body.name, .slice va x.body.args.length vc] 43)
      have HR := Lib.hid hrefs
      have HTK := Lib.hid htk
      have HCUT := Lib.hid hcut
      have HN := Lib.hid hnames
      have HJ := Lib.hid hJs
      have HPRE := Lib.hid hpre
      have HMEM := Lib.hid hmem
      have hqk : (k : Int) < (p.flows.length : Int) := by omega
      clear hr hx hvx hrefs htk hcut hnames hJs hokx hwf hpre hmem
      gi_wp2
      refine ⟨trivial, (callsIn_wide.2 (HR.out _ e1)).mono ?_⟩
      rintro e w2 ⟨v2, rfl, hV, hE2⟩
      have E2 : Ext wr w2 := e1.trans hE2
      have xb2 := Ext.heap hE2 xb
      have HJ2 := Lib.hid (HAL.out _ _ _ HJ.out E2)
      have hE3 : Ext w w2 := hE.trans E2
      generalize hgl : gthE [] 0 x.body = L at *
      have hblk : L = [] ∨ ∃ g cur cap, v2 = .slice (some ⟨g, 0, none⟩) L.length cap ∧ w2.heap[g]? = some (.cells cur 78 (0, 0)) ∧ RowOf rfC 2 cur L := by
        by_cases hL : L = []
        · exact .inl hL
        · obtain ⟨a2, cap2, rfl⟩ := hV.form
          have hr0 := List.getElem?_eq_getElem (show 0 < L.length from List.length_pos_iff.2 hL)
          obtain ⟨g, rfl, _⟩ := hV.get hr0
          obtain ⟨cur, h1, _, h3, _⟩ := RowOf.own (r := []) rfC_len (by simpa [RfV] using hV)
          exact .inr ⟨g, cur, cap2, rfl, h1, h3⟩
      obtain ⟨a2, cap2, rfl⟩ := hV.form
      have hcells : L = [] ∨ ∃ g cur, a2 = some ⟨g, 0, none⟩ ∧ w2.heap[g]? = some (.cells cur 78 (0, 0)) ∧ RowOf rfC 2 cur L := by
        rcases hblk with h | ⟨g, cur, cap, e, h1, h2⟩
        · exact .inl h
        · simp only [Value.slice.injEq, true_and] at e
          exact .inr ⟨g, cur, e.1, h1, h2⟩
      clear hV hE2 E2 e1 HJ HR c0 c1 c2 c3 c4 c5 c6 c7 hblk xb
      have hLl : L.length ≤ 9000000000000000000 := by simp at hle; omega
      gi_wp2
      generalize hF : wr.heap.size = Fb at *
      clear hF
      obtain ⟨wo, rfl⟩ : ∃ wo : World, wo = wr := ⟨_, rfl⟩
      gi_loopw [24] (fun i wr => ∃ (j : Nat) (pr : List (AskS p)), j ≤ L.length ∧ i = .int .i64 j ∧ pr.map (·.1) = asksL p 0 (p.flows.take k) ++ (L.take j).map (askOf p k x) ∧ J pr wr ∧ Ext w wr ∧ wr.heap[Fb]? = some (.cells #[.string x.name, .int .u8 x.ty, .int .i64 x.st, .int .i64 x.df, .int .u8 x.body.op, .int .i64 x.body.n, .string x.body.name, .slice va x.body.args.length vc] 43 (0, 0)) ∧
          (L = [] ∨ ∃ g cur, a2 = some ⟨g, 0, none⟩ ∧ wr.heap[g]? = some (.cells cur 78 (0, 0)) ∧ RowOf rfC 2 cur L)) (fun i _ => L.length - (intOf i).toNat)
      case atStart => exact ⟨0, pre, Nat.zero_le _, rfl, by rw [HPRE.out]; simp, HJ2.out, hE3, xb2, hcells⟩
      case round =>
        clear hE3 hcells HJ2 hE HPRE xb2 pre
        obtain ⟨j, pr, hj, rfl, hpr, hJs, hE, xb, hcells⟩ := hrel
        by_cases hlt2 : j < L.length
        · have hr := List.getElem?_eq_getElem hlt2
          obtain ⟨g, cur, rfl, hcur, hrow⟩ : ∃ g cur, a2 = some ⟨g, 0, none⟩ ∧ wr.heap[g]? = some (.cells cur 78 (0, 0)) ∧ RowOf rfC 2 cur L := by
            rcases hcells with h | h
            · rw [h] at hlt2; simp at hlt2
            · exact h
          have hc0 := hrow j _ hr
          obtain ⟨rest, hrest⟩ := HCUT.out j _ hr
          have hmem := HMEM.out _ (List.getElem_mem hlt2)
          have htj : (L.take (j + 1)).map (askOf p k x) = (L.take j).map (askOf p k x) ++ [askOf p k x L[j]] := by rw [List.take_add_one, hr, List.map_append]; rfl
          have hsz := HN.out _ (List.getElem_mem hlt2)
          generalize L[j] = r at *
          have c0 := (blk_cell hcur (j * 2)).trans (hc0 0 (by omega))
          have c1 := (blk_cell hcur (j * 2 + 1)).trans (hc0 1 (by omega))
          simp only [rfC, List.getElem?_cons_zero, List.getElem?_cons_succ] at c0 c1
          have hao := HAOK.out _ hmem
          have ha0 := hao.ago0
          have ha1 := hao.ago1
          rw [show (askOf p k x r).ref = r from rfl] at ha0 ha1
          have hq : (j : Int) < (L.length : Int) := by omega
          have e1 : Ext wr (wr.alloc (.cells #[.string r.1, .int .i64 r.2] 78)) := (Chg.refl _ _).alloc _
          have rb := heap_alloc_new wr (.cells #[.string r.1, .int .i64 r.2] 78)
          have HFx := Lib.hid (HFd.out r.1 _ (hE.trans e1))
          have HPR := Lib.hid hpr
          have HREST := Lib.hid hrest
          have HTJ := Lib.hid htj
          have HMM := Lib.hid hmem
          have y0 := b0 _ (hE.trans e1)
          have y1 := b1 _ (hE.trans e1)
          have y2 := b2 _ (hE.trans e1)
          have y3 := b3 _ (hE.trans e1)
          clear hc0 hr hpr hrest htj hmem hao
          unfold RetFind fourV at HFx
          have hask : askOf p k x r = ⟨k, (findP r.1 p.flows p.ins).2.2.1, if (findP r.1 p.flows p.ins).1 = x.st then -r.2 else -r.2 + 1, r⟩ := rfl
          have HASK := Lib.hid hask
          clear hask
          generalize findP r.1 p.flows p.ins = fq at *
          obtain ⟨fa, fb, fc, fd⟩ := fq
          simp only at HFx HASK
          gi_wp2
          refine ⟨trivial, (callsIn_wide.2 HFx.out).mono ?_⟩
          rintro e w3 ⟨rfl, E3⟩
          have F3 := e1.trans E3
          have rb3 := Ext.heap E3 rb
          have xb3 := Ext.heap F3 xb
          clear rb E3 e1 y0 y1 y2 y3 HFx
          have r0 := blk_cell rb3 0
          have r1 := blk_cell rb3 1
          have x2 := blk_cell xb3 2
          simp only [List.getElem?_toArray, List.getElem?_cons_zero, List.getElem?_cons_succ] at r0 r1 x2
          have HLEN : Hid (pr.length < (asksP p).length) := by
            have := congrArg List.length HPR.out
            have h2 := congrArg List.length HREST.out
            simp only [List.length_append, List.length_map, List.length_cons] at this h2
            show _ < _
            omega
          have x2 := (blk_cell (Ext.heap ((Chg.refl (fun _ => False) w3).alloc (.cells #[.int .i64 k, .int .i64 fc, .int .i64 (-r.2), .string r.1, .int .i64 r.2] 80)) xb3) 2).trans rfl
          simp only [List.getElem?_toArray, List.getElem?_cons_zero, List.getElem?_cons_succ] at x2
          by_cases hs : fa = x.st
          · have bs : (fa != x.st) = false := by simp [hs]
            have hask := HASK.out
            rw [if_pos hs] at hask
            have E4 : Ext w3 (w3.alloc (.cells #[.int .i64 k, .int .i64 fc, .int .i64 (-r.2), .string r.1, .int .i64 r.2] 80)) := (Chg.refl _ _).alloc _
            have F4 := F3.trans E4
            have G4 := hE.trans F4
            have xb4 := Ext.heap F4 xb
            have hcur4 := Ext.heap F4 hcur
            have hJ4 := HAL.out _ _ _ hJs F4
            obtain ⟨fn, tmps, assign, body, hy, hR⟩ := HY.out pr ⟨askOf p k x r, HMM.out⟩ _ hJ4 HLEN.out
            simp only [askC, askV] at hy
            rw [hask] at hy
            simp only at hy
            clear hask hs hJs E4 F4 F3 xb xb3 rb3 hcur
            gi_wp2
            refine hR.mono ?_
            rintro e W3 (⟨rfl, hJ3, hk3⟩ | ⟨rfl, hJx3⟩)
            · have hE3 : Ext w W3 := Ext.of_below ((Ext.below G4).trans hk3.below)
              have H4 := Lib.hid hJ3
              have H6 := Lib.hid (hk3.cells _ _ _ _ xb4 (by decide) (by decide))
              have H7 := Lib.hid (hk3.cells _ _ _ _ hcur4 (by decide) (by decide))
              clear hJ3 hk3 hy hR hJ4 G4 xb4 hcur4 hE r0 r1 x2
              gi_wp2
              go_roundw
              case rel => exact ⟨j + 1, pr ++ [⟨askOf p k x r, HMM.out⟩], by omega, by go_num, by rw [List.map_append, HPR.out, HTJ.out, List.append_assoc]; rfl, H4.out, hE3, H6.out, .inr ⟨g, cur, rfl, H7.out, hrow⟩⟩
              case measure => simp [intOf]; omega
            · have H4 := Lib.hid hJx3
              clear hJx3 hy hR hJ4 G4 xb4 hcur4 hE r0 r1 x2
              gi_wp2
              refine bodyPost_ret (results_none rfl _ _ _) rfl ?_
              exact ⟨⟨_, rfl⟩, .inr ⟨_, by rw [List.map_append, HPR.out]; exact pre_more HREST.out, H4.out⟩⟩
          · have bs : (fa != x.st) = true := by simp [hs]
            have hask := HASK.out
            rw [if_neg hs] at hask
            have E4 : Ext w3 (w3.alloc (.cells #[.int .i64 k, .int .i64 fc, .int .i64 (-r.2 + 1), .string r.1, .int .i64 r.2] 80)) := (Chg.refl _ _).alloc _
            have F4 := F3.trans E4
            have G4 := hE.trans F4
            have xb4 := Ext.heap F4 xb
            have hcur4 := Ext.heap F4 hcur
            have hJ4 := HAL.out _ _ _ hJs F4
            obtain ⟨fn, tmps, assign, body, hy, hR⟩ := HY.out pr ⟨askOf p k x r, HMM.out⟩ _ hJ4 HLEN.out
            simp only [askC, askV] at hy
            rw [hask] at hy
            simp only at hy
            clear hask hs hJs E4 F4 F3 xb xb3 rb3 hcur
            gi_wp2
            refine hR.mono ?_
            rintro e W3 (⟨rfl, hJ3, hk3⟩ | ⟨rfl, hJx3⟩)
            · have hE3 : Ext w W3 := Ext.of_below ((Ext.below G4).trans hk3.below)
              have H4 := Lib.hid hJ3
              have H6 := Lib.hid (hk3.cells _ _ _ _ xb4 (by decide) (by decide))
              have H7 := Lib.hid (hk3.cells _ _ _ _ hcur4 (by decide) (by decide))
              clear hJ3 hk3 hy hR hJ4 G4 xb4 hcur4 hE r0 r1 x2
              gi_wp2
              go_roundw
              case rel => exact ⟨j + 1, pr ++ [⟨askOf p k x r, HMM.out⟩], by omega, by go_num, by rw [List.map_append, HPR.out, HTJ.out, List.append_assoc]; rfl, H4.out, hE3, H6.out, .inr ⟨g, cur, rfl, H7.out, hrow⟩⟩
              case measure => simp [intOf]; omega
            · have H4 := Lib.hid hJx3
              clear hJx3 hy hR hJ4 G4 xb4 hcur4 hE r0 r1 x2
              gi_wp2
              refine bodyPost_ret (results_none rfl _ _ _) rfl ?_
              exact ⟨⟨_, rfl⟩, .inr ⟨_, by rw [List.map_append, HPR.out]; exact pre_more HREST.out, H4.out⟩⟩
        · obtain rfl : j = L.length := by omega
          have hfin : asksL p 0 (p.flows.take k) ++ (L.take L.length).map (askOf p k x) = asksL p 0 (p.flows.take (k + 1)) := by rw [HTK.out, List.take_length, asksOf, hgl, Nat.zero_add]
          rw [hfin] at hpr
          have H4 := Lib.hid hJs
          have H5 := Lib.hid hpr
          clear hJs hfin hcells hpr
          gi_wp2
          go_roundw
          case rel => exact ⟨k + 1, pr, by omega, by go_num, H5.out, H4.out, hE⟩
          case measure => simp [intOf]; omega
    · obtain rfl : k = p.flows.length := by omega
      rw [List.take_length] at hpre
      have H4 : Hid (J pre wr) := hJs
      have H5 : Hid (pre.map (·.1) = asksP p) := hpre
      clear hJs hpre
      gi_wp2
      go_end0
      exact ⟨⟨_, rfl⟩, .inl ⟨_, H5.out, H4.out⟩⟩
end Go.Proofs.YtgkbhonjodcakaaGreat
namespace Go.Proofs.YtgkbhonjodcakaaGreat
open Go.RowKit
set_option linter.unusedVariables false
set_option linter.unusedSimpArgs false

theorem lift_op {l n : Nat} {P : Program} {o : Oper} {a : Act} {w : World} {K : Act → World → Prop} {Q : Exit → Act → World → Prop} (hd : ∀ c, o.op ≠ .defer c) (h : o.wp P a w K Q) : o.wpIn (Fence.wide.inRound l) n P a w K Q := by
  refine ⟨fun _ _ => trivial, ?_⟩
  rw [Oper.semAt_eq _ _ _ hd]
  unfold Oper.wp at h
  generalize (execOp a.eval o).run P w = r at *
  cases r with
  | ok x w' =>
    cases x with
    | value v => exact h
    | skip => exact h
    | «defer» d => exact h
    | enter f args => exact ⟨fun h => by simp [Fence.wide] at h, CallsIn.inRound l (callsIn_wide.2 h)⟩
    | row row args => exact ⟨fun h => by simp [Fence.wide] at h, fun c cs _ => let ⟨v, w'', r, s⟩ := h c cs; ⟨v, w'', r, stepsIn_wide.2 s⟩⟩
    | round _ _ _ _ _ => exact h.elim
    | _ => exact h.elim
  | halt x w' => cases x <;> first | exact h | exact h.elim
def noDefer (ops : Array Oper) : Bool := ops.all fun o => match o.op with | .defer _ => false | _ => true
theorem noDefer_at {ops : Array Oper} (h : noDefer ops = true) {i : Nat} {o : Oper} (hi : ops[i]? = some o) : ∀ c, o.op ≠ .defer c := by
  intro c hc
  obtain ⟨hl, rfl⟩ := Array.getElem?_eq_some_iff.1 hi
  have := Array.all_eq_true.1 h i hl
  rw [hc] at this
  cases this
theorem lift_any {l n : Nat} {P : Program} {ops : Array Oper} {Q : Exit → Act → World → Prop} {S : World → Prop} (hnd : noDefer ops = true) (hq : ¬ LetsOut Q) : ∀ (fuel : Nat) (listed : Array Bool) (a : Act) (w : World),
    wpAnyH P .any ops Q S fuel listed a w → wpAnyIn (Fence.wide.inRound l) n P .any ops Q fuel listed a w
  | 0, _, _, _, h => h
  | fuel + 1, listed, a, w, h => ⟨h.1, fun i hi => by
    have h2 := h.2 i hi
    unfold wpOp at h2
    unfold wpOpIn
    cases ho : ops[i]? with
    | none =>
      rw [ho] at h2
      exact lift_any hnd hq fuel _ _ _ h2.2
    | some o =>
      rw [ho] at h2
      simp only at h2 ⊢
      split
      · rename_i hw
        rw [if_pos hw] at h2
        rcases h2 with h2 | h2
        · exact Oper.wpIn_mono (fun a' w' h' => lift_any hnd hq fuel _ _ _ h'.2) (lift_op (noDefer_at hnd ho) h2)
        · exact (hq h2.2).elim
      · rename_i hw
        rw [if_neg hw] at h2
        exact ⟨fun _ _ => trivial, lift_any hnd hq fuel _ _ _ h2.2⟩⟩
theorem region_lift {l n id : Nat} {P : Program} {ops : Array Oper} {Q : Exit → Act → World → Prop} {a : Act} {w : World} (S : World → Prop) (hm : P.follows .mixedOrders = true) (hnd : noDefer ops = true) (hq : ¬ LetsOut Q)
    (hS : S w.drew) (h : S w.drew → wpAnyH P .any ops Q S ops.size (Array.replicate ops.size false) a w.drew) : (Code.region id ops true).wpIn (Fence.wide.inRound l) n P Q a w :=
  wpIn_region_any hm (lift_any hnd hq _ _ _ _ (h hS))
end Go.Proofs.YtgkbhonjodcakaaGreat
namespace Go.Proofs.YtgkbhonjodcakaaGreat
open Go.RowKit Go.Shelf
attribute [local go_sem] Oper.semAt_some
set_option linter.unusedVariables false
set_option linter.unusedSimpArgs false

theorem pr_form {w : World} {lo : Nat} {t : Bool} {p : PrD} {cs : Array Value} (h : RdPr w lo t p cs) : ∃ ai ci af cf ao co, cs = #[.int .i64 p.st, .slice ai p.ins.length ci, .slice af p.flows.length cf, .slice ao p.outs.length co] := by
  obtain ⟨vi, vf, vo, rfl, _, hi, hf, ho⟩ := h
  obtain ⟨ai, ci, rfl, _⟩ := hi
  obtain ⟨af, cf, rfl, _⟩ := hf
  obtain ⟨ao, co, rfl, _⟩ := ho
  exact ⟨ai, ci, af, cf, ao, co, rfl⟩
theorem lateChk_not {p : PrD} {l : List Int} (h : namesP p ≠ 0 ∨ ¬ LsOk p l) : lateChk p l = false := by
  cases e : lateChk p l
  · rfl
  · unfold lateChk at e
    rw [Bool.and_eq_true, decide_eq_true_eq, fitsB_iff] at e
    exact (h.elim (fun h => h e.1) (fun h => h ⟨e.2.1, e.2.2.1⟩)).elim
theorem lateChk_miss {p : PrD} {l : List Int} {x : AskS p} (h : l.getD x.1.flow 0 < leastA l x.1) : lateChk p l = false := by
  cases e : lateChk p l
  · rfl
  · unfold lateChk at e
    rw [Bool.and_eq_true, decide_eq_true_eq, fitsB_iff] at e
    have := e.2.2.2 x.1 x.2
    omega
theorem lateChk_yes {p : PrD} {l : List Int} (h0 : namesP p = 0) (h1 : LsOk p l) (h : ∀ x, x ∈ asksP p → leastA l x ≤ l.getD x.flow 0) : lateChk p l = true := by
  unfold lateChk
  rw [Bool.and_eq_true, decide_eq_true_eq, fitsB_iff]
  exact ⟨h0, h1.1, h1.2, h⟩
/-- Between two rounds. -/
def LcI (p : PrD) (l : List Int) (w : World) (N0 : Nat) (v : Value) (pre : List (AskS p)) (W : World) : Prop := ((∀ x, x ∈ pre → leastA l x.1 ≤ l.getD x.1.flow 0) ∧ Boxed W (w.heap.size + 1) 29 v ∧ Boxed W (w.heap.size + 1 + 1) 4 (.bool false) ∧ N0 ≤ W.heap.size) ∧ Below w.heap.size w W
/-- A round has left: one does not fit. -/
def LcIx (p : PrD) (l : List Int) (w : World) (c : Code) (pre : List (AskS p)) (W : World) : Prop := (c = .ret ∧ lateChk p l = false ∧ Boxed W (w.heap.size + 1 + 1) 4 (.bool false)) ∧ Below w.heap.size w W
theorem LcI.own {p : PrD} {l : List Int} {w : World} {v : Value} {N N0 : Nat} (hN : w.heap.size ≤ N) : OwnFrom N (LcI p l w N0 v) := by
  refine OwnFrom.and (fun s X Y row hs hg hr => ?_) (ownFrom_below (Nat.le_refl _) hN)
  obtain ⟨h1, h2, h3, h4⟩ := hs
  exact ⟨h1, bkept h2 hg hr, bkept h3 hg hr, Nat.le_trans h4 hg.size⟩
theorem LcIx.own {p : PrD} {l : List Int} {w : World} {N : Nat} (hN : w.heap.size ≤ N) (c : Code) : OwnFrom N (LcIx p l w c) := by
  refine OwnFrom.and (fun s X Y row hs hg hr => ?_) (ownFrom_below (Nat.le_refl _) hN)
  obtain ⟨h1, h2, h3⟩ := hs
  exact ⟨h1, h2, bkept h3 hg hr⟩
theorem res_lc {W : World} {tmps : Array Value} {b : Nat} {v : Value} (hc : W.cell? ⟨b, 0, none⟩ = some v) (h : tmps[4]?.getD undef = .pointer (some ⟨b, 0, none⟩)) : (results Tryz.f26 tmps).run Tryz.prog W = .ok v W := by
  simp [results, Tryz.results26, go_sem, h, hc]
theorem lc_leave {w W : World} {D : Nat} {b B : Bool} {tmps : Array Value} (hd : W.heap[D]? = some (.deferred (some []))) (hDw : w.heap.size ≤ D) (rb : Boxed W (w.heap.size + 1 + 1) 4 (.bool b)) (hE : Below w.heap.size w W) (hn : B = b)
    (ht : tmps[4]?.getD undef = .pointer (some ⟨w.heap.size + 1 + 1, 0, none⟩)) : LeavesInM Fence.wide 8 Tryz.prog Tryz.f26 tmps (RetV B w) [{ target := .collected D, args := #[] }] .returning W := by
  have hne : w.heap.size + 1 + 1 ≠ D := fun e => by rw [← e, rb] at hd; cases hd
  have rb1 : Boxed (W.putObj D (.deferred none)) (w.heap.size + 1 + 1) 4 (.bool b) := put_heap rb hne
  refine ⟨by simp, .inl ⟨_, _, rfl, run_takeDeferred hd, ?_⟩⟩
  exact ⟨_, res_lc rb1.cell ht, by rw [hn], Ext.of_below (hE.trans (belowK_b (w := w) (Nat.le_refl _) W D _ _ hDw hd rfl rfl))⟩
theorem keepsFrom_ext {W X : World} (h : Ext W X) (B : Nat) : KeepsFrom B W X := ⟨h.size, fun k o _ hk _ => Ext.heap h hk⟩
set_option maxRecDepth 100000 in
set_option maxHeartbeats 8000000 in
theorem lateChk_any (p : PrD) (cs : Array Value) (l : List Int) (v : Value) (w : World) (h : RdPr w 0 false p cs) (hl : RdIntV w 0 false l v) : Calls Tryz.prog 26 #[.agg cs, v] w (RetV (lateChk p l) w) := by
  have HP := Lib.hid h
  have HL := Lib.hid hl
  obtain ⟨ai, ci, af, cf, ao, co, rfl⟩ := pr_form h
  obtain ⟨la, lc, rfl, hlf, _⟩ := hl.form
  unfold fitsR at hlf
  clear h hl
  have e0 : Ext w (((w.alloc (.cells #[.int .i64 p.st, .slice ai p.ins.length ci, .slice af p.flows.length cf, .slice ao p.outs.length co] 26)).alloc (.cells #[.slice la l.length lc] 29)).alloc (.cells #[.bool false] 4)) := (((Chg.refl _ _).alloc _).alloc _).alloc _
  have xb := Ext.heap (((Chg.refl _ _).alloc (.cells #[.slice la l.length lc] 29)).alloc (.cells #[.bool false] 4)) (heap_alloc_new w (.cells #[.int .i64 p.st, .slice ai p.ins.length ci, .slice af p.flows.length cf, .slice ao p.outs.length co] 26))
  have lb := Ext.heap ((Chg.refl _ _).alloc (.cells #[.bool false] 4)) (heap_alloc_new (w.alloc (.cells #[.int .i64 p.st, .slice ai p.ins.length ci, .slice af p.flows.length cf, .slice ao p.outs.length co] 26)) (.cells #[.slice la l.length lc] 29))
  have rb := heap_alloc_new ((w.alloc (.cells #[.int .i64 p.st, .slice ai p.ins.length ci, .slice af p.flows.length cf, .slice ao p.outs.length co] 26)).alloc (.cells #[.slice la l.length lc] 29)) (.cells #[.bool false] 4)
  simp only [World.size_alloc] at lb rb
  refine (callsIn_wide (n := 8)).1 ?_
  refine callsIn_of_wp_marks Tryz.func26 rfl trivial ?_ rfl
  simp only [Tryz.ntmps26, List.size_toArray, List.length_cons, List.length_nil, Nat.reduceAdd, Nat.reduceSub, Array.replicate_succ, Array.replicate_zero, List.push_toArray, List.append_toArray, List.nil_append, List.cons_append]
  have y0 := fun (X : World) (hX : Ext (((w.alloc (.cells #[.int .i64 p.st, .slice ai p.ins.length ci, .slice af p.flows.length cf, .slice ao p.outs.length co] 26)).alloc (.cells #[.slice la l.length lc] 29)).alloc (.cells #[.bool false] 4)) X) => (blk_cell (Ext.heap hX xb) 0).trans rfl
  gi_wp2
  generalize (((w.alloc (.cells #[.int .i64 p.st, .slice ai p.ins.length ci, .slice af p.flows.length cf, .slice ao p.outs.length co] 26)).alloc (.cells #[.slice la l.length lc] 29)).alloc (.cells #[.bool false] 4)) = W0 at *
  refine ⟨trivial, (callsIn_wide.2 (nCheck_any p _ _ (HP.out.ext e0))).mono ?_⟩
  rintro e w1 ⟨rfl, E1⟩
  have F1 := e0.trans E1
  have xb1 := Ext.heap E1 xb
  have lb1 := Ext.heap E1 lb
  have rb1 : Boxed w1 (w.heap.size + 1 + 1) 4 (.bool false) := Ext.heap E1 rb
  clear y0 xb lb rb E1 e0
  have y0 : ∀ X, Ext w1 X → X.cell? ⟨w.heap.size, 0, none⟩ = some (.int .i64 p.st) := fun X hX => (blk_cell (Ext.heap hX xb1) 0).trans rfl
  have y1 : ∀ X, Ext w1 X → X.cell? ⟨w.heap.size, 1, none⟩ = some (.slice ai p.ins.length ci) := fun X hX => (blk_cell (Ext.heap hX xb1) 1).trans rfl
  have y2 : ∀ X, Ext w1 X → X.cell? ⟨w.heap.size, 2, none⟩ = some (.slice af p.flows.length cf) := fun X hX => (blk_cell (Ext.heap hX xb1) 2).trans rfl
  have y3 : ∀ X, Ext w1 X → X.cell? ⟨w.heap.size, 3, none⟩ = some (.slice ao p.outs.length co) := fun X hX => (blk_cell (Ext.heap hX xb1) 3).trans rfl
  have yl : ∀ X, Ext w1 X → X.cell? ⟨w.heap.size + 1, 0, none⟩ = some (.slice la l.length lc) := fun X hX => (blk_cell (Ext.heap hX lb1) 0).trans rfl
  have er : Ext w1 w1 := Chg.refl _ _
  have r0 := rb1.cell
  have g0 := rb1.frozen
  by_cases hn : namesP p = 0
  case neg =>
    have bn : (namesP p != 0) = true := by simp [hn]
    have HF := Lib.hid (lateChk_not (p := p) (l := l) (.inl hn))
    have rb2 := Boxed.set (.bool false) rb1
    have HB := Lib.hid rb2.cell
    generalize namesP p = np at *
    clear rb2 rb1
    gi_wp2
    refine ⟨trivial, ?_⟩
    gi_wp2
    exact ⟨_, res_lc HB.out rfl, by rw [HF.out], F1.setCell _ _ (.inr (by show _ ≤ w.heap.size + 1 + 1; omega))⟩
  have HN := Lib.hid hn
  have bn : (namesP p != 0) = false := by simp [hn]
  clear hn
  generalize namesP p = np at bn ⊢
  by_cases hlen : l.length = p.flows.length
  case neg =>
    have bl : ((l.length : Int) != (p.flows.length : Int)) = true := by simp; omega
    have HF := Lib.hid (lateChk_not (p := p) (l := l) (.inr (fun h => hlen h.1)))
    have rb2 := Boxed.set (.bool false) rb1
    have HB := Lib.hid rb2.cell
    clear rb2 rb1
    gi_wp2
    refine ⟨trivial, ?_⟩
    gi_wp2
    exact ⟨_, res_lc HB.out rfl, by rw [HF.out], F1.setCell _ _ (.inr (by show _ ≤ w.heap.size + 1 + 1; omega))⟩
  have bl : ((l.length : Int) != (p.flows.length : Int)) = false := by simp; omega
  have HLEN := Lib.hid hlen
  clear hlen
  have HBAD := Lib.hid (hasN_any l _ w1 (HL.out.ext F1))
  gi_wp2
  refine ⟨trivial, (callsIn_wide.2 HBAD.out).mono ?_⟩
  rintro e w2 ⟨he, E2⟩
  have F2 := F1.trans E2
  have rb2 : Boxed w2 (w.heap.size + 1 + 1) 4 (.bool false) := Ext.heap E2 rb1
  have lb2 : Boxed w2 (w.heap.size + 1) 29 (.slice la l.length lc) := Ext.heap E2 lb1
  have xb2 := Ext.heap E2 xb1
  have hw2 : w.heap.size + 1 + 1 < w2.heap.size := lt_of_block rb2
  clear y0 y1 y2 y3 yl r0 g0 rb1 lb1 xb1 F1 HBAD er
  have y0 := (blk_cell xb2 0).trans rfl
  have y1 := (blk_cell xb2 1).trans rfl
  have y2 := (blk_cell xb2 2).trans rfl
  have y3 := (blk_cell xb2 3).trans rfl
  simp only [List.getElem?_toArray, List.getElem?_cons_zero, List.getElem?_cons_succ] at y0 y1 y2 y3
  have yl := lb2.cell
  have r0 := rb2.cell
  have g0 := rb2.frozen
  cases hbad : l.any lateBad
  case true =>
    rw [hbad] at he
    subst he
    have HF := Lib.hid (lateChk_not (p := p) (l := l) (.inr (fun h => by rw [(lsOk_iff.1 h).2] at hbad; cases hbad)))
    have rb3 := Boxed.set (.bool false) rb2
    have HB := Lib.hid rb3.cell
    clear rb3 rb2 hbad
    gi_wp2
    exact ⟨_, res_lc HB.out rfl, by rw [HF.out], F2.setCell _ _ (.inr (by show _ ≤ w.heap.size + 1 + 1; omega))⟩
  rw [hbad] at he
  subst he
  have hok : LsOk p l := lsOk_iff.2 ⟨HLEN.out, hbad⟩
  have HOK := Lib.hid hok
  have hpr := names_prog HN.out
  have HPR := Lib.hid hpr
  clear hok hbad hpr
  gi_wp2
  refine ⟨trivial, (callsIn_wide.2 (askings_any _ _ _ _ _ _ rfl)).mono ?_⟩
  rintro e w' ⟨rfl, rfl⟩
  have E3 : Ext w2 (w2.alloc (.cells #[.int .i64 p.st, .slice ai p.ins.length ci, .slice af p.flows.length cf, .slice ao p.outs.length co] 26)) := (Chg.refl _ _).alloc _
  have F3 := F2.trans E3
  have pb := heap_alloc_new w2 (.cells #[.int .i64 p.st, .slice ai p.ins.length ci, .slice af p.flows.length cf, .slice ao p.outs.length co] 26)
  have rb3 : Boxed _ (w.heap.size + 1 + 1) 4 (.bool false) := Ext.heap E3 rb2
  have lb3 : Boxed _ (w.heap.size + 1) 29 (.slice la l.length lc) := Ext.heap E3 lb2
  have hs3 : (w2.alloc (.cells #[.int .i64 p.st, .slice ai p.ins.length ci, .slice af p.flows.length cf, .slice ao p.outs.length co] 26)).heap.size = w2.heap.size + 1 := by simp
  generalize (w2.alloc (.cells #[.int .i64 p.st, .slice ai p.ins.length ci, .slice af p.flows.length cf, .slice ao p.outs.length co] 26)) = W0 at *
  generalize hBs : w2.heap.size = Bs at *
  clear y0 y1 y2 y3 yl r0 g0 rb2 lb2 xb2 E3
  gi_wp2
  refine wpIn_rangeFunc_ownH rfl (by omega) (gf := 68) (lb := #[.pointer (some ⟨Bs, 0, none⟩)]) rfl trivial (enters_of Tryz.func68 (by kernel_rfl) rfl)
    (askings_iter 7 (by omega) Bs p W0 _ (HP.out.ext F3) HPR.out pb) kpT_t (fun W l o o' hl => kpT_b (Nat.le_refl _) W l o o' hl) (Below.refl _ _) (fun _ => rfl)
    (LcI p l w W0.heap.size (.slice la l.length lc)) (LcIx p l w) (LcI.own (by omega)) (LcIx.own (by omega)) ⟨⟨fun x h => by simp at h, lb3, rb3, Nat.le_refl _⟩, Ext.below F3⟩
    (fun x a' W => ∃ Bx, W0.heap.size ≤ Bx ∧ W.heap[Bx]? = some (.cells #[.int .i64 x.1.flow, .int .i64 x.1.src, .int .i64 x.1.more, .string x.1.ref.1, .int .i64 x.1.ref.2] 80 (0, 0)) ∧ W0.heap.size ≤ W.heap.size ∧ a' = { tmps := #[.agg #[.int .i64 p.st, .slice ai p.ins.length ci, .slice af p.flows.length cf, .slice ao p.outs.length co], .slice la l.length lc, .pointer (some ⟨w.heap.size, 0, none⟩), .pointer (some ⟨w.heap.size + 1, 0, none⟩), .pointer (some ⟨w.heap.size + 1 + 1, 0, none⟩), .pointer (some ⟨Bx, 0, none⟩), .agg #[.int .i64 p.st, .slice ai p.ins.length ci, .slice af p.flows.length cf, .slice ao p.outs.length co], .int .i64 np, .bool false, .bool false, .slice la l.length lc, .int .i64 l.length, .pointer (some ⟨w.heap.size, 2, none⟩), .slice af p.flows.length cf, .int .i64 p.flows.length, .bool false, .bool false, .bool false, .slice la l.length lc, .bool false, .bool false, .agg #[.int .i64 p.st, .slice ai p.ins.length ci, .slice af p.flows.length cf, .slice ao p.outs.length co], .func (.func 68) #[] #[.pointer (some ⟨Bs, 0, none⟩)], askV x.1, undef, undef, undef, undef, undef, undef, undef, undef, undef], defers := [] })
    (fun x a' _ X Y row hs hg hr => by obtain ⟨Bx, h1, h2, h3, h4⟩ := hs; exact ⟨Bx, h1, blkept h2 hg hr, by have := hg.size; omega, h4⟩)
    ?assign ?body ?done ?stop
  case assign =>
    rintro l0 pre x W K ⟨⟨h1, h2, h3, hws⟩, hB⟩ hK
    simp only [askC, askV]
    gi_wp2
    have E : Ext W (W.alloc (.cells #[.int .i64 x.1.flow, .int .i64 x.1.src, .int .i64 x.1.more, .string x.1.ref.1, .int .i64 x.1.ref.2] 80)) := (Chg.refl _ _).alloc _
    exact hK _ _ ((KeepsOthers.alloc _ _).from _) (Ext.kpT E hws) ⟨⟨h1, h2.alloc _, h3.alloc _, by simp; omega⟩, hB.alloc hB.size _⟩ ⟨W.heap.size, hws, World.alloc_heap_new W _, by simp; omega, rfl⟩
  case body =>
    rintro l0 pre x a' W hl0 ⟨r, hr⟩ ⟨⟨h1, h2, h3, hws⟩, hB⟩ ⟨Bx, hBx, bX, hWs, rfl⟩ hlt
    have hao := ask_ok HPR.out x.2
    have HMISS := Lib.hid (fun (h : l.getD x.1.flow 0 < leastA l x.1) => lateChk_miss (x := x) h)
    have hEw : Ext w W := Ext.of_below hB
    have hfl : x.1.flow < l.length := by have := hao.flow; have := HLEN.out; omega
    have hfi : (x.1.flow : Int) < (l.length : Int) := by omega
    have hx := List.getElem?_eq_getElem hfl
    have hgd : l.getD x.1.flow 0 = l[x.1.flow] := by rw [List.getD_eq_getElem?_getD, hx]; rfl
    rw [hgd] at HMISS
    have HGD := Lib.hid hgd
    obtain ⟨hu64, b2, o2, rfl, _, _, cu⟩ := (HL.out.ext hEw).get hx
    have HLS := Lib.hid (fun (X : World) (hX : Ext W X) => askLeast_any p x.1 l _ X hao (HL.out.ext (hEw.trans hX)) HOK.out)
    have hu : ∀ X, Ext W X → X.cell? ⟨b2, o2 + x.1.flow, none⟩ = some (.int .i64 l[x.1.flow]) := fun X hX => Ext.cell hX cu
    have hx0 : ∀ X, Ext W X → X.cell? ⟨Bx, 0, none⟩ = some (.int .i64 x.1.flow) := fun X hX => (blk_cell (Ext.heap hX bX) 0).trans rfl
    have hx1 : ∀ X, Ext W X → X.cell? ⟨Bx, 1, none⟩ = some (.int .i64 x.1.src) := fun X hX => (blk_cell (Ext.heap hX bX) 1).trans rfl
    have hx2 : ∀ X, Ext W X → X.cell? ⟨Bx, 2, none⟩ = some (.int .i64 x.1.more) := fun X hX => (blk_cell (Ext.heap hX bX) 2).trans rfl
    have hx3 : ∀ X, Ext W X → X.cell? ⟨Bx, 3, none⟩ = some (.string x.1.ref.1) := fun X hX => (blk_cell (Ext.heap hX bX) 3).trans rfl
    have hx4 : ∀ X, Ext W X → X.cell? ⟨Bx, 4, none⟩ = some (.int .i64 x.1.ref.2) := fun X hX => (blk_cell (Ext.heap hX bX) 4).trans rfl
    have hyl : ∀ X, Ext W X → X.cell? ⟨w.heap.size + 1, 0, none⟩ = some (.slice (some ⟨b2, o2, none⟩) l.length lc) := fun X hX => (blk_cell (Ext.heap hX h2) 0).trans rfl
    have hr0 : ∀ X, Ext W X → X.cell? ⟨w.heap.size + 1 + 1, 0, none⟩ = some (.bool false) := fun X hX => (blk_cell (Ext.heap hX h3) 0).trans rfl
    have hg0 : ∀ X, Ext W X → X.frozen? ⟨w.heap.size + 1 + 1, 0, none⟩ = false := fun X hX => blk_free (Ext.heap hX h3) 0
    have hE0 : Ext W W := Chg.refl _ _
    have hEd : Ext W W.drew := (Chg.refl _ _).drew
    have HH1 := Lib.hid h1
    have HH2 := Lib.hid h2
    have HH3 := Lib.hid h3
    have hmx : Tryz.prog.follows .mixedOrders = true := by kernel_rfl
    unfold askV at HLS
    unfold RetE at HLS
    have hsq : 0 ≤ (x.1.flow : Int) := by omega
    clear hgd hx h1 h2 h3 bX cu hao
    generalize hm : leastA l x.1 = m at HLS HMISS
    have HM := Lib.hid hm
    clear hm
    generalize l[x.1.flow] = u at *
    generalize x.1.flow = fl at hu hx0 hfi hfl hsq HLS ⊢
    gi_wp2
    refine region_lift (fun X => Ext W X) (by kernel_rfl) (by kernel_rfl) (by rintro ⟨_, _, h⟩; exact h) hEd (fun hHeld => ?_)
    refine wpAnyH_take (i := 0) (oi := _) (v := ?_) rfl (by kernel_rfl) (by kernel_rfl) (by kernel_rfl) (fun _ _ _ h => h) (Or.inl ⟨by rfl, ?_⟩) (by assumption) ?_
    rotate_left
    · (intro X hSw; (try dsimp only at hSw); go_simp; try with_reducible rfl)
    try simp only [Act.put, List.setIfInBounds_toArray, List.set_cons_zero, List.set_cons_succ]
    refine wpAnyH_take (i := 1) (oi := _) (v := ?_) rfl (by kernel_rfl) (by kernel_rfl) (by kernel_rfl) (fun _ _ _ h => h) (Or.inl ⟨by rfl, ?_⟩) (by assumption) ?_
    rotate_left
    · (intro X hSw; (try dsimp only at hSw); go_simp; try with_reducible rfl)
    try simp only [Act.put, List.setIfInBounds_toArray, List.set_cons_zero, List.set_cons_succ]
    refine wpAnyH_take (i := 3) (oi := _) (v := ?_) rfl (by kernel_rfl) (by kernel_rfl) (by kernel_rfl) (fun _ _ _ h => h) (Or.inl ⟨by rfl, ?_⟩) (by assumption) ?_
    rotate_left
    · (intro X hSw; (try dsimp only at hSw); go_simp; try with_reducible rfl)
    try simp only [Act.put, List.setIfInBounds_toArray, List.set_cons_zero, List.set_cons_succ]
    refine wpAnyH_take (i := 4) (oi := _) (v := ?_) rfl (by kernel_rfl) (by kernel_rfl) (by kernel_rfl) (fun _ _ _ h => h) (Or.inl ⟨by rfl, ?_⟩) (by assumption) ?_
    rotate_left
    · (intro X hSw; (try dsimp only at hSw); go_simp; try with_reducible rfl)
    try simp only [Act.put, List.setIfInBounds_toArray, List.set_cons_zero, List.set_cons_succ]
    refine wpAnyH_take (i := 5) (oi := _) (v := ?_) rfl (by kernel_rfl) (by kernel_rfl) (by kernel_rfl) (fun _ _ _ h => h) (Or.inl ⟨by rfl, ?_⟩) (by assumption) ?_
    rotate_left
    · (intro X hSw; (try dsimp only at hSw); go_simp; try with_reducible rfl)
    try simp only [Act.put, List.setIfInBounds_toArray, List.set_cons_zero, List.set_cons_succ]
    refine wpAnyH_take (i := 6) (oi := _) (v := ?_) rfl (by kernel_rfl) (by kernel_rfl) (by kernel_rfl) (fun _ _ _ h => h) (Or.inl ⟨by rfl, ?_⟩) (by assumption) ?_
    rotate_left
    · (intro X hSw; (try dsimp only at hSw); go_simp; try with_reducible rfl)
    try simp only [Act.put, List.setIfInBounds_toArray, List.set_cons_zero, List.set_cons_succ]
    refine wpAnyH_take (i := 7) (oi := _) (v := ?_) rfl (by kernel_rfl) (by kernel_rfl) (by kernel_rfl) (fun _ _ _ h => h) (Or.inl ⟨by rfl, ?_⟩) (by assumption) ?_
    rotate_left
    · (intro X hSw; (try dsimp only at hSw); go_simp; try with_reducible rfl)
    try simp only [Act.put, List.setIfInBounds_toArray, List.set_cons_zero, List.set_cons_succ]
    refine wpAnyH_ready (rs := [2]) (by kernel_rfl) (by simp) ?_
    refine AllReadyH.cons (o := _) rfl (fun K hK => ?_) AllReadyH.nil
    go_simp
    refine (HLS.out _ hHeld).mono ?_
    rintro e W5 ⟨rfl, E5⟩
    have hE5 := hHeld.trans E5
    go_simp
    refine hK.out _ _ (by assumption) (fun hHeld2 => ?_)
    clear hK K hHeld2
    try simp only [Act.put, List.setIfInBounds_toArray, List.set_cons_zero, List.set_cons_succ]
    refine wpAnyH_take (i := 8) (oi := _) (v := ?_) rfl (by kernel_rfl) (by kernel_rfl) (by kernel_rfl) (fun _ _ _ h => h) (Or.inl ⟨by rfl, ?_⟩) (by assumption) ?_
    rotate_left
    · (intro X hSw; (try dsimp only at hSw); go_simp; try with_reducible rfl)
    try simp only [Act.put, List.setIfInBounds_toArray, List.set_cons_zero, List.set_cons_succ]
    refine wpAnyH_done (by kernel_rfl) ?_ _
    have hB5 : Below w.heap.size w W5 := Ext.below (hEw.trans hE5)
    have hKF : KeepsFrom W0.heap.size W W5 := keepsFrom_ext hE5 _
    have hKT := Ext.kpT hE5 hws
    have h25 : Boxed W5 (w.heap.size + 1) 29 (.slice (some ⟨b2, o2, none⟩) l.length lc) := Ext.heap hE5 HH2.out
    have h35 : Boxed W5 (w.heap.size + 1 + 1) 4 (.bool false) := Ext.heap hE5 HH3.out
    have hs5 := hE5.size
    by_cases hle : u < m
    · have hF := HMISS.out hle
      have HQ : Hid (KeepsFrom W0.heap.size W (W5.setCell ⟨w.heap.size + 1 + 1, 0, none⟩ (.bool false)) ∧ LcIx p l w .ret (pre ++ [x]) (W5.setCell ⟨w.heap.size + 1 + 1, 0, none⟩ (.bool false))) :=
        ⟨hKF.trans ((KeepsOthers.setCell _ _ _).from _), ⟨rfl, hF, Boxed.set _ h35⟩, hB5.setCell (p := ⟨w.heap.size + 1 + 1, 0, none⟩) (by show _ ≤ w.heap.size + 1 + 1; omega) _⟩
      clear hF hKF hKT h25 h35 hB5
      gi_wp2
      exact HQ.out
    · have HQ : Hid (KeepsFrom W0.heap.size W W5 ∧ KpT W0.heap.size W W5 ∧ LcI p l w W0.heap.size (.slice (some ⟨b2, o2, none⟩) l.length lc) (pre ++ [x]) W5) :=
        ⟨hKF, hKT, ⟨fun y hy => (List.mem_append.1 hy).elim (HH1.out y) (fun e => by rw [List.mem_singleton.1 e, HM.out, HGD.out]; omega), h25, h35, by omega⟩, hB5⟩
      clear hKF hKT h25 h35 hB5
      gi_wp2
      have HQ2 := HQ.out
      rw [hs3] at HQ2
      exact HQ2
  case done =>
    rintro D ys W hD hys ⟨⟨h1, h2, h3, _⟩, hB⟩ hK
    have HT := Lib.hid (lateChk_yes HN.out HOK.out (fun x hx => by
      rw [← hys] at hx
      obtain ⟨y, hy, rfl⟩ := List.mem_map.1 hx
      exact h1 y hy))
    have r0 := h3.cell
    have g0 := h3.frozen
    have rb6 := Boxed.set (.bool true) h3
    have hd6 := (KeepsOthers.setCell W ⟨w.heap.size + 1 + 1, 0, none⟩ (.bool true)).same D _ hK rfl
    have hB6 : Below w.heap.size w (W.setCell ⟨w.heap.size + 1 + 1, 0, none⟩ (.bool true)) := hB.setCell (p := ⟨w.heap.size + 1 + 1, 0, none⟩) (by show _ ≤ w.heap.size + 1 + 1; omega) _
    gi_wp2
    exact lc_leave hd6 (by omega) rb6 hB6 HT.out rfl
  case stop =>
    rintro D c pre W hD _ ⟨⟨rfl, h1, h2⟩, hB⟩ hK
    gi_wp2
    exact lc_leave hK (by omega) h2 hB h1 rfl
end Go.Proofs.YtgkbhonjodcakaaGreat
namespace Go.Proofs.YtgkbhonjodcakaaGreat
open Go.RowKit
set_option linter.unusedVariables false
set_option linter.unusedSimpArgs false

theorem pr_fl {w : World} {lo : Nat} {t : Bool} {p : PrD} {a b c d : Value} (h : RdPr w lo t p #[a, b, c, d]) : RdFlV w lo t p.flows c := by
  obtain ⟨vi, vf, vo, e, _, hi, hf, ho⟩ := h
  simp only [Array.mk.injEq, List.cons.injEq, and_true] at e
  obtain ⟨rfl, rfl, rfl, rfl⟩ := e
  exact hf
theorem RdFlV.at {w : World} {lo : Nat} {t : Bool} {l : List FlD} {a : Option Addr} {n cap : Nat} (h : RdFlV w lo t l (.slice a n cap)) {i : Nat} {x : FlD} (hx : l[i]? = some x) : x.name.size ≤ maxLen ∧ isU8 x.ty ∧ isI64 x.st ∧ isI64 x.df ∧ ∃ b o, a = some ⟨b, o, none⟩ ∧ lo ≤ b ∧ b < w.heap.size ∧ w.cell? ⟨b, o + i * 8, none⟩ = some (.string x.name) ∧
    w.cell? ⟨b, o + i * 8 + 1, none⟩ = some (.int .u8 x.ty) ∧ w.cell? ⟨b, o + i * 8 + 2, none⟩ = some (.int .i64 x.st) ∧ w.cell? ⟨b, o + i * 8 + 3, none⟩ = some (.int .i64 x.df) ∧
    isU8 x.body.op ∧ isI64 x.body.n ∧ x.body.name.size ≤ maxLen ∧ ∃ v, RdExV w lo t x.body.args v ∧ w.cell? ⟨b, o + i * 8 + 4, none⟩ = some (.int .u8 x.body.op) ∧ w.cell? ⟨b, o + i * 8 + 4 + 1, none⟩ = some (.int .i64 x.body.n) ∧
    w.cell? ⟨b, o + i * 8 + 4 + 2, none⟩ = some (.string x.body.name) ∧ w.cell? ⟨b, o + i * 8 + 4 + 3, none⟩ = some v := by
  obtain ⟨_, _, e, _, _, _, hr, _⟩ := h
  simp only [Value.slice.injEq] at e
  obtain ⟨rfl, _, _⟩ := e
  exact hr i x hx
end Go.Proofs.YtgkbhonjodcakaaGreat
