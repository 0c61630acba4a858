/- askings: what flows ask for, handed over one by one. -/
import Derived.Test.YtjdficgejjkaoaaAskW
import Derived.Test.YtjdficgejjkaoaaFindN
import Derived.Test.YtjdficgejjkaoaaRowF
namespace Go.Proofs.Ytjdficgejjkaoaa
open Go.RowKit Go.Shelf
attribute [local go_sem] Oper.semAt_some
set_option linter.unusedVariables false
set_option linter.unusedSimpArgs false

abbrev AskS (p : PrD) := {x : Ask // x ∈ asksP p}
def askC {p : PrD} (x : AskS p) : Array Value := #[askV x.1]
/-- What a round may write, while lists of one's own are read: nothing that lay, no cells but those of askings. -/
structure KpT (n0 : Nat) (A B : World) : Prop where
  below : Below n0 A B
  cells : ∀ (k : Nat) (cs : Array Value) (t : TypeId) (f : Nat × Nat), A.heap[k]? = some (.cells cs t f) → t ≠ 84 → t ≠ 92 → B.heap[k]? = some (.cells cs t f)
theorem kpT_t {n0 : Nat} {A B C : World} (h : KpT n0 A B) (k : KpT n0 B C) : KpT n0 A C := ⟨h.below.trans k.below, fun i cs t f h1 h2 h3 => k.cells i cs t f (h.cells i cs t f h1 h2 h3) h2 h3⟩
theorem kpT_b {n0 m : Nat} (hn : n0 ≤ m) (W : World) (l : Nat) (o o' : Obj) (hl : m ≤ l) (h : W.heap[l]? = some o) (hc : o.isCells = false) (hw : o.isWalk = false) : KpT n0 W (W.putObj l o') := by
  have hh : ∀ k, k ≠ l → (W.putObj l o').heap[k]? = W.heap[k]? := fun k hk => World.putObj_heap_other hk
  refine ⟨⟨rfl, rfl, rfl, by simp, fun k hk => hh k (by omega)⟩, fun k cs t f hk h2 h3 => ?_⟩
  rw [hh k (by rintro rfl; rw [h] at hk; cases hk; simp [Obj.isCells] at hc)]
  exact hk
theorem Ext.kpT {n0 : Nat} {A B : World} (h : Ext A B) (hn : n0 ≤ A.heap.size) : KpT n0 A B :=
  ⟨(Ext.below h).mono hn, fun k cs t f hk _ _ => Ext.heap h hk⟩
theorem askings_any (cs : Array Value) (a b c d : Value) (w : World) (h : cs = #[a, b, c, d]) : Calls Try.prog 35 #[.agg cs] w fun e w' =>
    e = .returned (.func (.func 64) #[] #[.pointer (some ⟨w.heap.size, 0, none⟩)]) ∧ w' = w.alloc (.cells cs 26) := by
  subst h
  go_enter Try.func35, Try.ntmps35
  go_wp2_with fail
  go_ret
  exact ⟨rfl, rfl⟩
theorem asksL_take {p : PrD} : ∀ {l : List FlD} {i k : Nat} {f : FlD}, l[k]? = some f → asksL p i (l.take (k + 1)) = asksL p i (l.take k) ++ asksOf p (i + k) f
  | [], i, k, f, h => by simp at h
  | x :: r, i, 0, f, h => by
    simp only [List.getElem?_cons_zero, Option.some.injEq] at h
    subst h
    simp [asksL]
  | x :: r, i, k + 1, f, h => by
    simp only [List.getElem?_cons_succ] at h
    rw [List.take_succ_cons, List.take_succ_cons, asksL, asksL, asksL_take h, List.append_assoc, show i + 1 + k = i + (k + 1) from by omega]
theorem asks_cut {p : PrD} {k j : Nat} {f : FlD} {r : Rf} (h : p.flows[k]? = some f) (hr : (gthE [] 0 f.body)[j]? = some r) :
    ∃ rest, asksP p = (asksL p 0 (p.flows.take k) ++ ((gthE [] 0 f.body).take j).map (askOf p k f)) ++ askOf p k f r :: rest := by
  have hk := (List.getElem?_eq_some_iff.1 h)
  obtain ⟨hk, he⟩ := hk
  have hj := (List.getElem?_eq_some_iff.1 hr)
  obtain ⟨hj, hje⟩ := hj
  have e1 : ∀ (l : List FlD) (i : Nat) (m : List FlD), asksL p i (l ++ m) = asksL p i l ++ asksL p (i + l.length) m := by
    intro l
    induction l with
    | nil => intro i m; simp [asksL]
    | cons x r ih => intro i m; rw [List.cons_append, asksL, ih, asksL, List.append_assoc, List.length_cons, show i + 1 + r.length = i + (r.length + 1) from by omega]
  have e2 : p.flows = p.flows.take k ++ f :: p.flows.drop (k + 1) := by
    rw [← he, ← List.drop_eq_getElem_cons hk, List.take_append_drop]
  have e3 : gthE [] 0 f.body = (gthE [] 0 f.body).take j ++ r :: (gthE [] 0 f.body).drop (j + 1) := by
    rw [← hje, ← List.drop_eq_getElem_cons hj, List.take_append_drop]
  refine ⟨((gthE [] 0 f.body).drop (j + 1)).map (askOf p k f) ++ asksL p (k + 1) (p.flows.drop (k + 1)), ?_⟩
  have e4 : asksP p = asksL p 0 (p.flows.take k) ++ asksL p k (f :: p.flows.drop (k + 1)) := by
    have := e1 (p.flows.take k) 0 (f :: p.flows.drop (k + 1))
    rw [← e2, Nat.zero_add, List.length_take, Nat.min_eq_left (by omega)] at this
    exact this
  have e5 : asksOf p k f = ((gthE [] 0 f.body).take j).map (askOf p k f) ++ askOf p k f r :: ((gthE [] 0 f.body).drop (j + 1)).map (askOf p k f) := by
    have := congrArg (List.map (askOf p k f)) e3
    rw [List.map_append, List.map_cons] at this
    exact this
  rw [e4, asksL, e5]
  simp
set_option maxRecDepth 100000 in
set_option maxHeartbeats 4000000 in
theorem askings_iter (n : Nat) (hn : 1 ≤ n) (Bs : Nat) (p : PrD) (w : World) (cs : Array Value) (hP : RdPr w 0 false p cs) (hok : progP p = true) (hB : w.heap[Bs]? = some (.cells cs 26 (0, 0))) :
    SeqStopsK Fence.wide n Try.prog 64 #[.pointer (some ⟨Bs, 0, none⟩)] (askC (p := p)) (KpT w.heap.size) (fun ys => ys.map (·.1) = asksP p) (fun pre => pre.map (·.1) <+: asksP p) (asksP p).length w := fun l J Jx W hW hJ hJx hY h0 => by
  have HP := Lib.hid hP
  obtain ⟨vi, vf, vo, rfl, hst, hi, hf, ho⟩ := hP
  obtain ⟨ai, ci, rfl, ri⟩ := hi
  obtain ⟨af, cf, rfl, rf⟩ := hf
  obtain ⟨ao, co, rfl, ro⟩ := ho
  have HFL := Lib.hid (show RdFlV w 0 false p.flows (.slice af p.flows.length cf) from ⟨_, _, rfl, rf⟩)
  have n2 : p.flows.length ≤ 9000000000000000000 := by have := rf.1; unfold fitsR at this; omega
  clear ri rf ro hst
  have hE0 : Ext w W := Ext.of_below hW
  have b0 : ∀ X, Ext w X → X.cell? ⟨Bs, 0, none⟩ = some (.int .i64 p.st) := fun X hX => (blk_cell (Ext.heap hX hB) 0).trans rfl
  have b1 : ∀ X, Ext w X → X.cell? ⟨Bs, 1, none⟩ = some (.slice ai p.ins.length ci) := fun X hX => (blk_cell (Ext.heap hX hB) 1).trans rfl
  have b2 : ∀ X, Ext w X → X.cell? ⟨Bs, 2, none⟩ = some (.slice af p.flows.length cf) := fun X hX => (blk_cell (Ext.heap hX hB) 2).trans rfl
  have b3 : ∀ X, Ext w X → X.cell? ⟨Bs, 3, none⟩ = some (.slice ao p.outs.length co) := fun X hX => (blk_cell (Ext.heap hX hB) 3).trans rfl
  have ed : ∀ X, Ext w X → Ext w X.drew := fun X hX => hX.drew
  have ea : ∀ X o, Ext w X → Ext w (X.alloc o) := fun X o hX => hX.alloc o
  have hal : ∀ (pre : List (AskS p)) (wr W' : World), J pre wr → Ext wr W' → J pre W' := fun pre wr W' h he => hJ pre wr W' none h (Ext.grown he) (fun r e => by cases e)
  have HOK := Lib.hid (prog_ok hok).2.2.2.1
  have HAOK := Lib.hid (fun x hx => ask_ok (p := p) hok (x := x) hx)
  have HAL := Lib.hid hal
  have HY := Lib.hid hY
  have HFd := Lib.hid (fun (s : ByteArray) (X : World) (hX : Ext w X) => find_any p s _ X (HP.out.ext hX))
  clear hok hal hY
  refine callsIn_of_wp Try.func64 rfl trivial ?_ rfl
  simp only [Try.ntmps64, List.size_toArray, List.length_cons, List.length_nil, Nat.reduceAdd, Nat.reduceSub, Array.replicate_succ, Array.replicate_zero, List.push_toArray, List.append_toArray, List.nil_append, List.cons_append]
  gi_wp2
  gi_loopw [15] (fun i wr => ∃ (k : Nat) (pre : List (AskS p)), k ≤ p.flows.length ∧ i = .int .i64 k ∧ pre.map (·.1) = asksL p 0 (p.flows.take k) ∧ J pre wr ∧ Ext w wr) (fun i _ => p.flows.length - (intOf i).toNat)
  case atStart => exact ⟨0, [], Nat.zero_le _, rfl, by simp [asksL], h0, hE0⟩
  case round =>
    obtain ⟨k, pre, hk, rfl, hpre, hJs, hE⟩ := hrel
    by_cases hlt : k < p.flows.length
    · have hx := List.getElem?_eq_getElem hlt
      have hokx := HOK.out _ (List.getElem_mem hlt)
      obtain ⟨_, _, e, _, _, _, hr, _⟩ := HFL.out.ext hE
      simp only [Value.slice.injEq, true_and] at e
      obtain ⟨rfl, rfl⟩ := e
      obtain ⟨hnm, _, hstx, _, b, o, rfl, _, hb, c0, c1, c2, c3, _, _, hbn, v, hvx, c4, c5, c6, c7⟩ := hr k _ hx
      have htk := asksL_take (p := p) (i := 0) hx
      have hcut := fun j r => asks_cut (p := p) (j := j) (r := r) hx
      have hmem := fun r (h : r ∈ gthE [] 0 p.flows[k].body) => asksP_mem.2 ⟨k, _, r, hx, h, rfl⟩
      generalize p.flows[k] = x at *
      obtain ⟨hwf, hnd⟩ := ok_wf' hokx
      have hnames := gthE_names x.body 32 [] 0 hwf (fun r h => by simp at h)
      have hle := gthE_le x.body [] 0
      have hrefs := fun (W : World) (hE : Ext wr W) => refs_any x.body v W (hvx.ext hE) hbn (by omega)
      obtain ⟨va, vc, rfl, _⟩ := hvx.form
      have e1 : Ext wr (wr.alloc (.cells #[.string x.name, .int .u8 x.ty, .int .i64 x.st, .int .i64 x.df, .int .u8 x.body.op, .int .i64 x.body.n, .string x.body.name, .slice va x.body.args.length vc] 55)) := (Chg.refl _ _).alloc _
      have xb := heap_alloc_new wr (.cells #[.string x.name, .int .u8 x.ty, .int .i64 x.st, .int .i64 x.df, .int .u8 x.body.op, .int .i64 x.body.n, .string x.body.name, .slice va x.body.args.length vc] 55)
      have HR := Lib.hid hrefs
      have HTK := Lib.hid htk
      have HCUT := Lib.hid hcut
      have HN := Lib.hid hnames
      have HJ := Lib.hid hJs
      have HPRE := Lib.hid hpre
      have HMEM := Lib.hid hmem
      have hqk : (k : Int) < (p.flows.length : Int) := by omega
      clear hr hx hvx hrefs htk hcut hnames hJs hokx hwf hpre hmem
      gi_wp2
      refine ⟨trivial, (callsIn_wide.2 (HR.out _ e1)).mono ?_⟩
      rintro e w2 ⟨v2, rfl, hV, hE2⟩
      have E2 : Ext wr w2 := e1.trans hE2
      have xb2 := Ext.heap hE2 xb
      have HJ2 := Lib.hid (HAL.out _ _ _ HJ.out E2)
      have hE3 : Ext w w2 := hE.trans E2
      generalize hgl : gthE [] 0 x.body = L at *
      have hblk : L = [] ∨ ∃ g cur cap, v2 = .slice (some ⟨g, 0, none⟩) L.length cap ∧ w2.heap[g]? = some (.cells cur 29 (0, 0)) ∧ RowOf rfC 2 cur L := by
        by_cases hL : L = []
        · exact .inl hL
        · obtain ⟨a2, cap2, rfl⟩ := hV.form
          have hr0 := List.getElem?_eq_getElem (show 0 < L.length from List.length_pos_iff.2 hL)
          obtain ⟨g, rfl, _⟩ := hV.get hr0
          obtain ⟨cur, h1, _, h3, _⟩ := RowOf.own (r := []) rfC_len (by simpa [RfV] using hV)
          exact .inr ⟨g, cur, cap2, rfl, h1, h3⟩
      obtain ⟨a2, cap2, rfl⟩ := hV.form
      have hcells : L = [] ∨ ∃ g cur, a2 = some ⟨g, 0, none⟩ ∧ w2.heap[g]? = some (.cells cur 29 (0, 0)) ∧ RowOf rfC 2 cur L := by
        rcases hblk with h | ⟨g, cur, cap, e, h1, h2⟩
        · exact .inl h
        · simp only [Value.slice.injEq, true_and] at e
          exact .inr ⟨g, cur, e.1, h1, h2⟩
      clear hV hE2 E2 e1 HJ HR c0 c1 c2 c3 c4 c5 c6 c7 hblk xb
      have hLl : L.length ≤ 9000000000000000000 := by simp at hle; omega
      gi_wp2
      generalize hF : wr.heap.size = Fb at *
      clear hF
      obtain ⟨wo, rfl⟩ : ∃ wo : World, wo = wr := ⟨_, rfl⟩
      gi_loopw [24] (fun i wr => ∃ (j : Nat) (pr : List (AskS p)), j ≤ L.length ∧ i = .int .i64 j ∧ pr.map (·.1) = asksL p 0 (p.flows.take k) ++ (L.take j).map (askOf p k x) ∧ J pr wr ∧ Ext w wr ∧ wr.heap[Fb]? = some (.cells #[.string x.name, .int .u8 x.ty, .int .i64 x.st, .int .i64 x.df, .int .u8 x.body.op, .int .i64 x.body.n, .string x.body.name, .slice va x.body.args.length vc] 55 (0, 0)) ∧
          (L = [] ∨ ∃ g cur, a2 = some ⟨g, 0, none⟩ ∧ wr.heap[g]? = some (.cells cur 29 (0, 0)) ∧ RowOf rfC 2 cur L)) (fun i _ => L.length - (intOf i).toNat)
      case atStart => exact ⟨0, pre, Nat.zero_le _, rfl, by rw [HPRE.out]; simp, HJ2.out, hE3, xb2, hcells⟩
      case round =>
        clear hE3 hcells HJ2 hE HPRE xb2 pre
        obtain ⟨j, pr, hj, rfl, hpr, hJs, hE, xb, hcells⟩ := hrel
        by_cases hlt2 : j < L.length
        · have hr := List.getElem?_eq_getElem hlt2
          obtain ⟨g, cur, rfl, hcur, hrow⟩ : ∃ g cur, a2 = some ⟨g, 0, none⟩ ∧ wr.heap[g]? = some (.cells cur 29 (0, 0)) ∧ RowOf rfC 2 cur L := by
            rcases hcells with h | h
            · rw [h] at hlt2; simp at hlt2
            · exact h
          have hc0 := hrow j _ hr
          obtain ⟨rest, hrest⟩ := HCUT.out j _ hr
          have hmem := HMEM.out _ (List.getElem_mem hlt2)
          have htj : (L.take (j + 1)).map (askOf p k x) = (L.take j).map (askOf p k x) ++ [askOf p k x L[j]] := by rw [List.take_add_one, hr, List.map_append]; rfl
          have hsz := HN.out _ (List.getElem_mem hlt2)
          generalize L[j] = r at *
          have c0 := (blk_cell hcur (j * 2)).trans (hc0 0 (by omega))
          have c1 := (blk_cell hcur (j * 2 + 1)).trans (hc0 1 (by omega))
          simp only [rfC, List.getElem?_cons_zero, List.getElem?_cons_succ] at c0 c1
          have hao := HAOK.out _ hmem
          have ha0 := hao.ago0
          have ha1 := hao.ago1
          rw [show (askOf p k x r).ref = r from rfl] at ha0 ha1
          have hq : (j : Int) < (L.length : Int) := by omega
          have e1 : Ext wr (wr.alloc (.cells #[.string r.1, .int .i64 r.2] 29)) := (Chg.refl _ _).alloc _
          have rb := heap_alloc_new wr (.cells #[.string r.1, .int .i64 r.2] 29)
          have HFx := Lib.hid (HFd.out r.1 _ (hE.trans e1))
          have HPR := Lib.hid hpr
          have HREST := Lib.hid hrest
          have HTJ := Lib.hid htj
          have HMM := Lib.hid hmem
          have y0 := b0 _ (hE.trans e1)
          have y1 := b1 _ (hE.trans e1)
          have y2 := b2 _ (hE.trans e1)
          have y3 := b3 _ (hE.trans e1)
          clear hc0 hr hpr hrest htj hmem hao
          unfold RetFind fourV at HFx
          have hask : askOf p k x r = ⟨k, (findP r.1 p.flows p.ins).2.2.1, if (findP r.1 p.flows p.ins).1 = x.st then -r.2 else -r.2 + 1, r⟩ := rfl
          have HASK := Lib.hid hask
          clear hask
          generalize findP r.1 p.flows p.ins = fq at *
          obtain ⟨fa, fb, fc, fd⟩ := fq
          simp only at HFx HASK
          gi_wp2
          refine ⟨trivial, (callsIn_wide.2 HFx.out).mono ?_⟩
          rintro e w3 ⟨rfl, E3⟩
          have F3 := e1.trans E3
          have rb3 := Ext.heap E3 rb
          have xb3 := Ext.heap F3 xb
          clear rb E3 e1 y0 y1 y2 y3 HFx
          have r0 := blk_cell rb3 0
          have r1 := blk_cell rb3 1
          have x2 := blk_cell xb3 2
          simp only [List.getElem?_toArray, List.getElem?_cons_zero, List.getElem?_cons_succ] at r0 r1 x2
          have HLEN : Hid (pr.length < (asksP p).length) := by
            have := congrArg List.length HPR.out
            have h2 := congrArg List.length HREST.out
            simp only [List.length_append, List.length_map, List.length_cons] at this h2
            show _ < _
            omega
          have x2 := (blk_cell (Ext.heap ((Chg.refl (fun _ => False) w3).alloc (.cells #[.int .i64 k, .int .i64 fc, .int .i64 (-r.2), .string r.1, .int .i64 r.2] 84)) xb3) 2).trans rfl
          simp only [List.getElem?_toArray, List.getElem?_cons_zero, List.getElem?_cons_succ] at x2
          by_cases hs : fa = x.st
          · have bs : (fa != x.st) = false := by simp [hs]
            have hask := HASK.out
            rw [if_pos hs] at hask
            have E4 : Ext w3 (w3.alloc (.cells #[.int .i64 k, .int .i64 fc, .int .i64 (-r.2), .string r.1, .int .i64 r.2] 84)) := (Chg.refl _ _).alloc _
            have F4 := F3.trans E4
            have G4 := hE.trans F4
            have xb4 := Ext.heap F4 xb
            have hcur4 := Ext.heap F4 hcur
            have hJ4 := HAL.out _ _ _ hJs F4
            obtain ⟨fn, tmps, assign, body, hy, hR⟩ := HY.out pr ⟨askOf p k x r, HMM.out⟩ _ hJ4 HLEN.out
            simp only [askC, askV] at hy
            rw [hask] at hy
            simp only at hy
            clear hask hs hJs E4 F4 F3 xb xb3 rb3 hcur
            gi_wp2
            refine hR.mono ?_
            rintro e W3 (⟨rfl, hJ3, hk3⟩ | ⟨rfl, hJx3⟩)
            · have hE3 : Ext w W3 := Ext.of_below ((Ext.below G4).trans hk3.below)
              have H4 := Lib.hid hJ3
              have H6 := Lib.hid (hk3.cells _ _ _ _ xb4 (by decide) (by decide))
              have H7 := Lib.hid (hk3.cells _ _ _ _ hcur4 (by decide) (by decide))
              clear hJ3 hk3 hy hR hJ4 G4 xb4 hcur4 hE r0 r1 x2
              gi_wp2
              go_roundw
              case rel => exact ⟨j + 1, pr ++ [⟨askOf p k x r, HMM.out⟩], by omega, by go_num, by rw [List.map_append, HPR.out, HTJ.out, List.append_assoc]; rfl, H4.out, hE3, H6.out, .inr ⟨g, cur, rfl, H7.out, hrow⟩⟩
              case measure => simp [intOf]; omega
            · have H4 := Lib.hid hJx3
              clear hJx3 hy hR hJ4 G4 xb4 hcur4 hE r0 r1 x2
              gi_wp2
              refine bodyPost_ret (results_none rfl _ _ _) rfl ?_
              exact ⟨⟨_, rfl⟩, .inr ⟨_, by rw [List.map_append, HPR.out]; exact pre_more HREST.out, H4.out⟩⟩
          · have bs : (fa != x.st) = true := by simp [hs]
            have hask := HASK.out
            rw [if_neg hs] at hask
            have E4 : Ext w3 (w3.alloc (.cells #[.int .i64 k, .int .i64 fc, .int .i64 (-r.2 + 1), .string r.1, .int .i64 r.2] 84)) := (Chg.refl _ _).alloc _
            have F4 := F3.trans E4
            have G4 := hE.trans F4
            have xb4 := Ext.heap F4 xb
            have hcur4 := Ext.heap F4 hcur
            have hJ4 := HAL.out _ _ _ hJs F4
            obtain ⟨fn, tmps, assign, body, hy, hR⟩ := HY.out pr ⟨askOf p k x r, HMM.out⟩ _ hJ4 HLEN.out
            simp only [askC, askV] at hy
            rw [hask] at hy
            simp only at hy
            clear hask hs hJs E4 F4 F3 xb xb3 rb3 hcur
            gi_wp2
            refine hR.mono ?_
            rintro e W3 (⟨rfl, hJ3, hk3⟩ | ⟨rfl, hJx3⟩)
            · have hE3 : Ext w W3 := Ext.of_below ((Ext.below G4).trans hk3.below)
              have H4 := Lib.hid hJ3
              have H6 := Lib.hid (hk3.cells _ _ _ _ xb4 (by decide) (by decide))
              have H7 := Lib.hid (hk3.cells _ _ _ _ hcur4 (by decide) (by decide))
              clear hJ3 hk3 hy hR hJ4 G4 xb4 hcur4 hE r0 r1 x2
              gi_wp2
              go_roundw
              case rel => exact ⟨j + 1, pr ++ [⟨askOf p k x r, HMM.out⟩], by omega, by go_num, by rw [List.map_append, HPR.out, HTJ.out, List.append_assoc]; rfl, H4.out, hE3, H6.out, .inr ⟨g, cur, rfl, H7.out, hrow⟩⟩
              case measure => simp [intOf]; omega
            · have H4 := Lib.hid hJx3
              clear hJx3 hy hR hJ4 G4 xb4 hcur4 hE r0 r1 x2
              gi_wp2
              refine bodyPost_ret (results_none rfl _ _ _) rfl ?_
              exact ⟨⟨_, rfl⟩, .inr ⟨_, by rw [List.map_append, HPR.out]; exact pre_more HREST.out, H4.out⟩⟩
        · obtain rfl : j = L.length := by omega
          have hfin : asksL p 0 (p.flows.take k) ++ (L.take L.length).map (askOf p k x) = asksL p 0 (p.flows.take (k + 1)) := by rw [HTK.out, List.take_length, asksOf, hgl, Nat.zero_add]
          rw [hfin] at hpr
          have H4 := Lib.hid hJs
          have H5 := Lib.hid hpr
          clear hJs hfin hcells hpr
          gi_wp2
          go_roundw
          case rel => exact ⟨k + 1, pr, by omega, by go_num, H5.out, H4.out, hE⟩
          case measure => simp [intOf]; omega
    · obtain rfl : k = p.flows.length := by omega
      rw [List.take_length] at hpre
      have H4 : Hid (J pre wr) := hJs
      have H5 : Hid (pre.map (·.1) = asksP p) := hpre
      clear hJs hpre
      gi_wp2
      go_end0
      exact ⟨⟨_, rfl⟩, .inl ⟨_, H5.out, H4.out⟩⟩
end Go.Proofs.Ytjdficgejjkaoaa
