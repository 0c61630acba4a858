/- The iterator over all names that are asked for. -/
import Derived.Test.YtjdficgejjkaoaaThingsC
import Derived.Test.YtjdficgejjkaoaaRefsW
import Derived.RangeFuncCalls
namespace Go.Proofs.Ytjdficgejjkaoaa
open Go.RowKit Go.Shelf
attribute [local go_sem] Oper.semAt_some
set_option linter.unusedVariables false
set_option linter.unusedSimpArgs false

theorem ok_wf' {x : Ex} (h : okE 32 200 x = true) : wfE 32 x = true ∧ nodesE x ≤ 200 := by
  obtain ⟨h1, h2⟩ := okE_iff.1 h
  exact ⟨h1, by omega⟩
/-- The names that are asked for. -/
def namesE (x : Ex) : List ByteArray := (gthE [] 0 x).map (·.1)
def namesF : List FlD → List ByteArray
  | [] => []
  | x :: r => namesE x.body ++ namesF r
def askedL (p : PrD) : List ByteArray := namesF p.flows ++ p.outs
theorem namesF_append : ∀ (l m : List FlD), namesF (l ++ m) = namesF l ++ namesF m
  | [], m => rfl
  | x :: r, m => by simp [namesF, namesF_append r m]
theorem namesF_take {l : List FlD} {k : Nat} {x : FlD} (h : l[k]? = some x) : namesF (l.take (k + 1)) = namesF (l.take k) ++ namesE x.body := by
  rw [List.take_add_one, h, namesF_append]
  simp [namesF]
theorem namesF_cut {l : List FlD} {k : Nat} {x : FlD} (h : l[k]? = some x) : namesF l = namesF (l.take k) ++ (namesE x.body ++ namesF (l.drop (k + 1))) := by
  obtain ⟨hk, rfl⟩ := List.getElem?_eq_some_iff.1 h
  have e : l = l.take k ++ l[k] :: l.drop (k + 1) := by rw [← List.drop_eq_getElem_cons hk, List.take_append_drop]
  have := congrArg namesF e
  rw [namesF_append] at this
  exact this
theorem asked_cut {p : PrD} {k j : Nat} {x : FlD} {r : Rf} (h : p.flows[k]? = some x) (hr : (gthE [] 0 x.body)[j]? = some r) :
    ∃ rest, askedL p = (namesF (p.flows.take k) ++ ((gthE [] 0 x.body).take j).map (·.1)) ++ r.1 :: rest := by
  obtain ⟨hj, e⟩ := List.getElem?_eq_some_iff.1 hr
  have e2 : namesE x.body = ((gthE [] 0 x.body).take j).map (·.1) ++ r.1 :: ((gthE [] 0 x.body).drop (j + 1)).map (·.1) := by
    have : gthE [] 0 x.body = (gthE [] 0 x.body).take j ++ r :: (gthE [] 0 x.body).drop (j + 1) := by rw [← e, ← List.drop_eq_getElem_cons hj, List.take_append_drop]
    have := congrArg (List.map (·.1)) this
    rw [List.map_append] at this
    exact this
  refine ⟨((gthE [] 0 x.body).drop (j + 1)).map (·.1) ++ (namesF (p.flows.drop (k + 1)) ++ p.outs), ?_⟩
  unfold askedL
  rw [namesF_cut h, e2]
  simp [List.append_assoc]
theorem asked_cut2 {p : PrD} {k : Nat} {s : ByteArray} (h : p.outs[k]? = some s) : ∃ rest, askedL p = (namesF p.flows ++ p.outs.take k) ++ s :: rest := by
  obtain ⟨hk, e⟩ := List.getElem?_eq_some_iff.1 h
  refine ⟨p.outs.drop (k + 1), ?_⟩
  unfold askedL
  rw [List.append_assoc, ← e, ← List.drop_eq_getElem_cons hk, List.take_append_drop]
theorem pre_len {α : Type} {l pre rest : List α} {x : α} (h : l = pre ++ x :: rest) : pre.length < l.length := by rw [h]; simp
theorem pre_more {α : Type} {l pre rest : List α} {x : α} (h : l = pre ++ x :: rest) : pre ++ [x] <+: l := ⟨rest, by rw [h]; simp⟩
theorem nameP_size {s : ByteArray} (h : nameP s = true) : s.size ≤ 40 := by
  simp only [nameP, Bool.and_eq_true, decide_eq_true_eq] at h
  exact h.1.1.2
mutual
theorem gthE_names : ∀ (x : Ex) (d : Nat) (l : List Rf) (ago : Int), wfE d x = true → (∀ r, r ∈ l → r.1.size ≤ 40) → ∀ r, r ∈ gthE l ago x → r.1.size ≤ 40
  | .mk op n nm args, 0, l, ago, hw, hl => by simp [wfE] at hw
  | .mk op n nm args, d + 1, l, ago, hw, hl => by
    simp only [wfE, Bool.and_eq_true] at hw
    simp only [gthE]
    refine gthL_names args d _ _ hw.2 (fun r hr => ?_)
    unfold stepR at hr
    split at hr
    · rename_i h3
      rcases List.mem_append.1 hr with h | h
      · exact hl r h
      · simp only [List.mem_cons, List.not_mem_nil, or_false] at h
        subst h
        have := hw.1.2
        rw [headP, if_neg (by rw [h3.1]; decide), if_neg (by rw [h3.1]; decide), if_pos h3.1, Bool.and_eq_true] at this
        exact nameP_size this.2
    · exact hl r hr
theorem gthL_names : ∀ (xs : List Ex) (d : Nat) (l : List Rf) (ago : Int), wfL d xs = true → (∀ r, r ∈ l → r.1.size ≤ 40) → ∀ r, r ∈ gthL l ago xs → r.1.size ≤ 40
  | [], d, l, ago, hw, hl => by simpa only [gthL] using hl
  | x :: r, d, l, ago, hw, hl => by
    simp only [wfL, Bool.and_eq_true] at hw
    simp only [gthL]
    exact gthL_names r d _ _ hw.2 (gthE_names x d l ago hw.1 hl)
end
/-- What a round may write, while lists of one's own are read: no cells, and nothing that lay. -/
structure KpA (n0 : Nat) (A B : World) : Prop where
  below : Below n0 A B
  cells : ∀ (k : Nat) (o : Obj), A.heap[k]? = some o → o.isCells = true → B.heap[k]? = some o
theorem kpA_t {n0 : Nat} {A B C : World} (h : KpA n0 A B) (k : KpA n0 B C) : KpA n0 A C := ⟨h.below.trans k.below, fun i o ho hc => k.cells i o (h.cells i o ho hc) hc⟩
theorem kpA_b {n0 : Nat} {w : World} (hn : n0 ≤ w.heap.size) (W : World) (l : Nat) (o o' : Obj) (hl : w.heap.size ≤ l) (h : W.heap[l]? = some o) (hc : o.isCells = false) (hw : o.isWalk = false) : KpA n0 W (W.putObj l o') :=
  ⟨belowK_b hn W l o o' hl h hc hw, fun k q hq hqc => ((grownBy_putObj' W l o').block k (Array.getElem?_eq_some_iff.1 hq).1 (fun e => by
    simp only [Option.some.injEq] at e
    subst e
    rw [h] at hq
    cases hq
    rw [hc] at hqc
    cases hqc)).trans hq⟩
theorem cells_of_cell {W : World} {a : Addr} {v : Value} (h : W.cell? a = some v) : ∃ o, W.heap[a.block]? = some o ∧ o.isCells = true := by
  unfold World.cell? at h
  split at h
  · rename_i hb
    exact ⟨_, hb, rfl⟩
  · cases h
theorem KpA.cell {n0 : Nat} {A B : World} (h : KpA n0 A B) {a : Addr} {v : Value} (hc : A.cell? a = some v) : B.cell? a = some v := by
  obtain ⟨o, ho, hoc⟩ := cells_of_cell hc
  exact (World.cell?_of_block (w := A) ((h.cells _ _ ho hoc).trans ho.symm)).trans hc
theorem Ext.kpA {n0 : Nat} {A B : World} (h : Ext A B) (hn : n0 ≤ A.heap.size) : KpA n0 A B := ⟨(Ext.below h).mono hn, fun k o ho _ => Ext.heap h ho⟩
theorem Ext.grown {w w1 : World} (h : Ext w w1) : w.grownBy w1 none := ⟨h.os, h.tape, h.output, h.size, fun k hk _ => h.block k hk (fun h => h)⟩
def nameC (s : ByteArray) : Array Value := #[.string (clipS s)]
theorem asked_any (cs : Array Value) (a b c d : Value) (w : World) (h : cs = #[a, b, c, d]) : Calls Try.prog 49 #[.agg cs] w fun e w' =>
    e = .returned (.func (.func 81) #[] #[.pointer (some ⟨w.heap.size, 0, none⟩)]) ∧ w' = w.alloc (.cells cs 26) := by
  subst h
  go_enter Try.func49, Try.ntmps49
  go_wp2_with fail
  go_ret
  exact ⟨rfl, rfl⟩
set_option maxRecDepth 100000 in
set_option maxHeartbeats 4000000 in
theorem asked_iter (n : Nat) (hn : 1 ≤ n) (Bs : Nat) (p : PrD) (w : World) (af ao : Option Addr) (cf co : Nat) (hfl : RdFlV w 0 false p.flows (.slice af p.flows.length cf)) (ho : RdStrV w 0 false p.outs (.slice ao p.outs.length co))
    (hok : ∀ x, x ∈ p.flows → okE 32 200 x.body = true) (hB : Bs < w.heap.size)
    (b2 : w.cell? ⟨Bs, 2, none⟩ = some (.slice af p.flows.length cf)) (b3 : w.cell? ⟨Bs, 3, none⟩ = some (.slice ao p.outs.length co)) :
    SeqStopsK Fence.wide n Try.prog 81 #[.pointer (some ⟨Bs, 0, none⟩)] nameC (KpA w.heap.size) (fun ys => ys = askedL p) (fun pre => pre <+: askedL p) (askedL p).length w := fun l J Jx W hW hJ hJx hY h0 => by
  have n2 : p.flows.length ≤ 9000000000000000000 := by obtain ⟨_, _, e, h, _⟩ := hfl; unfold fitsR at h; omega
  have n3 : p.outs.length ≤ 9000000000000000000 := by obtain ⟨_, _, e, h, _⟩ := ho; unfold fitsR at h; omega
  have hE0 : Ext w W := Ext.of_below hW
  have y1 := hE0.cell b2
  have hal : ∀ (pre : List ByteArray) (wr W' : World), J pre wr → Ext wr W' → J pre W' := fun pre wr W' h he => hJ pre wr W' none h (Ext.grown he) (fun r e => by cases e)
  have HOK := Lib.hid hok
  have HAL := Lib.hid hal
  have HFL := Lib.hid hfl
  have HO := Lib.hid ho
  clear hok hal hfl ho
  refine callsIn_of_wp Try.func81 rfl trivial ?_ rfl
  simp only [Try.ntmps81, List.size_toArray, List.length_cons, List.length_nil, Nat.reduceAdd, Nat.reduceSub, Array.replicate_succ, Array.replicate_zero, List.push_toArray, List.append_toArray, List.nil_append, List.cons_append]
  gi_wp2
  gi_loopw [12] (fun i wr => ∃ k : Nat, k ≤ p.flows.length ∧ i = .int .i64 k ∧ J (namesF (p.flows.take k)) wr ∧ Ext w wr) (fun i _ => p.flows.length - (intOf i).toNat)
  case atStart => exact ⟨0, Nat.zero_le _, rfl, h0, hE0⟩
  case round =>
    obtain ⟨k, hk, rfl, hJs, hE⟩ := hrel
    by_cases hlt : k < p.flows.length
    · have hx := List.getElem?_eq_getElem hlt
      have hokx := HOK.out _ (List.getElem_mem hlt)
      obtain ⟨_, _, e, _, _, _, hr, _⟩ := HFL.out.ext hE
      simp only [Value.slice.injEq, true_and] at e
      obtain ⟨rfl, rfl⟩ := e
      obtain ⟨hnm, _, _, _, b, o, rfl, _, hb, c0, c1, c2, c3, _, _, hbn, v, hvx, c4, c5, c6, c7⟩ := hr k _ hx
      have htk := namesF_take hx
      have hcut := fun j r => asked_cut (p := p) (j := j) (r := r) hx
      generalize p.flows[k] = x at *
      obtain ⟨hwf, hnd⟩ := ok_wf' hokx
      have hnames := gthE_names x.body 32 [] 0 hwf (fun r h => by simp at h)
      have hle := gthE_le x.body [] 0
      have hrefs := fun (W : World) (hE : Ext wr W) => refs_any x.body v W (hvx.ext hE) hbn (by omega)
      obtain ⟨va, vc, rfl, _⟩ := hvx.form
      have e1 : Ext wr (wr.alloc (.cells #[.string x.name, .int .u8 x.ty, .int .i64 x.st, .int .i64 x.df, .int .u8 x.body.op, .int .i64 x.body.n, .string x.body.name, .slice va x.body.args.length vc] 55)) := (Chg.refl _ _).alloc _
      have HR := Lib.hid hrefs
      have HTK := Lib.hid htk
      have HCUT := Lib.hid hcut
      have HN := Lib.hid hnames
      have HJ := Lib.hid hJs
      clear hr hx hvx hrefs htk hcut hnames hJs hokx hwf
      gi_wp2
      refine ⟨trivial, (callsIn_wide.2 (HR.out _ e1)).mono ?_⟩
      rintro e w2 ⟨v2, rfl, hV, hE2⟩
      have E2 : Ext wr w2 := e1.trans hE2
      have HJ2 := Lib.hid (HAL.out _ _ _ HJ.out E2)
      have hE3 : Ext w w2 := hE.trans E2
      generalize hgl : gthE [] 0 x.body = L at *
      obtain ⟨a2, cap2, rfl⟩ := hV.form
      have hcells : ∀ i r, L[i]? = some r → ∃ g, a2 = some ⟨g, 0, none⟩ ∧ w2.cell? ⟨g, i * 2, none⟩ = some (.string r.1) ∧ w2.cell? ⟨g, i * 2 + 1, none⟩ = some (.int .i64 r.2) := fun i r h => hV.get h
      clear hV hE2 E2 e1 HJ HR c0 c1 c2 c3 c4 c5 c6 c7
      have hLl : L.length ≤ 9000000000000000000 := by simp at hle; omega
      gi_wp2
      obtain ⟨wo, rfl⟩ : ∃ wo : World, wo = wr := ⟨_, rfl⟩
      have H3 : Hid (namesF (p.flows.take k) ++ (L.take 0).map (·.1) = namesF (p.flows.take k)) := by show _ = _; simp
      gi_loopw [20] (fun i wr => ∃ j : Nat, j ≤ L.length ∧ i = .int .i64 j ∧ J (namesF (p.flows.take k) ++ (L.take j).map (·.1)) wr ∧ Ext w wr ∧ ∀ i r, L[i]? = some r → ∃ g, a2 = some ⟨g, 0, none⟩ ∧ wr.cell? ⟨g, i * 2, none⟩ = some (.string r.1) ∧ wr.cell? ⟨g, i * 2 + 1, none⟩ = some (.int .i64 r.2)) (fun i _ => L.length - (intOf i).toNat)
      case atStart => exact ⟨0, Nat.zero_le _, rfl, by rw [H3.out]; exact HJ2.out, hE3, hcells⟩
      case round =>
        clear hE3 hcells HJ2 hE
        obtain ⟨j, hj, rfl, hJs, hE, hcells⟩ := hrel
        by_cases hlt2 : j < L.length
        · have hr := List.getElem?_eq_getElem hlt2
          obtain ⟨g, rfl, c0, c1⟩ := hcells _ _ hr
          obtain ⟨rest, hrest⟩ := HCUT.out j _ hr
          have hsz := HN.out _ (List.getElem_mem hlt2)
          have htj : (L.take (j + 1)).map (·.1) = (L.take j).map (·.1) ++ [L[j].1] := by rw [List.take_add_one, hr, List.map_append]; rfl
          generalize L[j] = r at *
          have hsz2 : r.1.size ≤ maxLen := by unfold maxLen; omega
          have HC := Lib.hid hcells
          have e1 : Ext wr (wr.alloc (.cells #[.string r.1, .int .i64 r.2] 29)) := (Chg.refl _ _).alloc _
          have hJ2 := HAL.out _ _ _ hJs e1
          obtain ⟨fn, tmps, assign, body, hy, hR⟩ := hY _ r.1 _ hJ2 (pre_len hrest)
          simp only [nameC] at hy
          rw [clipS_same hsz2] at hy
          have HREST := Lib.hid hrest
          have HTJ := Lib.hid htj
          clear hcells hr hrest htj hJs
          gi_wp2
          refine hR.mono ?_
          rintro e W3 (⟨rfl, hJ3, hk3⟩ | ⟨rfl, hJx3⟩)
          · have hE3 : Ext w W3 := Ext.of_below ((Ext.below (hE.trans e1)).trans hk3.below)
            rw [List.append_assoc, ← HTJ.out] at hJ3
            have H4 := Lib.hid hJ3
            have hc3 : ∀ i q, L[i]? = some q → ∃ g', some (⟨g, 0, none⟩ : Addr) = some ⟨g', 0, none⟩ ∧ W3.cell? ⟨g', i * 2, none⟩ = some (.string q.1) ∧ W3.cell? ⟨g', i * 2 + 1, none⟩ = some (.int .i64 q.2) := fun i q hq => by
              obtain ⟨g', hg', d0, d1⟩ := HC.out i q hq
              exact ⟨g', hg', hk3.cell (Ext.cell e1 d0), hk3.cell (Ext.cell e1 d1)⟩
            have H5 := Lib.hid hc3
            clear hJ3 hk3 hy hR hJ2 hE hc3 HC
            gi_wp2
            go_roundw
            case rel => exact ⟨j + 1, by omega, by go_num, H4.out, hE3, H5.out⟩
            case measure => simp [intOf]; omega
          · have H4 := Lib.hid hJx3
            clear hJx3 hy hR hJ2 hE
            gi_wp2
            refine bodyPost_ret (results_none rfl _ _ _) rfl ?_
            exact ⟨⟨_, rfl⟩, .inr ⟨_, pre_more HREST.out, H4.out⟩⟩
        · obtain rfl : j = L.length := by omega
          have hfin : namesF (p.flows.take k) ++ (L.take L.length).map (·.1) = namesF (p.flows.take (k + 1)) := by rw [HTK.out, List.take_length, namesE, hgl]
          rw [hfin] at hJs
          have H4 := Lib.hid hJs
          clear hJs hfin hcells
          gi_wp2
          go_roundw
          case rel => exact ⟨k + 1, by omega, by go_num, H4.out, hE⟩
          case measure => simp [intOf]; omega
    · obtain rfl : k = p.flows.length := by omega
      have y2 := hE.cell b3
      rw [List.take_length] at hJs
      have HJ := Lib.hid hJs
      have H3 : Hid (namesF p.flows ++ p.outs.take 0 = namesF p.flows) := by show _ = _; simp
      clear hJs
      gi_wp2
      obtain ⟨wo, rfl⟩ : ∃ wo : World, wo = wr := ⟨_, rfl⟩
      gi_loopw [34] (fun i wr => ∃ k : Nat, k ≤ p.outs.length ∧ i = .int .i64 k ∧ J (namesF p.flows ++ p.outs.take k) wr ∧ Ext w wr) (fun i _ => p.outs.length - (intOf i).toNat)
      case atStart => exact ⟨0, Nat.zero_le _, rfl, by rw [H3.out]; exact HJ.out, hE⟩
      case round =>
        clear HJ hE y2
        obtain ⟨k, hk, rfl, hJs, hE⟩ := hrel
        by_cases hlt : k < p.outs.length
        · have hx := List.getElem?_eq_getElem hlt
          obtain ⟨_, _, e, _, _, _, hr, _⟩ := HO.out.ext hE
          simp only [Value.slice.injEq, true_and] at e
          obtain ⟨rfl, rfl⟩ := e
          obtain ⟨hsz, b, o, rfl, _, hb, c0⟩ := hr k _ hx
          obtain ⟨rest, hrest⟩ := asked_cut2 hx
          have htk : p.outs.take (k + 1) = p.outs.take k ++ [p.outs[k]] := by rw [List.take_add_one, hx]; rfl
          generalize p.outs[k] = s at *
          obtain ⟨fn, tmps, assign, body, hy, hR⟩ := hY _ s _ hJs (pre_len hrest)
          simp only [nameC] at hy
          rw [clipS_same hsz] at hy
          have HREST := Lib.hid hrest
          have HTK := Lib.hid htk
          clear hr hx hrest htk
          gi_wp2
          refine hR.mono ?_
          rintro e W3 (⟨rfl, hJ3, hk3⟩ | ⟨rfl, hJx3⟩)
          · have hE3 : Ext w W3 := Ext.of_below ((Ext.below hE).trans hk3.below)
            rw [List.append_assoc, ← HTK.out] at hJ3
            have H4 := Lib.hid hJ3
            clear hJ3 hk3 hy hR hJs hE
            gi_wp2
            go_roundw
            case rel => exact ⟨k + 1, by omega, by go_num, H4.out, hE3⟩
            case measure => simp [intOf]; omega
          · have H4 := Lib.hid hJx3
            clear hJx3 hy hR hJs hE
            gi_wp2
            refine bodyPost_ret (results_none rfl _ _ _) rfl ?_
            exact ⟨⟨_, rfl⟩, .inr ⟨_, pre_more HREST.out, H4.out⟩⟩
        · obtain rfl : k = p.outs.length := by omega
          rw [List.take_length] at hJs
          have H4 : Hid (J (askedL p) wr) := hJs
          clear hJs
          gi_wp2
          go_end0
          exact ⟨⟨_, rfl⟩, .inl ⟨_, rfl, H4.out⟩⟩
end Go.Proofs.Ytjdficgejjkaoaa
