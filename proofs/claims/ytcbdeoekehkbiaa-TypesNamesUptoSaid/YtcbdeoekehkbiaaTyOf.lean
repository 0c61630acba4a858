/- The checker of types answers the plain answer. -/
import Derived.Test.YtcbdeoekehkbiaaTyMap
import Derived.Test.YtcbdeoekehkbiaaOfW
import Derived.Test.YtcbdeoekehkbiaaFindN
namespace Go.Proofs.Ytcbdeoekehkbiaa
open Go.RowKit
set_option linter.unusedVariables false
set_option linter.unusedSimpArgs false

def ruleT (op : Int) (l : List Int) : Int := if op = 4 ∨ op = 6 ∨ op = 7 ∨ op = 8 ∨ op = 9 ∨ op = 10 then eachT 1 1 l else if op = 5 ∨ op = 15 ∨ op = 16 then eachT 2 2 l else if op = 13 ∨ op = 14 then eachT 1 2 l else if op = 11 ∨ op = 12 then equalT l else if op = 18 ∨ op = 19 then sameT l else if op = 17 then ifT l else 0
def nameT (p : PrD) (nm : ByteArray) : Int := if 2 < (findP nm p.flows p.ins).2.1 then 0 else (findP nm p.flows p.ins).2.1
mutual
def tyE (p : PrD) : Ex → Int
  | .mk op _ nm args => if op = 1 then 1 else if op = 2 then 2 else if op = 3 then nameT p nm else ruleT op (tyL p args)
def tyL (p : PrD) : List Ex → List Int
  | [] => []
  | x :: r => tyE p x :: tyL p r
end
theorem tyL_len (p : PrD) : ∀ l : List Ex, (tyL p l).length = l.length
  | [] => rfl
  | x :: r => by simp only [tyL, List.length_cons, tyL_len p r]
theorem tyL_get (p : PrD) : ∀ (l : List Ex) (i : Nat), (tyL p l)[i]? = (l[i]?).map (tyE p)
  | [], i => by simp [tyL]
  | x :: r, 0 => by simp [tyL]
  | x :: r, i + 1 => by simp [tyL, tyL_get p r i]
/-- A list of types of one's own. -/
def TyV (w : World) (base : Nat) (l : List Int) (v : Value) : Prop := w.ownsRow base 48 1 v l.length (l.map (Value.int .u8))
theorem TyV.form {w : World} {base : Nat} {l : List Int} {v : Value} (h : TyV w base l v) : ∃ a cap, v = .slice a l.length cap := by
  rcases h.2 with ⟨h0, h1⟩ | ⟨g, cap, cur, h1, _⟩
  · exact ⟨none, 0, by rw [h0, h1]⟩
  · exact ⟨_, _, h1⟩
theorem TyV.rd {w : World} {base : Nat} {l : List Int} {v : Value} (h : TyV w base l v) (h0 : 1 ≤ l.length) : TyR w l v := by
  have h' := h
  rcases h.2 with ⟨h0, h1⟩ | ⟨g, c', cur, h1, h2, h3, h4, h5⟩
  · omega
  · subst h1
    refine ⟨g, 0, c', rfl, h4, fun i x hx => ?_⟩
    have hi : i < l.length := (List.getElem?_eq_some_iff.1 hx).1
    have c0 := World.ownsRow.cellAt h' i (by omega)
    rw [List.getElem?_map, hx] at c0
    rw [Nat.zero_add]
    exact c0
theorem TyV.chg {w w' : World} {base : Nat} {l : List Int} {v : Value} (h : TyV w base l v) {S : Nat → Prop} (hc : Chg S w w') (hS : ∀ g, v.ownBlock = some g → ¬ S g) : TyV w' base l v := by
  refine ⟨h.1, ?_⟩
  rcases h.2 with ⟨h0, h1⟩ | ⟨g, cap, cur, h1, h2, h3, h4⟩
  · exact .inl ⟨h0, h1⟩
  · exact .inr ⟨g, cap, cur, h1, h2, (hc.block g (lt_of_block h3) (hS g (by rw [h1]; rfl))).trans h3, h4⟩
theorem TyV.nil (w : World) (base : Nat) : TyV w base [] (.slice none 0 0) := World.ownsRow_nil _ _ _ _
theorem TyV.snoc {w : World} {base : Nat} {l : List Int} {r : Int} {v : Value} (h : w.ownsRow base 48 1 v (l.length + 1) (l.map (Value.int .u8) ++ [.int .u8 r])) : TyV w base (l ++ [r]) v := by
  unfold TyV
  rw [List.length_append, List.map_append]
  exact h
theorem TyV.form1 {w : World} {base : Nat} {l : List Int} {r : Int} {v : Value} (h : TyV w base (l ++ [r]) v) : ∃ a cap, v = .slice a (l.length + 1) cap := by
  have := h.form
  simpa using this
theorem infoTy : (Try.prog.info? 48).map (fun i => (i.zero, i.size, i.bytes)) = some (some (.int .u8 0), 1, 1) := by kernel_rfl
/-- The checker in memory. -/
def CkAt (w : World) (C M : Nat) (cs : Array Value) : Prop := w.heap[C]? = some (.cells (cs.push (.map (some M))) 94 (0, 0))
/-- of's contract at x. -/
def ETy (p : PrD) (x : Ex) : Prop := ∀ (v : Value) (w : World) (cs : Array Value) (C M B d : Nat), RdExV w 0 false x.args v → RdPr w 0 false p cs → CkAt w C M cs → RulesT w M B → wfE d x = true → nodesE x ≤ 100000 →
  Calls Try.prog 51 #[.pointer (some ⟨C, 0, none⟩), .agg #[.int .u8 x.op, .int .i64 x.n, .string x.name, v]] w (RetTy (tyE p x) w)
theorem pr_form' {w : World} {lo : Nat} {t : Bool} {p : PrD} {cs : Array Value} (h : RdPr w lo t p cs) : ∃ ai ci af cf ao co, cs = #[.int .i64 p.st, .slice ai p.ins.length ci, .slice af p.flows.length cf, .slice ao p.outs.length co] := by
  obtain ⟨vi, vf, vo, rfl, _, ⟨ai, ci, rfl, _⟩, ⟨af, cf, rfl, _⟩, ⟨ao, co, rfl, _⟩⟩ := h
  exact ⟨ai, ci, af, cf, ao, co, rfl⟩
set_option maxRecDepth 100000 in
set_option maxHeartbeats 4000000 in
theorem ty_any (p : PrD) : ∀ x, ETy p x := by
  refine Ex.ind fun op n nm args ih => ?_
  intro v w cs C M B d hv hP hK hR hwf hlen
  simp only [Ex.op, Ex.n, Ex.name, Ex.args] at *
  simp only [nodesE] at hlen
  obtain ⟨hpa, d', hwl⟩ := wf_open hwf
  have HP := Lib.hid hP
  obtain ⟨ai, ci, af, cf, ao, co, rfl⟩ := pr_form' hP
  clear hP
  obtain ⟨a, cap, rfl, hrest⟩ := hv
  have hv : RdExV w 0 false args (.slice a args.length cap) := ⟨a, cap, rfl, hrest⟩
  have hlen2 : args.length ≤ 9000000000000000000 := by have := hrest.1; unfold fitsR at this; omega
  have hal := nodesL_len args
  clear hrest hwf
  have HI := Lib.hid ih
  clear ih
  have hof : tyE p (.mk op n nm args) = if op = 1 then 1 else if op = 2 then 2 else if op = 3 then nameT p nm else ruleT op (tyL p args) := by simp only [tyE]
  have WX := heap_alloc_new w (.cells #[.int .u8 op, .int .i64 n, .string nm, .slice a args.length cap] 25)
  have WC : Ext w (w.alloc (.cells #[.int .u8 op, .int .i64 n, .string nm, .slice a args.length cap] 25)) := (Chg.refl _ _).alloc _
  have HPA := Lib.hid hpa
  clear hpa
  by_cases h1 : op = 1
  · have HO := Lib.hid (hof.trans (if_pos h1))
    subst h1
    clear hof
    go_enter Try.func51, Try.ntmps51
    go_wp2_with fail
    go_ret
    exact ⟨by rw [HO.out]; rfl, WC⟩
  rw [if_neg h1] at hof
  by_cases h2 : op = 2
  · have HO := Lib.hid (hof.trans (if_pos h2))
    subst h2
    clear hof
    go_enter Try.func51, Try.ntmps51
    go_wp2_with fail
    go_ret
    exact ⟨by rw [HO.out]; rfl, WC⟩
  rw [if_neg h2] at hof
  by_cases h3 : op = 3
  · have HO := Lib.hid (hof.trans (if_pos h3))
    subst h3
    clear hof h1 h2
    have HN := Lib.hid (show nameT p nm = if 2 < (findP nm p.flows p.ins).2.1 then 0 else (findP nm p.flows p.ins).2.1 from rfl)
    go_enter Try.func51, Try.ntmps51
    go_wp2_with fail
    generalize (w.alloc (.cells #[.int .u8 3, .int .i64 n, .string nm, .slice a args.length cap] 25)) = W at *
    have hKW := Ext.heap WC hK
    have k0 := blk_cell hKW 0
    have k1 := blk_cell hKW 1
    have k2 := blk_cell hKW 2
    have k3 := blk_cell hKW 3
    have x2 := blk_cell WX 2
    simp only [List.getElem?_toArray, List.getElem?_cons_zero, List.getElem?_cons_succ, List.push_toArray, List.cons_append, List.nil_append] at k0 k1 k2 k3 x2
    have z0 := (World.cell?_drew (w := W) (a := ⟨C, 0, none⟩)).trans k0
    have z1 := (World.cell?_drew (w := W) (a := ⟨C, 1, none⟩)).trans k1
    have z2 := (World.cell?_drew (w := W) (a := ⟨C, 2, none⟩)).trans k2
    have z3 := (World.cell?_drew (w := W) (a := ⟨C, 3, none⟩)).trans k3
    have y2 := (World.cell?_drew (w := W) (a := ⟨w.heap.size, 2, none⟩)).trans x2
    have hf := find_any p nm _ W.drew (HP.out.ext WC.drew)
    unfold RetFind fourV at hf
    have HF := Lib.hid hf
    clear hf k0 k1 k2 k3 x2 hKW
    generalize findP nm p.flows p.ins = q at *
    obtain ⟨qa, qb, qc, qd⟩ := q
    go_region_held3 (fun X => X.cell? ⟨C, 0, none⟩ = some (.int .i64 p.st) ∧ X.cell? ⟨C, 1, none⟩ = some (.slice ai p.ins.length ci) ∧ X.cell? ⟨C, 2, none⟩ = some (.slice af p.flows.length cf) ∧ X.cell? ⟨C, 3, none⟩ = some (.slice ao p.outs.length co) ∧ X.cell? ⟨w.heap.size, 2, none⟩ = some (.string nm))
      (first | (with_reducible exact ⟨z0, z1, z2, z3, y2⟩) | (with_reducible exact ⟨Ext.cell E3 z0, Ext.cell E3 z1, Ext.cell E3 z2, Ext.cell E3 z3, Ext.cell E3 y2⟩))
      (first
        | (go_at_call 27; refine HF.out.mono ?_; rintro e w3 ⟨rfl, E3⟩))
    have F3 := WC.drew.trans E3
    by_cases hq : 2 < qb
    · have HN2 := Lib.hid (HN.out.trans (if_pos hq))
      go_wp2_with fail
      go_ret
      exact ⟨by rw [HO.out, HN2.out]; rfl, F3⟩
    · have HN2 := Lib.hid (HN.out.trans (if_neg hq))
      go_wp2_with fail
      go_ret
      exact ⟨by rw [HO.out, HN2.out]; rfl, F3⟩
  rw [if_neg h3] at hof
  have HOF := Lib.hid hof
  have b1 : (op == 1) = false := by simpa using h1
  have b2 : (op == 2) = false := by simpa using h2
  have b3 : (op == 3) = false := by simpa using h3
  clear hof
  go_enter Try.func51, Try.ntmps51
  go_wp2_with fail
  generalize (w.alloc (.cells #[.int .u8 op, .int .i64 n, .string nm, .slice a args.length cap] 25)) = W at *
  have hWs := lt_of_block WX
  obtain ⟨i0, hi, hz0, hz1, hz2⟩ := info_parts infoTy
  clear b1 b2 b3
  go_loopw [5, 34] (fun lv i wr => ∃ (k : Nat) (lk : List Int), k ≤ args.length ∧ i = .int .i64 k ∧ lk = (tyL p args).take k ∧ lk.length = k ∧ TyV wr (w.heap.size + 1) lk lv ∧
      wr.heap[w.heap.size]? = some (.cells #[.int .u8 op, .int .i64 n, .string nm, .slice a args.length cap] 25 (0, 0)) ∧ Ext w wr) (fun _ i _ => args.length - (intOf i).toNat)
  case atStart => exact ⟨0, [], Nat.zero_le _, rfl, rfl, rfl, TyV.nil _ _, WX, WC⟩
  case round =>
    obtain ⟨k, lk, hk, rfl, hlk, hll, rV, rX, rE⟩ := hrel
    have HLK := Lib.hid hlk
    clear hlk
    obtain ⟨av, cv, rfl⟩ := rV.form
    rw [hll] at rV ⊢
    have HLL := Lib.hid hll
    have hkk : lk.length ≤ k := by omega
    clear hll
    by_cases hlt : k < args.length
    · have hx := List.getElem?_eq_getElem hlt
      have hix := HI.out _ (List.getElem_mem hlt)
      obtain ⟨b, o, v0, rfl, _, hb, c0, c1, c2, c3, _, _, _, hvx⟩ := (hv.ext rE).get hx
      have hnx := nodesL_get hx
      have hwx := wfL_get hwl hx
      have hog : (tyL p args).take (k + 1) = (tyL p args).take k ++ [tyE p args[k]] := by
        rw [List.take_add_one, tyL_get, hx]; rfl
      have q1 : (k : Int) < (args.length : Int) := by omega
      generalize args[k] = x at *
      obtain ⟨a2, cap2, rfl, _⟩ := hvx.form
      have K1 : Ext wr (wr.alloc (.cells #[.int .u8 x.op, .int .i64 x.n, .string x.name, .slice a2 x.args.length cap2] 25)) := (Chg.refl _ _).alloc _
      have hcall := hix _ (wr.alloc (.cells #[.int .u8 x.op, .int .i64 x.n, .string x.name, .slice a2 x.args.length cap2] 25)) _ C M B d' (hvx.ext K1) (HP.out.ext (rE.trans K1)) (Ext.heap (rE.trans K1) hK) (hR.ext (rE.trans K1)) hwx (by omega)
      have HCa := Lib.hid hcall
      have HOG := Lib.hid hog
      have rX2 := Lib.hid rX
      have hsz := rE.size
      have hXl := lt_of_block rX
      clear hcall hix hx hvx hog rX K1
      go_wp2_with fail
      refine HCa.out.mono ?_
      rintro e w4 ⟨rfl, E4⟩
      have E5 : Ext w w4 := (rE.alloc _).trans E4
      have X5 := Ext.heap E4 (Ext.heap ((Chg.refl _ _).alloc _) rX2.out)
      have V5 := (rV.chg ((Chg.refl (fun _ => False) _).alloc _) (fun _ _ h => h)).chg E4 (fun _ _ h => h)
      have hs5 := E5.size
      generalize tyE p x = y at *
      go_wp2_with (at_builtin; refine wpList_append_own_at _ rfl _ _ 60 rfl (w.heap.size + 1) 48 i0 _ 1 1 Try.underlying60 hi hz0 hz1 hz2 rfl (by decide) _ _ _ rfl (World.ownsRow.alloc V5 _) ⟨w4.heap.size, 0, none⟩ 1 1 [.int .u8 y] rfl rfl (cell_one_new _ _ _) (by simp [Value.oneCell']) (by unfold maxLen; omega) (by omega) (by simp; omega) ?_; intro v6 w6 hown6 hgrow6 _ hat6; have V6 := TyV.snoc hown6; obtain ⟨a6, c6, hv6⟩ := V6.form1; rw [HLL.out] at hv6; subst hv6)
      have D6 := Chg.of_grownBy hgrow6
      have E6 : Ext w w6 := Ext.then (E5.alloc _) D6 (fun b hb => by have := (World.ownsRow.lt V5 b hb).1; omega)
      have X6 := D6.heap (Ext.heap ((Chg.refl _ _).alloc _) X5) (fun h => by have := (World.ownsRow.lt V5 _ h).1; omega)
      have hlk6 : Hid (lk ++ [y] = (tyL p args).take (k + 1)) := by show _ = _; rw [HOG.out, HLK.out]
      have hll6 : Hid ((lk ++ [y]).length = k + 1) := by show _ = _; rw [List.length_append, HLL.out]; rfl
      clear hown6 hgrow6 hat6 D6 V5 X5 rV
      go_wp2_with fail
      go_roundw
      case rel => exact ⟨k + 1, _, by omega, by go_num, hlk6.out, hll6.out, V6, X6, E6⟩
      case measure => simp [intOf]; omega
    · obtain rfl : k = args.length := by omega
      have hfull : lk = tyL p args := by rw [HLK.out, List.take_of_length_le (by rw [tyL_len]; exact Nat.le_refl _)]
      subst hfull
      clear HLK
      have hlo := tyL_len p args
      have hpos : 1 ≤ args.length := by
        rcases Nat.eq_zero_or_pos args.length with h | h
        · exfalso
          have hpp := HPA.out
          rw [h] at hpp
          simp only [partsP, if_neg (show ¬ (op = 1 ∨ op = 2 ∨ op = 3) from fun e => e.elim h1 (fun e => e.elim h2 h3))] at hpp
          split at hpp
          · omega
          · split at hpp
            · omega
            · split at hpp <;> omega
        · exact h
      have hRr := hR.ext rE
      have hKr := Ext.heap rE hK
      have rT := (show TyV wr (w.heap.size + 1) (tyL p args) (.slice av (tyL p args).length cv) by rw [hlo]; exact rV).rd (by omega)
      have k4 := blk_cell hKr 4
      have x0 := blk_cell rX 0
      simp only [List.getElem?_toArray, List.getElem?_cons_zero, List.getElem?_cons_succ, List.push_toArray, List.cons_append, List.nil_append] at k4 x0
      have z4 := (World.cell?_drew (w := wr) (a := ⟨C, 4, none⟩)).trans k4
      have z0 := (World.cell?_drew (w := wr) (a := ⟨w.heap.size, 0, none⟩)).trans x0
      have rT2 : TyR wr.drew (tyL p args) (.slice av (tyL p args).length cv) := rT
      have rR2 : RulesT wr.drew M B := hRr
      have F1 := rE.drew
      clear k4 x0 rT hKr hRr rV rX
      by_cases hn : op = 4 ∨ op = 6 ∨ op = 7 ∨ op = 8 ∨ op = 9 ∨ op = 10
      · have hlk := tlook_n rR2 hn
        have HO := Lib.hid (HOF.out.trans (show ruleT op (tyL p args) = eachT 1 1 (tyL p args) by unfold ruleT; rw [if_pos hn]))
        have HC := Lib.hid (show Calls Try.prog 86 #[.slice av args.length cv, .pointer (some ⟨B, 0, none⟩), .pointer (some ⟨B + 1, 0, none⟩)] wr.drew (RetTy (eachT 1 1 (tyL p args)) wr.drew) by rw [← hlo]; exact each1_any 1 1 _ _ _ _ _ rT2 (by omega) rR2.2.1.cell rR2.2.2.1.cell)
        generalize eachT 1 1 (tyL p args) = tt at *
        go_wp2_with fail
        go_region_held3 (fun X => X.cell? ⟨C, 4, none⟩ = some (.map (some M)) ∧ X.cell? ⟨w.heap.size, 0, none⟩ = some (.int .u8 op))
          (first | (with_reducible exact ⟨z4, z0⟩) | (with_reducible exact ⟨Ext.cell E3 z4, Ext.cell E3 z0⟩))
          (first
            | (go_at_call 86; refine HC.out.mono ?_; rintro e w3 ⟨rfl, E3⟩))
        go_wp2_with fail
        go_ret
        exact ⟨by rw [HO.out]; rfl, F1.trans E3⟩
      by_cases hy : op = 5 ∨ op = 15 ∨ op = 16
      · have hlk := tlook_y rR2 hy
        have HO := Lib.hid (HOF.out.trans (show ruleT op (tyL p args) = eachT 2 2 (tyL p args) by unfold ruleT; rw [if_neg hn, if_pos hy]))
        have HC := Lib.hid (show Calls Try.prog 86 #[.slice av args.length cv, .pointer (some ⟨B + 2, 0, none⟩), .pointer (some ⟨B + 3, 0, none⟩)] wr.drew (RetTy (eachT 2 2 (tyL p args)) wr.drew) by rw [← hlo]; exact each1_any 2 2 _ _ _ _ _ rT2 (by omega) rR2.2.2.2.1.cell rR2.2.2.2.2.1.cell)
        generalize eachT 2 2 (tyL p args) = tt at *
        go_wp2_with fail
        go_region_held3 (fun X => X.cell? ⟨C, 4, none⟩ = some (.map (some M)) ∧ X.cell? ⟨w.heap.size, 0, none⟩ = some (.int .u8 op))
          (first | (with_reducible exact ⟨z4, z0⟩) | (with_reducible exact ⟨Ext.cell E3 z4, Ext.cell E3 z0⟩))
          (first
            | (go_at_call 86; refine HC.out.mono ?_; rintro e w3 ⟨rfl, E3⟩))
        go_wp2_with fail
        go_ret
        exact ⟨by rw [HO.out]; rfl, F1.trans E3⟩
      by_cases hl : op = 13 ∨ op = 14
      · have hlk := tlook_l rR2 hl
        have HO := Lib.hid (HOF.out.trans (show ruleT op (tyL p args) = eachT 1 2 (tyL p args) by unfold ruleT; rw [if_neg hn, if_neg hy, if_pos hl]))
        have HC := Lib.hid (show Calls Try.prog 86 #[.slice av args.length cv, .pointer (some ⟨B + 4, 0, none⟩), .pointer (some ⟨B + 5, 0, none⟩)] wr.drew (RetTy (eachT 1 2 (tyL p args)) wr.drew) by rw [← hlo]; exact each1_any 1 2 _ _ _ _ _ rT2 (by omega) rR2.2.2.2.2.2.1.cell rR2.2.2.2.2.2.2.1.cell)
        generalize eachT 1 2 (tyL p args) = tt at *
        go_wp2_with fail
        go_region_held3 (fun X => X.cell? ⟨C, 4, none⟩ = some (.map (some M)) ∧ X.cell? ⟨w.heap.size, 0, none⟩ = some (.int .u8 op))
          (first | (with_reducible exact ⟨z4, z0⟩) | (with_reducible exact ⟨Ext.cell E3 z4, Ext.cell E3 z0⟩))
          (first
            | (go_at_call 86; refine HC.out.mono ?_; rintro e w3 ⟨rfl, E3⟩))
        go_wp2_with fail
        go_ret
        exact ⟨by rw [HO.out]; rfl, F1.trans E3⟩
      by_cases he : op = 11 ∨ op = 12
      · have hlk := tlook_e rR2 he
        have HO := Lib.hid (HOF.out.trans (show ruleT op (tyL p args) = equalT (tyL p args) by unfold ruleT; rw [if_neg hn, if_neg hy, if_neg hl, if_pos he]))
        have HC := Lib.hid (show Calls Try.prog 73 #[.slice av args.length cv] wr.drew (RetTy (equalT (tyL p args)) wr.drew) by rw [← hlo]; exact equal_any _ _ _ rT2 (by omega) (by omega))
        generalize equalT (tyL p args) = tt at *
        go_wp2_with fail
        go_region_held3 (fun X => X.cell? ⟨C, 4, none⟩ = some (.map (some M)) ∧ X.cell? ⟨w.heap.size, 0, none⟩ = some (.int .u8 op))
          (first | (with_reducible exact ⟨z4, z0⟩) | (with_reducible exact ⟨Ext.cell E3 z4, Ext.cell E3 z0⟩))
          (first
            | (go_at_call 73; refine HC.out.mono ?_; rintro e w3 ⟨rfl, E3⟩))
        go_wp2_with fail
        go_ret
        exact ⟨by rw [HO.out]; rfl, F1.trans E3⟩
      by_cases hs : op = 18 ∨ op = 19
      · have hlk := tlook_s rR2 hs
        have HO := Lib.hid (HOF.out.trans (show ruleT op (tyL p args) = sameT (tyL p args) by unfold ruleT; rw [if_neg hn, if_neg hy, if_neg hl, if_neg he, if_pos hs]))
        have HC := Lib.hid (show Calls Try.prog 71 #[.slice av args.length cv] wr.drew (RetTy (sameT (tyL p args)) wr.drew) by rw [← hlo]; exact same_any _ _ _ rT2 (by omega) (by omega))
        generalize sameT (tyL p args) = tt at *
        go_wp2_with fail
        go_region_held3 (fun X => X.cell? ⟨C, 4, none⟩ = some (.map (some M)) ∧ X.cell? ⟨w.heap.size, 0, none⟩ = some (.int .u8 op))
          (first | (with_reducible exact ⟨z4, z0⟩) | (with_reducible exact ⟨Ext.cell E3 z4, Ext.cell E3 z0⟩))
          (first
            | (go_at_call 71; refine HC.out.mono ?_; rintro e w3 ⟨rfl, E3⟩))
        go_wp2_with fail
        go_ret
        exact ⟨by rw [HO.out]; rfl, F1.trans E3⟩
      have h17 : op = 17 := by
        have hpp := HPA.out
        simp only [partsP, if_neg (show ¬ (op = 1 ∨ op = 2 ∨ op = 3) from fun e => e.elim h1 (fun e => e.elim h2 h3)), hasOp, pairsD, prefixesD, List.any_cons, List.any_nil, Bool.or_false, Bool.or_eq_true, decide_eq_true_eq] at hpp
        split at hpp
        · assumption
        · exfalso
          split at hpp
          · omega
          · split at hpp <;> omega
      have hl3 : args.length = 3 := by have := HPA.out; rw [h17, show partsP 17 = 3 from rfl] at this; omega
      have hi17 := h17
      · have hlk := tlook_i rR2 hi17
        have HO := Lib.hid (HOF.out.trans (show ruleT op (tyL p args) = ifT (tyL p args) by unfold ruleT; rw [if_neg hn, if_neg hy, if_neg hl, if_neg he, if_neg hs, if_pos hi17]))
        have HC := Lib.hid (show Calls Try.prog 74 #[.slice av args.length cv, .pointer (some ⟨B + 6, 0, none⟩)] wr.drew (RetTy (ifT (tyL p args)) wr.drew) by rw [← hlo]; exact if_any _ _ _ _ rT2 (by omega) rR2.2.2.2.2.2.2.2.cell)
        generalize ifT (tyL p args) = tt at *
        clear h17 hi17 hl3
        go_wp2_with fail
        go_region_held3 (fun X => X.cell? ⟨C, 4, none⟩ = some (.map (some M)) ∧ X.cell? ⟨w.heap.size, 0, none⟩ = some (.int .u8 op))
          (first | (with_reducible exact ⟨z4, z0⟩) | (with_reducible exact ⟨Ext.cell E3 z4, Ext.cell E3 z0⟩))
          (first
            | (go_at_call 74; refine HC.out.mono ?_; rintro e w3 ⟨rfl, E3⟩))
        go_wp2_with fail
        go_ret
        exact ⟨by rw [HO.out]; rfl, F1.trans E3⟩
end Go.Proofs.Ytcbdeoekehkbiaa
