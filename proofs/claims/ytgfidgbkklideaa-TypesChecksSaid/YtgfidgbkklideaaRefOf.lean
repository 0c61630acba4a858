/- The document's of answers the plain answer. -/
import Derived.Test.YtgfidgbkklideaaOfW
namespace Go.Proofs.Ytgfidgbkklideaa
open Go.RowKit
set_option linter.unusedVariables false

/-- Its contract at x. -/
def ERof (x : Ex) : Prop := ∀ (v : Value) (w : World) (d : Nat), RdExV w 0 false x.args v → wfE d x = true → nodesE x ≤ 100000 →
  Calls Try.prog 36 #[.agg #[.int .u8 x.op, .int .i64 x.n, .string x.name, v]] w (RetOf w x)
theorem ruleP_19 {l : List Int} (h1 : l.length = 1) (hb : ∀ y, y ∈ l → 0 ≤ y ∧ y ≤ 100000) : ruleP 19 l = maxL l + 1 := by
  match l, h1 with
  | [x], _ =>
    have := hb x (by simp)
    show x + 1 = max 0 x + 1
    omega
set_option maxRecDepth 100000 in
set_option maxHeartbeats 4000000 in
theorem refOf_any : ∀ x, ERof x := by
  refine Ex.ind fun op n nm args ih => ?_
  intro v w d hv hwf hlen
  simp only [Ex.op, Ex.n, Ex.name, Ex.args] at *
  simp only [nodesE] at hlen
  obtain ⟨hpa, d', hwl⟩ := wf_open hwf
  obtain ⟨a, cap, rfl, hrest⟩ := hv
  have hv : RdExV w 0 false args (.slice a args.length cap) := ⟨a, cap, rfl, hrest⟩
  have hlen2 : args.length ≤ 9000000000000000000 := by have := hrest.1; unfold fitsR at this; omega
  have hal := nodesL_len args
  clear hrest hwf
  have HI := Lib.hid ih
  clear ih
  have hof : ofE (.mk op n nm args) = ruleP op (ofL args) := by simp only [ofE]
  have HOF := Lib.hid hof
  clear hof
  have WX := heap_alloc_new w (.cells #[.int .u8 op, .int .i64 n, .string nm, .slice a args.length cap] 30)
  have WC : Ext w (w.alloc (.cells #[.int .u8 op, .int .i64 n, .string nm, .slice a args.length cap] 30)) := (Chg.refl _ _).alloc _
  have HPA := Lib.hid hpa
  clear hpa
  go_enter Try.func36, Try.ntmps36
  go_wp2_with fail
  generalize (w.alloc (.cells #[.int .u8 op, .int .i64 n, .string nm, .slice a args.length cap] 30)) = W at *
  have hWs := lt_of_block WX
  obtain ⟨i0, hi, hz0, hz1, hz2⟩ := info_parts infoInt
  go_loopw [3, 4, 5] (fun lv mv i wr => ∃ (k : Nat) (lk : List Int), k ≤ args.length ∧ i = .int .i64 k ∧ mv = .int .i64 (maxL lk) ∧ lk = (ofL args).take k ∧ lk.length = k ∧ InV wr (w.heap.size + 1) lk lv ∧
      wr.heap[w.heap.size]? = some (.cells #[.int .u8 op, .int .i64 n, .string nm, .slice a args.length cap] 30 (0, 0)) ∧ Ext w wr) (fun _ _ i _ => args.length - (intOf i).toNat)
  case atStart => exact ⟨0, [], Nat.zero_le _, rfl, rfl, rfl, rfl, InV.nil _ _, WX, WC⟩
  case round =>
    obtain ⟨k, lk, hk, rfl, rfl, hlk, hll, rV, rX, rE⟩ := hrel
    have HLK := Lib.hid hlk
    clear hlk
    obtain ⟨av, cv, rfl⟩ := rV.form
    rw [hll] at rV ⊢
    have HLL := Lib.hid hll
    have hkk : lk.length ≤ k := by omega
    clear hll
    by_cases hlt : k < args.length
    · have hx := List.getElem?_eq_getElem hlt
      have hix := HI.out _ (List.getElem_mem hlt)
      obtain ⟨b, o, v0, rfl, _, hb, c0, c1, c2, c3, _, _, _, hvx⟩ := (hv.ext rE).get hx
      have hnx := nodesL_get hx
      have hwx := wfL_get hwl hx
      have hog : (ofL args).take (k + 1) = (ofL args).take k ++ [ofE args[k]] := by
        rw [List.take_add_one, ofL_get, hx]; rfl
      have q1 : (k : Int) < (args.length : Int) := by omega
      have hob := ofE_bound args[k]
      generalize args[k] = x at *
      obtain ⟨a2, cap2, rfl, _⟩ := hvx.form
      have hcall := hix _ wr d' hvx hwx (by omega)
      have HCa := Lib.hid hcall
      have HOG := Lib.hid hog
      have rX2 := Lib.hid rX
      have x3 := blk_cell rX 3
      simp only [List.getElem?_toArray, List.getElem?_cons_zero, List.getElem?_cons_succ] at x3
      have hsz := rE.size
      have hXl := lt_of_block rX
      clear hcall hix hx hvx hog rX
      go_wp2_with fail
      refine HCa.out.mono ?_
      rintro e w4 ⟨rfl, E4⟩
      have E5 : Ext w w4 := rE.trans E4
      have X5 := Ext.heap E4 rX2.out
      have V5 := rV.chg E4 (fun _ _ h => h)
      have hs5 := E5.size
      generalize ofE x = y at *
      have hmx : maxL (lk ++ [y]) = if maxL lk < y then y else maxL lk := by
        unfold maxL
        rw [List.foldl_append]
        show max (List.foldl max 0 lk) y = _
        split <;> omega
      have HMX := Lib.hid hmx
      clear hmx
      generalize maxL lk = mk at *
      go_wp2_with (at_builtin; refine wpList_append_own_at _ rfl _ _ 88 rfl (w.heap.size + 1) 3 i0 _ 1 8 Try.underlying88 hi hz0 hz1 hz2 rfl (by decide) _ _ _ rfl (World.ownsRow.alloc V5 _) ⟨w4.heap.size, 0, none⟩ 1 1 [.int .i64 y] rfl rfl (cell_one_new _ _ _) (by simp [Value.oneCell']) (by unfold maxLen; omega) (by omega) (by simp; omega) ?_; intro v6 w6 hown6 hgrow6 _ hat6; have V6 := InV.snoc hown6; obtain ⟨a6, c6, hv6⟩ := V6.form1; rw [HLL.out] at hv6; subst hv6)
      have D6 := Chg.of_grownBy hgrow6
      have E6 : Ext w w6 := Ext.then (E5.alloc _) D6 (fun b hb => by have := (World.ownsRow.lt V5 b hb).1; omega)
      have X6 := D6.heap (Ext.heap ((Chg.refl _ _).alloc _) X5) (fun h => by have := (World.ownsRow.lt V5 _ h).1; omega)
      have hlk6 : Hid (lk ++ [y] = (ofL args).take (k + 1)) := by show _ = _; rw [HOG.out, HLK.out]
      have hll6 : Hid ((lk ++ [y]).length = k + 1) := by show _ = _; rw [List.length_append, HLL.out]; rfl
      clear hown6 hgrow6 hat6 D6 V5 X5 rV
      go_wp2_with fail
      go_roundw
      case rel => exact ⟨k + 1, _, by omega, by go_num, by rw [HMX.out], hlk6.out, hll6.out, V6, X6, E6⟩
      case measure => simp [intOf]; omega
    · obtain rfl : k = args.length := by omega
      have hfull : lk = ofL args := by rw [HLK.out, List.take_of_length_le (by rw [ofL_len]; exact Nat.le_refl _)]
      subst hfull
      clear HLK
      have hbd := fun y hy => And.intro (ofL_bound args y hy).1 (Int.le_trans (ofL_bound args y hy).2 (show (nodesL args : Int) ≤ 100000 by omega))
      have hlo := ofL_len args
      have x0 := blk_cell rX 0
      have x3 := blk_cell rX 3
      simp only [List.getElem?_toArray, List.getElem?_cons_zero, List.getElem?_cons_succ] at x0 x3
      have hmb := maxL_bound (l := ofL args) (b := 100000) (by omega) (fun y hy => (hbd y hy).2)
      by_cases h19 : op = 19
      · subst h19
        have h1 : (ofL args).length = 1 := by have := HPA.out; rw [show partsP 19 = 1 from rfl] at this; omega
        have HV := Lib.hid (HOF.out.trans (ruleP_19 h1 hbd))
        clear h1
        generalize maxL (ofL args) = mm at *
        go_wp2_with fail
        go_ret
        exact ⟨by rw [HV.out]; rfl, rE⟩
      have b19 : (op == 19) = false := by simpa using h19
      by_cases h18 : op = 18
      · subst h18
        have h1 : (ofL args).length = 2 := by have := HPA.out; rw [show partsP 18 = 2 from rfl] at this; omega
        have HOF2 := HOF
        have rV2 : InV wr (w.heap.size + 1) (ofL args) (.slice av (ofL args).length cv) := by rw [hlo]; exact rV
        clear hmb
        generalize hol : ofL args = lo at *
        match lo, h1 with
        | [x, y], _ =>
          have hx := hbd x (by simp)
          have hy := hbd y (by simp)
          obtain ⟨g, rfl, c0⟩ := rV2.get (i := 0) (x := x) rfl
          obtain ⟨g', e, c1⟩ := rV2.get (i := 1) (x := y) rfl
          simp only [Option.some.injEq, Addr.mk.injEq] at e
          obtain ⟨rfl, _⟩ := e
          have hla : args.length = 2 := by simpa using hlo.symm
          have q0 : (0 : Int) < (args.length : Int) := by omega
          have q1 : (1 : Int) < (args.length : Int) := by omega
          clear hbd hlo rV2 rV hol hla
          by_cases h1 : y ≤ 1
          · by_cases h0 : x = 0
            · subst h0
              have HE := Lib.hid (HOF.out.trans (show ruleP 18 [0, y] = 0 by simp [ruleP, thenP, h1]))
              go_wp2_with fail
              go_ret
              exact ⟨by rw [HE.out]; rfl, rE⟩
            · have b0 : (x == 0) = false := by simpa using h0
              have HE := Lib.hid (HOF.out.trans (show ruleP 18 [x, y] = 1 by simp [ruleP, thenP, h0]; omega))
              go_wp2_with fail
              go_ret
              exact ⟨by rw [HE.out]; rfl, rE⟩
          · have h2 : 1 < y := by omega
            have HE := Lib.hid (HOF.out.trans (show ruleP 18 [x, y] = y by simp [ruleP, thenP, h1]; omega))
            by_cases h0 : x = 0
            · subst h0
              go_wp2_with fail
              go_ret
              exact ⟨by rw [HE.out]; rfl, rE⟩
            · have b0 : (x == 0) = false := by simpa using h0
              go_wp2_with fail
              go_ret
              exact ⟨by rw [HE.out]; rfl, rE⟩
      have b18 : (op == 18) = false := by simpa using h18
      have HV := Lib.hid (HOF.out.trans (show ruleP op (ofL args) = maxL (ofL args) by simp [ruleP, h19, h18]))
      generalize maxL (ofL args) = mm at *
      go_wp2_with fail
      go_ret
      exact ⟨by rw [HV.out]; rfl, rE⟩
end Go.Proofs.Ytgfidgbkklideaa
