/- starts.of answers the plain answer. -/
import Derived.Test.YtcbdeoekehkbiaaOf
namespace Go.Proofs.Ytcbdeoekehkbiaa
open Go.RowKit
set_option linter.unusedVariables false

def RetOf (w : World) (x : Ex) (e : Ending) (w' : World) : Prop := e = .returned (.int .i64 (ofE x)) ∧ Ext w w'
/-- of's contract at x. -/
def EOf (x : Ex) : Prop := ∀ (v : Value) (w : World) (M d : Nat), RdExV w 0 false x.args v → RulesAt w M → wfE d x = true → nodesE x ≤ 100000 →
  Calls Try.prog 36 #[.agg #[.int .u8 x.op, .int .i64 x.n, .string x.name, v], .map (some M)] w (RetOf w x)
theorem wfL_get {d : Nat} {l : List Ex} (h : wfL d l = true) : ∀ {i : Nat} {x : Ex}, l[i]? = some x → wfE d x = true := by
  induction l with
  | nil => intro i x hx; simp at hx
  | cons y r ih =>
    simp only [wfL, Bool.and_eq_true] at h
    intro i x hx
    cases i with
    | zero => simp only [List.getElem?_cons_zero, Option.some.injEq] at hx; subst hx; exact h.1
    | succ i => simp only [List.getElem?_cons_succ] at hx; exact ih h.2 hx
theorem nodesL_get {l : List Ex} {i : Nat} {x : Ex} (h : l[i]? = some x) : nodesE x ≤ nodesL l := by
  induction l generalizing i with
  | nil => simp at h
  | cons y r ih =>
    simp only [nodesL]
    cases i with
    | zero => simp only [List.getElem?_cons_zero, Option.some.injEq] at h; subst h; omega
    | succ i => simp only [List.getElem?_cons_succ] at h; have := ih h; omega
theorem wf_open {d : Nat} {op n : Int} {nm : ByteArray} {l : List Ex} (h : wfE d (.mk op n nm l) = true) : partsP op = (l.length : Int) ∧ ∃ d', wfL d' l = true := by
  cases d with
  | zero => simp [wfE] at h
  | succ d =>
    simp only [wfE, Bool.and_eq_true, decide_eq_true_eq] at h
    exact ⟨h.1.1, d, h.2⟩
theorem nodesE_pos' (x : Ex) : 1 ≤ nodesE x := by cases x; simp only [nodesE]; omega
theorem nodesL_len : ∀ l : List Ex, l.length ≤ nodesL l
  | [] => Nat.zero_le _
  | x :: r => by
    simp only [nodesL, List.length_cons]
    have := nodesL_len r
    have := nodesE_pos' x
    omega
set_option maxRecDepth 100000 in
set_option maxHeartbeats 4000000 in
theorem of_any : ∀ x, EOf x := by
  refine Ex.ind fun op n nm args ih => ?_
  intro v w M d hv hR hwf hlen
  simp only [Ex.op, Ex.n, Ex.name, Ex.args] at *
  simp only [nodesE] at hlen
  obtain ⟨hpa, d', hwl⟩ := wf_open hwf
  obtain ⟨a, cap, rfl, hrest⟩ := hv
  have hv : RdExV w 0 false args (.slice a args.length cap) := ⟨a, cap, rfl, hrest⟩
  have hlen2 : args.length ≤ 9000000000000000000 := by have := hrest.1; unfold fitsR at this; omega
  have hal := nodesL_len args
  clear hrest hwf
  have HI := Lib.hid ih
  clear ih
  have hof : ofE (.mk op n nm args) = ruleP op (ofL args) := by simp only [ofE]
  have HOF := Lib.hid hof
  clear hof
  have WX := heap_alloc_new w (.cells #[.int .u8 op, .int .i64 n, .string nm, .slice a args.length cap] 25)
  have WC : Ext w (w.alloc (.cells #[.int .u8 op, .int .i64 n, .string nm, .slice a args.length cap] 25)) := (Chg.refl _ _).alloc _
  have HPA := Lib.hid hpa
  by_cases h0 : args.length = 0
  · have hz : args = [] := List.length_eq_zero_iff.1 h0
    have hval : ruleP op (ofL args) = 0 := by
      subst hz
      have h19 : ¬ op = 19 := fun e => by subst e; have := HPA.out; simp [partsP, hasOp, pairsD, prefixesD] at this
      have h18 : ¬ op = 18 := fun e => by subst e; have := HPA.out; simp [partsP, hasOp, pairsD] at this
      simp [ruleP, h19, h18, ofL, maxL]
    have HV := Lib.hid (HOF.out.trans hval)
    have q0 : ((args.length : Int) == 0) = true := by simpa using h0
    clear hval hpa h0 hz
    go_enter Try.func36, Try.ntmps36
    go_wp2_with fail
    go_ret
    exact ⟨by rw [HV.out]; rfl, WC⟩
  have q0 : ((args.length : Int) == 0) = false := by simpa using h0
  clear hpa
  go_enter Try.func36, Try.ntmps36
  go_wp2_with fail
  generalize (w.alloc (.cells #[.int .u8 op, .int .i64 n, .string nm, .slice a args.length cap] 25)) = W at *
  have hWs := lt_of_block WX
  obtain ⟨i0, hi, hz0, hz1, hz2⟩ := info_parts infoInt
  clear q0
  go_loopw [5, 17] (fun lv i wr => ∃ (k : Nat) (lk : List Int), k ≤ args.length ∧ i = .int .i64 k ∧ lk = (ofL args).take k ∧ lk.length = k ∧ InV wr (w.heap.size + 1) lk lv ∧
      wr.heap[w.heap.size]? = some (.cells #[.int .u8 op, .int .i64 n, .string nm, .slice a args.length cap] 25 (0, 0)) ∧ Ext w wr) (fun _ i _ => args.length - (intOf i).toNat)
  case atStart => exact ⟨0, [], Nat.zero_le _, rfl, rfl, rfl, InV.nil _ _, WX, WC⟩
  case round =>
    obtain ⟨k, lk, hk, rfl, hlk, hll, rV, rX, rE⟩ := hrel
    have HLK := Lib.hid hlk
    clear hlk
    obtain ⟨av, cv, rfl⟩ := rV.form
    rw [hll] at rV ⊢
    have HLL := Lib.hid hll
    have hkk : lk.length ≤ k := by omega
    clear hll
    by_cases hlt : k < args.length
    · have hx := List.getElem?_eq_getElem hlt
      have hix := HI.out _ (List.getElem_mem hlt)
      obtain ⟨b, o, v0, rfl, _, hb, c0, c1, c2, c3, _, _, _, hvx⟩ := (hv.ext rE).get hx
      have hnx := nodesL_get hx
      have hwx := wfL_get hwl hx
      have hog : (ofL args).take (k + 1) = (ofL args).take k ++ [ofE args[k]] := by
        rw [List.take_add_one, ofL_get, hx]; rfl
      have q1 : (k : Int) < (args.length : Int) := by omega
      have hob := ofE_bound args[k]
      generalize args[k] = x at *
      obtain ⟨a2, cap2, rfl, _⟩ := hvx.form
      have hcall := hix _ (wr.alloc (.cells #[.int .u8 x.op, .int .i64 x.n, .string x.name, .slice a2 x.args.length cap2] 25)) M d' (hvx.ext ((Chg.refl _ _).alloc _)) (Ext.heap (rE.alloc _) hR) hwx (by omega)
      have HCa := Lib.hid hcall
      have HOG := Lib.hid hog
      have rX2 := Lib.hid rX
      have hsz := rE.size
      have hXl := lt_of_block rX
      clear hcall hix hx hvx hog rX
      go_wp2_with fail
      refine HCa.out.mono ?_
      rintro e w4 ⟨rfl, E4⟩
      have E5 : Ext w w4 := (rE.alloc _).trans E4
      have X5 := Ext.heap E4 (Ext.heap ((Chg.refl _ _).alloc _) rX2.out)
      have V5 := (rV.chg ((Chg.refl (fun _ => False) _).alloc _) (fun _ _ h => h)).chg E4 (fun _ _ h => h)
      have hs5 := E5.size
      generalize ofE x = y at *
      go_wp2_with (at_builtin; refine wpList_append_own_at _ rfl _ _ 99 rfl (w.heap.size + 1) 3 i0 _ 1 8 Try.underlying99 hi hz0 hz1 hz2 rfl (by decide) _ _ _ rfl (World.ownsRow.alloc V5 _) ⟨w4.heap.size, 0, none⟩ 1 1 [.int .i64 y] rfl rfl (cell_one_new _ _ _) (by simp [Value.oneCell']) (by unfold maxLen; omega) (by omega) (by simp; omega) ?_; intro v6 w6 hown6 hgrow6 _ hat6; have V6 := InV.snoc hown6; obtain ⟨a6, c6, hv6⟩ := V6.form1; rw [HLL.out] at hv6; subst hv6)
      have D6 := Chg.of_grownBy hgrow6
      have E6 : Ext w w6 := Ext.then (E5.alloc _) D6 (fun b hb => by have := (World.ownsRow.lt V5 b hb).1; omega)
      have X6 := D6.heap (Ext.heap ((Chg.refl _ _).alloc _) X5) (fun h => by have := (World.ownsRow.lt V5 _ h).1; omega)
      have hlk6 : Hid (lk ++ [y] = (ofL args).take (k + 1)) := by show _ = _; rw [HOG.out, HLK.out]
      have hll6 : Hid ((lk ++ [y]).length = k + 1) := by show _ = _; rw [List.length_append, HLL.out]; rfl
      clear hown6 hgrow6 hat6 D6 V5 X5 rV
      go_wp2_with fail
      go_roundw
      case rel => exact ⟨k + 1, _, by omega, by go_num, hlk6.out, hll6.out, V6, X6, E6⟩
      case measure => simp [intOf]; omega
    · obtain rfl : k = args.length := by omega
      have hfull : lk = ofL args := by rw [HLK.out, List.take_of_length_le (by rw [ofL_len]; exact Nat.le_refl _)]
      subst hfull
      clear HLK
      have hRr := Ext.heap rE hR
      have hbd := fun y hy => And.intro (ofL_bound args y hy).1 (Int.le_trans (ofL_bound args y hy).2 (show (nodesL args : Int) ≤ 100000 by omega))
      have hlo := ofL_len args
      have x0 := blk_cell rX 0
      simp only [List.getElem?_toArray, List.getElem?_cons_zero] at x0
      by_cases h19 : op = 19
      · subst h19
        have hlk := rules_look19 (w := wr) hRr
        have h1 : (ofL args).length = 1 := by have := HPA.out; rw [show partsP 19 = 1 from rfl] at this; omega
        have hc := rule1_one (ofL args) av cv _ wr (by rw [hlo]; exact rV) h1 hbd
        rw [hlo] at hc
        have HC := Lib.hid hc
        clear hc h1
        go_wp2_with fail
        refine HC.out.mono ?_
        rintro e w5 ⟨rfl, E5⟩
        go_wp2_with fail
        go_ret
        exact ⟨by rw [HOF.out]; rfl, rE.trans E5⟩
      by_cases h18 : op = 18
      · subst h18
        have hlk := rules_look18 (w := wr) hRr
        have h1 : (ofL args).length = 2 := by have := HPA.out; rw [show partsP 18 = 2 from rfl] at this; omega
        have hc := rule2_one (ofL args) av cv _ wr (by rw [hlo]; exact rV) h1 hbd
        rw [hlo] at hc
        have HC := Lib.hid hc
        clear hc h1
        go_wp2_with fail
        refine HC.out.mono ?_
        rintro e w5 ⟨rfl, E5⟩
        go_wp2_with fail
        go_ret
        exact ⟨by rw [HOF.out]; rfl, rE.trans E5⟩
      have hlk := rules_look0 (w := wr) hRr h19 h18
      have hc := max_one (ofL args) av cv _ wr (by rw [hlo]; exact rV) (by omega) (by omega) hbd
      rw [hlo] at hc
      have HC := Lib.hid hc
      have hval : ofE (.mk op n nm args) = maxL (ofL args) := by rw [HOF.out]; simp [ruleP, h19, h18]
      have HV := Lib.hid hval
      clear hc hval
      go_wp2_with fail
      refine HC.out.mono ?_
      rintro e w5 ⟨rfl, E5⟩
      go_wp2_with fail
      go_ret
      exact ⟨by rw [HV.out]; rfl, rE.trans E5⟩
end Go.Proofs.Ytcbdeoekehkbiaa
