/- CodeSpoilt answers true. -/
import Derived.Test.YtgkbhonjodcakaaJ17
import Derived.Test.YtgkbhonjodcakaaJE
import Derived.Test.YtgkbhonjodcakaaJ10
import Derived.Lib.AppendZeros
import Derived.Deep.RegionLaw
import Derived.Deep.RegionHeld3
import Derived.Deep.Cut
namespace Go.Proofs.Ytgkbhonjodcakaa
open Go.RowKit
set_option linter.unusedVariables false
set_option linter.unusedSimpArgs false

section
open Go.ChangeShapes Go.WideShapes Go.Deep
variable {H : Type} {enc : TypeId × Value → H} {w : World}
theorem spoilt_open {v : Value} {d : DataW H} {ps : List MemPlace} (hv : ∃ cs, v = .agg cs ∧ v.cells = cs) (h : DataW.Trod enc Try.prog w 0 (fun _ => true) true 35 v d ps) (hl : Lite Try.prog 35 d) :
    ∃ (pl : List PlD) (pv : Value) (l : List IsD) (lv : Value) (a b : Int), v = .agg #[pv, lv, .int .u16 a, .int .u8 b] ∧ RdPlS w pl pv ∧ RdIsS w l lv ∧ (0 ≤ a ∧ a ≤ 65535) ∧ isU8 b := by
  obtain ⟨fuel, h⟩ := h
  obtain ⟨cs, rfl, hcs⟩ := hv
  rw [hcs] at h
  obtain ⟨n', _, hcl, hf⟩ := struct_open Try.underlying35 h hl
  rw [show Try.prog.cellsOf 35 = 4 from by kernel_rfl] at hcl
  obtain ⟨c0, c1, c2, c3, e⟩ := len4 hcl
  rw [e] at hf
  obtain rfl : cs = #[c0, c1, c2, c3] := by cases cs; simpa using e
  obtain ⟨y0, t0, l0⟩ := hf 0 _ 1 rfl (by kernel_rfl)
  obtain ⟨y1, t1, l1⟩ := hf 1 _ 1 rfl (by kernel_rfl)
  obtain ⟨y2, t2, _⟩ := hf 2 _ 1 rfl (by kernel_rfl)
  obtain ⟨y3, t3, _⟩ := hf 3 _ 1 rfl (by kernel_rfl)
  obtain ⟨v0, e0, k0, r0⟩ := pls_open t0 l0
  obtain rfl := one_of e0
  obtain ⟨v1, e1, k1, r1⟩ := iss_open t1 l1
  obtain rfl := one_of e1
  obtain ⟨n2, e2, _, f2⟩ := DataW.trod_int Try.underlying33 t2
  obtain rfl := one_of e2
  obtain ⟨n3, e3, _, f3⟩ := DataW.trod_int Try.underlying5 t3
  obtain rfl := one_of e3
  have f2' : 0 ≤ n2 ∧ n2 ≤ 65535 := by simpa [Lit.wf, IntKind.min, IntKind.max, IntKind.signed, IntKind.bits] using f2
  exact ⟨k0, _, k1, _, n2, n3, rfl, r0, r1, f2', wf_u8 f3⟩
end
theorem rd_some {w : World} {l : List IsD} {a : Option Addr} {n c : Nat} (h : RdIsS w l (.slice a n c)) (h1 : 0 < l.length) : ∃ b o, a = some ⟨b, o, none⟩ := by
  obtain ⟨a', cap', e, _, _, _, h4⟩ := h
  simp only [Value.slice.injEq] at e
  obtain ⟨rfl, _, _⟩ := e
  obtain ⟨_, b, o, e, _⟩ := h4 0 _ (List.getElem?_eq_getElem h1)
  exact ⟨b, o, e⟩
theorem io_rd {w : World} {base : Nat} {l : List IsD} {v : Value} (h : IsO w base l v) (hl : l.length ≤ 1000000) (ho : ∀ x, x ∈ l → isU8 x.op) : RdIsS w l v := (IsV.of h).rdS hl ho
theorem step_append_run {P : Program} {w : World} {ops : Array Oper} {o : Oper} {a : Act} {K : Act → World → Prop} {Q : Exit → Act → World → Prop} {E : Prop} (hgd : o.guard = none) (s x : Operand) (t tn : TypeId)
    (ho : o.op = .call { callee := .builtin .append, args := #[s, x], argTypes := #[t, tn] }) (vs vx : Value) (hs : a.eval s = vs) (hx : a.eval x = vx)
    (v' : Value) (w' : World) (hr : (Builtin.append_ #[t, tn] o.type #[vs, vx]).run P w = .ok v' w') (h : K (a.put o.dst v') w') : if Region.wanted o (yielded ops a.tmps) = true then Oper.wp P o a w K Q else E := by
  have hw : Region.wanted o (yielded ops a.tmps) = true := by simp [Region.wanted, hgd]
  rw [if_pos hw]
  exact Lib.wp_append_run w s x t tn ho vs vx hs hx v' w' hr h
theorem opsGet {r : Nat} (h : r < 6) : ∃ o : Int, ([.int .u8 1, .int .u8 6, .int .u8 17, .int .u8 19, .int .u8 0, .int .u8 18] : List Value)[r]'h = .int .u8 o ∧ (o = 1 ∨ o = 6 ∨ o = 17 ∨ o = 19 ∨ o = 0 ∨ o = 18) := by
  match r, h with
  | 0, _ => exact ⟨1, rfl, by omega⟩
  | 1, _ => exact ⟨6, rfl, by omega⟩
  | 2, _ => exact ⟨17, rfl, by omega⟩
  | 3, _ => exact ⟨19, rfl, by omega⟩
  | 4, _ => exact ⟨0, rfl, by omega⟩
  | 5, _ => exact ⟨18, rfl, by omega⟩
set_option maxRecDepth 100000 in
set_option maxHeartbeats 40000000 in
theorem codeSpoilt_any (ps : List PlD) (pv : Value) (l : List IsD) (lv : Value) (at_ op : Int) (w : World) (hp : RdPlS w ps pv) (hl : RdIsS w l lv) (hat : 0 ≤ at_ ∧ at_ ≤ 65535) (hop : isU8 op) : Calls Try.prog 4 #[.agg #[pv, lv, .int .u16 at_, .int .u8 op]] w (RetT w) := by
  have HP := Lib.hid hp
  have HL := Lib.hid hl
  obtain ⟨pa, pc, rfl, _, _, hpf⟩ := hp.form
  obtain ⟨la, lc, rfl, hlc, hlm, hlf⟩ := hl.form
  clear hp hl
  have HEND : Hid (∀ (X : World), Ext w X → Calls Try.prog 6 #[] X fun e w' => e = .returned (.bool true) ∧ Ext w w') := by
    show ∀ X, _ → _
    intro X hX
    exact (lives17_any X).mono (fun e w' h => ⟨h.1, hX.trans h.2⟩)
  go_enter Try.func4, Try.ntmps4
  go_upto_region 5 with (fail)
  generalize hw0 : w.alloc _ = w0
  have E0 : Ext w w0 := by rw [← hw0]; exact (Chg.refl _ _).alloc _
  clear hw0
  have H1 := Lib.hid (codeChk_any ps l _ _ w0 (HP.out.ext E0) (HL.out.ext E0))
  unfold RetCk at H1
  generalize hc1 : chkC ps l = c1 at *
  obtain ⟨t, one⟩ := c1
  have HX1 := Lib.hid hc1
  clear hc1
  simp only at H1
  go_wp2_with fail
  refine H1.out.mono ?_
  rintro e w1 ⟨rfl, E1'⟩
  have E1 := E0.trans E1'
  clear H1 E1' E0
  cases one
  case false =>
    go_wp2_with fail
    refine (HEND.out _ E1).mono ?_
    rintro e w3 ⟨rfl, E3⟩
    go_wp2_with fail
    go_ret
    exact ⟨rfl, E3⟩
  by_cases hps : ps.length ≤ 1000
  case neg =>
    have q1 : (1000 : Int) < (ps.length : Int) := by omega
    go_wp2_with fail
    refine (HEND.out _ E1).mono ?_
    rintro e w3 ⟨rfl, E3⟩
    go_wp2_with fail
    go_ret
    exact ⟨rfl, E3⟩
  have q1 : ¬ (1000 : Int) < (ps.length : Int) := by omega
  by_cases hl7 : l.length ≤ 700
  case neg =>
    have q2 : (700 : Int) < (l.length : Int) := by omega
    go_wp2_with fail
    refine (HEND.out _ E1).mono ?_
    rintro e w3 ⟨rfl, E3⟩
    go_wp2_with fail
    go_ret
    exact ⟨rfl, E3⟩
  have q2 : ¬ (700 : Int) < (l.length : Int) := by omega
  have hpos := spoilt_pos HX1.out
  obtain ⟨b, o, rfl⟩ := rd_some HL.out hpos
  have hl0 : (l.length : Int) ≠ 0 := by omega
  have hemod := Int.emod_nonneg at_ hl0
  have hemod2 := Int.emod_lt_of_pos at_ (show (0 : Int) < (l.length : Int) by omega)
  obtain ⟨k, hk⟩ : ∃ k : Nat, at_ % (l.length : Int) = (k : Int) := ⟨(at_ % (l.length : Int)).toNat, by omega⟩
  have hkl : k < l.length := by omega
  have htm : at_.tmod (l.length : Int) = (k : Int) := by rw [Int.tmod_eq_emod_of_nonneg hat.1, hk]
  have hmx : max (1 : Int) (l.length : Int) = (l.length : Int) := by omega
  have hmx2 : ¬ ((l.length : Int) < 1) := by omega
  have hwa : IntKind.i64.wrap at_ = at_ := by rw [IntKind.wrap_i64] <;> omega
  have hif : (if (1 : Int) < (l.length : Int) then (l.length : Int) else 1) = (l.length : Int) := by split <;> omega
  have hem : at_ % (l.length : Int) = (k : Int) := hk
  have q3 : ¬ ((l.length : Int) ≤ (k : Int)) := by omega
  have q4 : (k : Int) < (l.length : Int) := by omega
  have q5 : (k : Int) ≤ (lc : Int) := by omega
  have hwk : IntKind.i64.wrap ((k : Int) + 1) = (k : Int) + 1 := by rw [IntKind.wrap_i64] <;> omega
  have q6 : (k : Int) + 1 ≤ (l.length : Int) := by omega
  have q7 : (0 : Int) ≤ (k : Int) + 1 := by omega
  have HKM := Lib.hid hk
  clear hk hemod hemod2
  go_upto_region 11 with (fail)
  have d1 : Ext w1 w1.drew := (Chg.refl _ _).drew
  have hR1 := (HL.out.ext (E1.trans d1)).take (k := k) (c := lc) (by omega) (by omega) hlm
  have htl : (l.take k).length = k := by rw [List.length_take]; omega
  have hdl : (l.drop (k + 1)).length = l.length - (k + 1) := List.length_drop
  obtain ⟨a3, c3, w3, hr3, hO3, E3'⟩ := app_new hR1 htl.symm (by omega) 23
  have E13 := d1.trans E3'
  obtain ⟨ab, ao, had, hRd⟩ : ∃ ab ao, (if lc = k + 1 then some (⟨b, o, none⟩ : Addr) else some ⟨b, o + (k + 1) * 3, none⟩) = some ⟨ab, ao, none⟩ ∧ RdIsS w3 (l.drop (k + 1)) (.slice (some ⟨ab, ao, none⟩) (l.length - (k + 1)) (lc - (k + 1))) := by
    by_cases hcap : lc = k + 1
    · refine ⟨b, o, if_pos hcap, ?_⟩
      rw [show l.drop (k + 1) = [] from List.drop_eq_nil_of_le (by omega), show l.length - (k + 1) = 0 from by omega]
      exact is_none (by omega)
    · exact ⟨b, o + (k + 1) * 3, if_neg hcap, (HL.out.ext (E1.trans E13)).drop (by omega) (by omega) (by omega)⟩
  obtain ⟨a4, c4, w4, hr4, hO4, C4⟩ := app_is hO3 (by have := E3'.size; omega) hRd hdl.symm (by omega) 23
  have E4' : Ext w1 w4 := Ext.then E13 C4 (fun q hq => by have := (World.ownsRow.lt hO3 q hq).1; have := d1.size; omega)
  have E4 := E1.trans E4'
  rw [htl] at hr3 hr4
  have hnn : k + (l.drop (k + 1)).length = l.length - 1 := by omega
  have hrd4 : RdIsS w4 (l.take k ++ l.drop (k + 1)) (.slice a4 (l.length - 1) c4) := by
    have := io_rd hO4 (by rw [List.length_append]; omega) (fun x hx => by
      rcases List.mem_append.1 hx with h | h
      · exact HL.out.u8 x (List.mem_of_mem_take h)
      · exact HL.out.u8 x (List.mem_of_mem_drop h))
    rw [htl, hnn] at this
    exact this
  rw [hnn] at hr4
  have HRD4 := Lib.hid hrd4
  have H4 := Lib.hid (codeChk_any ps _ _ _ w4 (HP.out.ext E4) hrd4)
  unfold RetCk at H4
  clear hrd4 hO4 C4 hRd hO3 E3' hR1 htl hdl hnn
  have hx := List.getElem?_eq_getElem hkl
  have HSP := Lib.hid (fun u (h : chkC ps (l.take k ++ l.drop (k + 1)) = (u, true)) => spoilt_less HX1.out hx h)
  have HPAIR := Lib.hid (fun h => chk_some (ps := ps) (l := l.take k ++ l.drop (k + 1)) h)
  obtain ⟨_, _, e, _, hu8, c0, _, _⟩ := (HL.out.ext E4).get hx
  simp only [Option.some.injEq, Addr.mk.injEq, and_true] at e
  obtain ⟨rfl, rfl⟩ := e
  generalize l[k] = x at *
  clear hx
  go_region_held3 (fun X => Ext w1 X) (first | exact d1 | exact E13 | exact E4')
    (first
      | (refine step_append_run (by rfl) _ _ 23 23 (by rfl) (.slice none 0 0) (.slice (some ⟨b, o, none⟩) k lc) (by rfl) (by rfl) _ _ hr3 ?_)
      | (refine step_append_run (by rfl) _ _ 23 23 (by rfl) (.slice a3 k c3) (.slice (some ⟨ab, ao, none⟩) (l.length - (k + 1)) (lc - (k + 1))) (by rfl) (by rfl) _ _ hr4 ?_))
  generalize hc4 : chkC ps (l.take k ++ l.drop (k + 1)) = c4 at *
  obtain ⟨t4, still⟩ := c4
  simp only at H4 HPAIR HSP
  clear hr3 hr4 had hmx hmx2 hif hem htm hwa hwk q5 q6
  go_wp2_with fail
  refine H4.out.mono ?_
  rintro e w5 ⟨rfl, E5'⟩
  have c05 := Ext.cell E5' c0
  have E5 := E4.trans E5'
  clear H4 E5' E4' E4
  have h45 : still = true → x.op = 4 ∨ x.op = 5 := fun h => by
    obtain ⟨t, ht⟩ := HPAIR.out h
    exact HSP.out t ht
  have hsplit : x.op = 4 ∨ x.op = 5 ∨ (still = false ∧ x.op ≠ 4 ∧ x.op ≠ 5) := by
    cases still with
    | true => rcases h45 rfl with h | h
              · exact .inl h
              · exact .inr (.inl h)
    | false =>
      by_cases h4 : x.op = 4
      · exact .inl h4
      by_cases h5 : x.op = 5
      · exact .inr (.inl h5)
      exact .inr (.inr ⟨rfl, h4, h5⟩)
  clear h45 HSP HPAIR hc4 hu8 HRD4
  generalize x.op = xo at *
  have q8 : (0 : Int) ≤ (k : Int) := by omega
  obtain ⟨r, hr⟩ : ∃ r : Nat, op % 6 = (r : Int) := ⟨(op % 6).toNat, by omega⟩
  have hr6 : r < 6 := by omega
  have hop0 : 0 ≤ op ∧ op ≤ 255 := by unfold isU8 at hop; omega
  have hrt : op.tmod 6 = (r : Int) := by rw [Int.tmod_eq_emod_of_nonneg hop0.1, hr]
  have HR := Lib.hid hr
  clear hr
  obtain ⟨o6, hget, ho6⟩ := opsGet hr6
  have hrr : (r : Int) < 6 := by omega
  have hou : isU8 o6 := by unfold isU8; omega
  rcases hsplit with rfl | rfl | ⟨rfl, n4, n5⟩
  · cases still
    · skip
      go_upto_region 17 with (fail)
      try rw [hget]
      generalize hwA : w5.alloc _ = wA
      have eA : Ext w5 wA := by rw [← hwA]; exact (Chg.refl _ _).alloc _
      have EA := E5.trans eA
      clear hwA
      obtain ⟨a6, c6, w6, hr6', hO6, E6⟩ := app_new (HL.out.ext EA) rfl (by omega) 23
      have hb7 := is_single (w := w6) hou
      have e7 : Ext w6 (w6.alloc (.cells #[.int .u8 o6, .int .i64 0, .int .i64 0] 38)) := (Chg.refl _ _).alloc _
      obtain ⟨a7, c7, w7, hr7, hO7, C7⟩ := app_is (hO6.ext e7) (by have := E6.size; simp; omega) hb7 rfl (by simp; omega) 23
      have E7 : Ext w w7 := Ext.then (EA.trans (E6.trans e7)) C7 (fun q hq => by have := (World.ownsRow.lt hO6 q hq).1; have := EA.size; omega)
      have hR7 : RdIsS w7 (l ++ [⟨o6, 0, 0⟩]) _ := io_rd hO7 (by rw [List.length_append]; simp; omega) (fun x hx => by
        rcases List.mem_append.1 hx with h | h
        · exact HL.out.u8 x h
        · rw [List.mem_singleton.1 h]; exact hou)
      have hck := codeChk_any ps _ _ _ w7 (HP.out.ext E7) hR7
      unfold RetCk at hck
      rw [spoilt_more HX1.out ho6] at hck
      simp only [List.length_cons, List.length_nil, Nat.zero_add] at hck hr7
      have HCK := Lib.hid hck
      clear hck hR7 hO7 C7 hb7 e7 hO6 E6 E5 EA eA
      go_wp2_with (first | (at_builtin; refine Lib.wpList_append_run _ rfl _ _ _ _ rfl _ _ rfl rfl _ _ hr6' ?_) | (at_builtin; refine Lib.wpList_append_run _ rfl _ _ _ _ rfl _ _ rfl rfl _ _ hr7 ?_))
      refine HCK.out.mono ?_
      rintro e w8 ⟨rfl, E8⟩
      have E9 := E7.trans E8
      go_wp2_with fail
      refine (HEND.out _ E9).mono ?_
      rintro e w9 ⟨rfl, E10⟩
      go_wp2_with fail
      go_ret
      exact ⟨rfl, E10⟩
    · skip
      go_upto_region 17 with (fail)
      try rw [hget]
      generalize hwA : w5.alloc _ = wA
      have eA : Ext w5 wA := by rw [← hwA]; exact (Chg.refl _ _).alloc _
      have EA := E5.trans eA
      clear hwA
      obtain ⟨a6, c6, w6, hr6', hO6, E6⟩ := app_new (HL.out.ext EA) rfl (by omega) 23
      have hb7 := is_single (w := w6) hou
      have e7 : Ext w6 (w6.alloc (.cells #[.int .u8 o6, .int .i64 0, .int .i64 0] 38)) := (Chg.refl _ _).alloc _
      obtain ⟨a7, c7, w7, hr7, hO7, C7⟩ := app_is (hO6.ext e7) (by have := E6.size; simp; omega) hb7 rfl (by simp; omega) 23
      have E7 : Ext w w7 := Ext.then (EA.trans (E6.trans e7)) C7 (fun q hq => by have := (World.ownsRow.lt hO6 q hq).1; have := EA.size; omega)
      have hR7 : RdIsS w7 (l ++ [⟨o6, 0, 0⟩]) _ := io_rd hO7 (by rw [List.length_append]; simp; omega) (fun x hx => by
        rcases List.mem_append.1 hx with h | h
        · exact HL.out.u8 x h
        · rw [List.mem_singleton.1 h]; exact hou)
      have hck := codeChk_any ps _ _ _ w7 (HP.out.ext E7) hR7
      unfold RetCk at hck
      rw [spoilt_more HX1.out ho6] at hck
      simp only [List.length_cons, List.length_nil, Nat.zero_add] at hck hr7
      have HCK := Lib.hid hck
      clear hck hR7 hO7 C7 hb7 e7 hO6 E6 E5 EA eA
      go_wp2_with (first | (at_builtin; refine Lib.wpList_append_run _ rfl _ _ _ _ rfl _ _ rfl rfl _ _ hr6' ?_) | (at_builtin; refine Lib.wpList_append_run _ rfl _ _ _ _ rfl _ _ rfl rfl _ _ hr7 ?_))
      refine HCK.out.mono ?_
      rintro e w8 ⟨rfl, E8⟩
      have E9 := E7.trans E8
      go_wp2_with fail
      refine (HEND.out _ E9).mono ?_
      rintro e w9 ⟨rfl, E10⟩
      go_wp2_with fail
      go_ret
      exact ⟨rfl, E10⟩
  · cases still
    · skip
      go_upto_region 17 with (fail)
      try rw [hget]
      generalize hwA : w5.alloc _ = wA
      have eA : Ext w5 wA := by rw [← hwA]; exact (Chg.refl _ _).alloc _
      have EA := E5.trans eA
      clear hwA
      obtain ⟨a6, c6, w6, hr6', hO6, E6⟩ := app_new (HL.out.ext EA) rfl (by omega) 23
      have hb7 := is_single (w := w6) hou
      have e7 : Ext w6 (w6.alloc (.cells #[.int .u8 o6, .int .i64 0, .int .i64 0] 38)) := (Chg.refl _ _).alloc _
      obtain ⟨a7, c7, w7, hr7, hO7, C7⟩ := app_is (hO6.ext e7) (by have := E6.size; simp; omega) hb7 rfl (by simp; omega) 23
      have E7 : Ext w w7 := Ext.then (EA.trans (E6.trans e7)) C7 (fun q hq => by have := (World.ownsRow.lt hO6 q hq).1; have := EA.size; omega)
      have hR7 : RdIsS w7 (l ++ [⟨o6, 0, 0⟩]) _ := io_rd hO7 (by rw [List.length_append]; simp; omega) (fun x hx => by
        rcases List.mem_append.1 hx with h | h
        · exact HL.out.u8 x h
        · rw [List.mem_singleton.1 h]; exact hou)
      have hck := codeChk_any ps _ _ _ w7 (HP.out.ext E7) hR7
      unfold RetCk at hck
      rw [spoilt_more HX1.out ho6] at hck
      simp only [List.length_cons, List.length_nil, Nat.zero_add] at hck hr7
      have HCK := Lib.hid hck
      clear hck hR7 hO7 C7 hb7 e7 hO6 E6 E5 EA eA
      go_wp2_with (first | (at_builtin; refine Lib.wpList_append_run _ rfl _ _ _ _ rfl _ _ rfl rfl _ _ hr6' ?_) | (at_builtin; refine Lib.wpList_append_run _ rfl _ _ _ _ rfl _ _ rfl rfl _ _ hr7 ?_))
      refine HCK.out.mono ?_
      rintro e w8 ⟨rfl, E8⟩
      have E9 := E7.trans E8
      go_wp2_with fail
      refine (HEND.out _ E9).mono ?_
      rintro e w9 ⟨rfl, E10⟩
      go_wp2_with fail
      go_ret
      exact ⟨rfl, E10⟩
    · skip
      go_upto_region 17 with (fail)
      try rw [hget]
      generalize hwA : w5.alloc _ = wA
      have eA : Ext w5 wA := by rw [← hwA]; exact (Chg.refl _ _).alloc _
      have EA := E5.trans eA
      clear hwA
      obtain ⟨a6, c6, w6, hr6', hO6, E6⟩ := app_new (HL.out.ext EA) rfl (by omega) 23
      have hb7 := is_single (w := w6) hou
      have e7 : Ext w6 (w6.alloc (.cells #[.int .u8 o6, .int .i64 0, .int .i64 0] 38)) := (Chg.refl _ _).alloc _
      obtain ⟨a7, c7, w7, hr7, hO7, C7⟩ := app_is (hO6.ext e7) (by have := E6.size; simp; omega) hb7 rfl (by simp; omega) 23
      have E7 : Ext w w7 := Ext.then (EA.trans (E6.trans e7)) C7 (fun q hq => by have := (World.ownsRow.lt hO6 q hq).1; have := EA.size; omega)
      have hR7 : RdIsS w7 (l ++ [⟨o6, 0, 0⟩]) _ := io_rd hO7 (by rw [List.length_append]; simp; omega) (fun x hx => by
        rcases List.mem_append.1 hx with h | h
        · exact HL.out.u8 x h
        · rw [List.mem_singleton.1 h]; exact hou)
      have hck := codeChk_any ps _ _ _ w7 (HP.out.ext E7) hR7
      unfold RetCk at hck
      rw [spoilt_more HX1.out ho6] at hck
      simp only [List.length_cons, List.length_nil, Nat.zero_add] at hck hr7
      have HCK := Lib.hid hck
      clear hck hR7 hO7 C7 hb7 e7 hO6 E6 E5 EA eA
      go_wp2_with (first | (at_builtin; refine Lib.wpList_append_run _ rfl _ _ _ _ rfl _ _ rfl rfl _ _ hr6' ?_) | (at_builtin; refine Lib.wpList_append_run _ rfl _ _ _ _ rfl _ _ rfl rfl _ _ hr7 ?_))
      refine HCK.out.mono ?_
      rintro e w8 ⟨rfl, E8⟩
      have E9 := E7.trans E8
      go_wp2_with fail
      refine (HEND.out _ E9).mono ?_
      rintro e w9 ⟨rfl, E10⟩
      go_wp2_with fail
      go_ret
      exact ⟨rfl, E10⟩
  · have b4 : (xo == 4) = false := by simpa using n4
    have b5 : (xo == 5) = false := by simpa using n5
    go_upto_region 17 with (fail)
    try rw [hget]
    generalize hwA : w5.alloc _ = wA
    have eA : Ext w5 wA := by rw [← hwA]; exact (Chg.refl _ _).alloc _
    have EA := E5.trans eA
    clear hwA
    obtain ⟨a6, c6, w6, hr6', hO6, E6⟩ := app_new (HL.out.ext EA) rfl (by omega) 23
    have hb7 := is_single (w := w6) hou
    have e7 : Ext w6 (w6.alloc (.cells #[.int .u8 o6, .int .i64 0, .int .i64 0] 38)) := (Chg.refl _ _).alloc _
    obtain ⟨a7, c7, w7, hr7, hO7, C7⟩ := app_is (hO6.ext e7) (by have := E6.size; simp; omega) hb7 rfl (by simp; omega) 23
    have E7 : Ext w w7 := Ext.then (EA.trans (E6.trans e7)) C7 (fun q hq => by have := (World.ownsRow.lt hO6 q hq).1; have := EA.size; omega)
    have hR7 : RdIsS w7 (l ++ [⟨o6, 0, 0⟩]) _ := io_rd hO7 (by rw [List.length_append]; simp; omega) (fun x hx => by
      rcases List.mem_append.1 hx with h | h
      · exact HL.out.u8 x h
      · rw [List.mem_singleton.1 h]; exact hou)
    have hck := codeChk_any ps _ _ _ w7 (HP.out.ext E7) hR7
    unfold RetCk at hck
    rw [spoilt_more HX1.out ho6] at hck
    simp only [List.length_cons, List.length_nil, Nat.zero_add] at hck hr7
    have HCK := Lib.hid hck
    clear hck hR7 hO7 C7 hb7 e7 hO6 E6 E5 EA eA
    go_wp2_with (first | (at_builtin; refine Lib.wpList_append_run _ rfl _ _ _ _ rfl _ _ rfl rfl _ _ hr6' ?_) | (at_builtin; refine Lib.wpList_append_run _ rfl _ _ _ _ rfl _ _ rfl rfl _ _ hr7 ?_))
    refine HCK.out.mono ?_
    rintro e w8 ⟨rfl, E8⟩
    have E9 := E7.trans E8
    go_wp2_with fail
    refine (HEND.out _ E9).mono ?_
    rintro e w9 ⟨rfl, E10⟩
    go_wp2_with fail
    go_ret
    exact ⟨rfl, E10⟩
end Go.Proofs.Ytgkbhonjodcakaa
