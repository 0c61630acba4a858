/- CodeJoins answers true. -/
import Derived.Test.YtgkbhonjodcakaaJ17
import Derived.Test.YtgkbhonjodcakaaJE
import Derived.Test.YtgkbhonjodcakaaJ10
import Derived.Lib.AppendZeros
namespace Go.Proofs.Ytgkbhonjodcakaa
open Go.RowKit
set_option linter.unusedVariables false
set_option linter.unusedSimpArgs false

theorem rd_some {w : World} {l : List IsD} {a : Option Addr} {n c : Nat} (h : RdIsS w l (.slice a n c)) (h1 : 0 < l.length) : ∃ b o, a = some ⟨b, o, none⟩ := by
  obtain ⟨a', cap', e, _, _, _, h4⟩ := h
  simp only [Value.slice.injEq] at e
  obtain ⟨rfl, _, _⟩ := e
  obtain ⟨_, b, o, e, _⟩ := h4 0 _ (List.getElem?_eq_getElem h1)
  exact ⟨b, o, e⟩
theorem io_rd {w : World} {base : Nat} {l : List IsD} {v : Value} (h : IsO w base l v) (hl : l.length ≤ 1000000) (ho : ∀ x, x ∈ l → isU8 x.op) : RdIsS w l v := (IsV.of h).rdS hl ho
theorem chk_pair {ps : List PlD} {l : List IsD} (h : (chkC ps l).2 = true) : chkC ps l = ((chkC ps l).1, true) := by rw [← h]

set_option maxRecDepth 100000 in
set_option maxHeartbeats 8000000 in
theorem codeJoins_any (ps : List PlD) (pv : Value) (a : List IsD) (av : Value) (b : List IsD) (bv : Value) (w : World) (hp : RdPlS w ps pv) (ha : RdIsS w a av) (hb : RdIsS w b bv) : Calls Try.prog 5 #[pv, av, bv] w (RetT w) := by
  have HP := Lib.hid hp
  have HA := Lib.hid ha
  have HB := Lib.hid hb
  obtain ⟨pa, pc, rfl, _, _, hpf⟩ := hp.form
  obtain ⟨aa, ac, rfl, _, _, haf⟩ := ha.form
  obtain ⟨ba, bc, rfl, _, _, hbf⟩ := hb.form
  clear hp ha hb
  have HEND : Hid (∀ (X : World), Ext w X → Calls Try.prog 6 #[] X fun e w' => e = .returned (.bool true) ∧ Ext w w') := by
    show ∀ X, _ → _
    intro X hX
    exact (lives17_any X).mono (fun e w' h => ⟨h.1, hX.trans h.2⟩)
  have H1 := Lib.hid (codeChk_any ps a _ _ w HP.out HA.out)
  unfold RetCk at H1
  have HC1 := Lib.hid (chk_pair (ps := ps) (l := a))
  generalize hc1 : chkC ps a = c1 at *
  obtain ⟨t, one⟩ := c1
  have HX1 := Lib.hid hc1
  clear hc1
  simp only at H1 HC1
  go_enter Try.func5, Try.ntmps5
  go_wp2_with fail
  refine H1.out.mono ?_
  rintro e w1 ⟨rfl, E1⟩
  clear H1
  have H2 := Lib.hid (codeChk_any ps b _ _ w1 (HP.out.ext E1) (HB.out.ext E1))
  unfold RetCk at H2
  generalize hc2 : chkC ps b = c2 at *
  obtain ⟨u, two⟩ := c2
  have HX2 := Lib.hid hc2
  clear hc2 HC1
  simp only at H2
  go_wp2_with fail
  refine H2.out.mono ?_
  rintro e w2 ⟨rfl, E2'⟩
  have E2 := E1.trans E2'
  clear H2 E2' E1
  cases one
  case false =>
    go_wp2_with fail
    refine (HEND.out _ E2).mono ?_
    rintro e w3 ⟨rfl, E3⟩
    go_wp2_with fail
    go_ret
    exact ⟨rfl, E3⟩
  cases two
  case false =>
    go_wp2_with fail
    refine (HEND.out _ E2).mono ?_
    rintro e w3 ⟨rfl, E3⟩
    go_wp2_with fail
    go_ret
    exact ⟨rfl, E3⟩
  by_cases hps : ps.length ≤ 1000
  case neg =>
    have q1 : (1000 : Int) < (ps.length : Int) := by omega
    go_wp2_with fail
    refine (HEND.out _ E2).mono ?_
    rintro e w3 ⟨rfl, E3⟩
    go_wp2_with fail
    go_ret
    exact ⟨rfl, E3⟩
  have q1 : ¬ (1000 : Int) < (ps.length : Int) := by omega
  have hwr : IntKind.i64.wrap ((a.length : Int) + (b.length : Int)) = (a.length : Int) + (b.length : Int) := by rw [IntKind.wrap_i64] <;> omega
  by_cases hab : a.length + b.length < 800
  case neg =>
    have q2 : (800 : Int) ≤ (a.length : Int) + (b.length : Int) := by omega
    go_wp2_with fail
    refine (HEND.out _ E2).mono ?_
    rintro e w3 ⟨rfl, E3⟩
    go_wp2_with fail
    go_ret
    exact ⟨rfl, E3⟩
  have q2 : ¬ (800 : Int) ≤ (a.length : Int) + (b.length : Int) := by omega
  obtain ⟨ab, ao, rfl⟩ := rd_some HA.out (spoilt_pos HX1.out)
  obtain ⟨bb, bo, rfl⟩ := rd_some HB.out (spoilt_pos HX2.out)
  have ht0 : t ≠ 0 := run_ne (chk_true HX1.out).2.2 (fun t h => by cases h) t (by simp)
  have HJ := Lib.hid (fun (o : Int) (h1 : 6 ≤ o) (h2 : o ≤ 18) (h3 : o ≠ 17) => joins_chk HX1.out HX2.out hab h1 h2 h3)
  obtain ⟨a3, c3, w3, hr3, hO3, E3'⟩ := app_new (HA.out.ext E2) rfl (by omega) 23
  have E3 := E2.trans E3'
  obtain ⟨a4, c4, w4, hr4, hO4, C4⟩ := app_is hO3 (by have := E3'.size; omega) (HB.out.ext E3) rfl (by omega) 23
  have E4 : Ext w w4 := Ext.then E3 C4 (fun q hq => by have := (World.ownsRow.lt hO3 q hq).1; have := E2.size; omega)
  have hu8 : ∀ x, x ∈ a ++ b → isU8 x.op := fun x hx => by
    rcases List.mem_append.1 hx with h | h
    · exact HA.out.u8 x h
    · exact HB.out.u8 x h
  have hR4 : RdIsS w4 (a ++ b) (.slice a4 (a.length + b.length) c4) := io_rd hO4 (by rw [List.length_append]; omega) hu8
  obtain ⟨b4, o4, rfl⟩ := rd_some hR4 (by rw [List.length_append]; have := spoilt_pos HX1.out; omega)
  have HR4 := Lib.hid hR4
  have HU8 := Lib.hid hu8
  have hlen : (a ++ b).length = a.length + b.length := List.length_append
  clear hO3 hO4 C4 E3' E3 hR4 hu8 HB HA HX1 HX2
  go_wp2_with (first | (at_builtin; refine Lib.wpList_append_run _ rfl _ _ _ _ rfl _ _ rfl rfl _ _ hr3 ?_) | (at_builtin; refine Lib.wpList_append_run _ rfl _ _ _ _ rfl _ _ rfl rfl _ _ hr4 ?_))
  clear hr3 hr4 E2
  generalize hL : a ++ b = L at *
  have HL := Lib.hid hL
  generalize hn : a.length + b.length = n at *
  have HLN := Lib.hid hlen
  have hn8 : n < 800 := hab
  clear hL hn hlen hab hwr q1 q2
  go_loopw [12] (fun ov wr => ∃ k : Nat, k ≤ 13 ∧ ov = .int .u8 ((k : Int) + 6) ∧ Ext w4 wr) (fun ov _ => 13 - ((intOf ov) - 6).toNat)
  case atStart => exact ⟨0, by omega, rfl, Chg.refl _ _⟩
  case round =>
    obtain ⟨k, hk, rfl, hE⟩ := hrel
    by_cases hlt : k = 13
    case pos =>
      subst hlt
      have HE := E4.trans hE
      go_wp2_with fail
      refine (HEND.out _ HE).mono ?_
      rintro e w5 ⟨rfl, E5⟩
      go_wp2_with fail
      go_ret
      exact ⟨rfl, E5⟩
    by_cases h17 : k = 11
    case pos =>
      subst h17
      go_wp2_with fail
      go_roundw
      case rel => exact ⟨12, by omega, by go_num, hE⟩
      case measure => simp [intOf]
    obtain ⟨o, ho⟩ : ∃ o : Int, o = (k : Int) + 6 := ⟨_, rfl⟩
    have ho1 : 6 ≤ o := by omega
    have ho2 : o ≤ 18 := by omega
    have ho3 : o ≠ 17 := by omega
    have hou : isU8 o := by unfold isU8; omega
    have hJ := HJ.out o ho1 ho2 ho3
    obtain ⟨a5, c5, w5, hr5, hO5, E5⟩ := app_new (HR4.out.ext hE) HLN.out.symm (by have := HLN.out; omega) 23
    have hb6 := is_single (w := w5) hou
    have e6 : Ext w5 (w5.alloc (.cells #[.int .u8 o, .int .i64 0, .int .i64 0] 38)) := (Chg.refl _ _).alloc _
    obtain ⟨a7, c7, w7, hr7, hO7, C7⟩ := app_is (hO5.ext e6) (by have := E5.size; simp; omega) hb6 rfl (by have := HLN.out; simp; omega) 23
    have E7 : Ext w4 w7 := Ext.then (hE.trans (E5.trans e6)) C7 (fun q hq => by have := (World.ownsRow.lt hO5 q hq).1; have := hE.size; omega)
    have hR7 : RdIsS w7 (L ++ [⟨o, 0, 0⟩]) _ := io_rd hO7 (by rw [List.length_append]; have := HLN.out; simp; omega) (fun x hx => by
      rcases List.mem_append.1 hx with h | h
      · exact HU8.out x h
      · rw [List.mem_singleton.1 h]; exact hou)
    have hck := codeChk_any ps _ _ _ w7 (HP.out.ext (E4.trans E7)) hR7
    unfold RetCk at hck
    rw [hJ] at hck
    simp only [List.length_cons, List.length_nil, Nat.zero_add] at hck
    rw [HLN.out] at hr5 hr7 hck
    have HCK := Lib.hid hck
    clear hck hJ hR7 hO7 C7 hb6 e6 hO5 E5 hou
    subst ho
    simp only [List.length_cons, List.length_nil, Nat.zero_add] at hr7
    clear HR4 HU8
    go_wp2_with (first | (at_builtin; refine Lib.wpList_append_run _ rfl _ _ _ _ rfl _ _ rfl rfl _ _ hr5 ?_) | (at_builtin; refine Lib.wpList_append_run _ rfl _ _ _ _ rfl _ _ rfl rfl _ _ hr7 ?_))
    refine HCK.out.mono ?_
    rintro e w8 ⟨rfl, E8⟩
    have HE8 := Lib.hid (E7.trans E8)
    clear hr5 hr7 HCK E7 E8 hE HJ HP
    generalize hv : joinT ((k : Int) + 6) t u = v at *
    have hk12 : k = 0 ∨ k = 1 ∨ k = 2 ∨ k = 3 ∨ k = 4 ∨ k = 5 ∨ k = 6 ∨ k = 7 ∨ k = 8 ∨ k = 9 ∨ k = 10 ∨ k = 12 := by omega
    clear ho1 ho2 ho3 hlt h17 hk
    by_cases htu : t = u
    case neg =>
      have bt : (t == u) = false := by simpa using htu
      have hv0 : v = 0 := by rw [← hv]; unfold joinT; rw [if_neg htu]
      clear hv
      subst hv0
      rcases hk12 with rfl | rfl | rfl | rfl | rfl | rfl | rfl | rfl | rfl | rfl | rfl | rfl
      · go_wp2_with fail
        go_roundw
        case rel => exact ⟨1, by omega, by go_num, HE8.out⟩
        case measure => simp [intOf]
      · go_wp2_with fail
        go_roundw
        case rel => exact ⟨2, by omega, by go_num, HE8.out⟩
        case measure => simp [intOf]
      · go_wp2_with fail
        go_roundw
        case rel => exact ⟨3, by omega, by go_num, HE8.out⟩
        case measure => simp [intOf]
      · go_wp2_with fail
        go_roundw
        case rel => exact ⟨4, by omega, by go_num, HE8.out⟩
        case measure => simp [intOf]
      · go_wp2_with fail
        go_roundw
        case rel => exact ⟨5, by omega, by go_num, HE8.out⟩
        case measure => simp [intOf]
      · go_wp2_with fail
        go_roundw
        case rel => exact ⟨6, by omega, by go_num, HE8.out⟩
        case measure => simp [intOf]
      · go_wp2_with fail
        go_roundw
        case rel => exact ⟨7, by omega, by go_num, HE8.out⟩
        case measure => simp [intOf]
      · go_wp2_with fail
        go_roundw
        case rel => exact ⟨8, by omega, by go_num, HE8.out⟩
        case measure => simp [intOf]
      · go_wp2_with fail
        go_roundw
        case rel => exact ⟨9, by omega, by go_num, HE8.out⟩
        case measure => simp [intOf]
      · go_wp2_with fail
        go_roundw
        case rel => exact ⟨10, by omega, by go_num, HE8.out⟩
        case measure => simp [intOf]
      · go_wp2_with fail
        go_roundw
        case rel => exact ⟨11, by omega, by go_num, HE8.out⟩
        case measure => simp [intOf]
      · go_wp2_with fail
        go_roundw
        case rel => exact ⟨13, by omega, by go_num, HE8.out⟩
        case measure => simp [intOf]
    subst htu
    have bt : (t == t) = true := by simp
    rcases hk12 with rfl | rfl | rfl | rfl | rfl | rfl | rfl | rfl | rfl | rfl | rfl | rfl
    · by_cases h1 : t = 1
      case neg =>
        have b1 : (t == 1) = false := by simpa using h1
        have hv0 : v = 0 := by rw [← hv]; simp [joinT, h1]
        clear hv
        subst hv0
        go_wp2_with fail
        go_roundw
        case rel => exact ⟨1, by omega, by go_num, HE8.out⟩
        case measure => simp [intOf]
      subst h1
      have hv0 : v = 1 := by rw [← hv]; simp [joinT]
      clear hv
      subst hv0
      go_wp2_with fail
      go_roundw
      case rel => exact ⟨1, by omega, by go_num, HE8.out⟩
      case measure => simp [intOf]
    · by_cases h1 : t = 1
      case neg =>
        have b1 : (t == 1) = false := by simpa using h1
        have hv0 : v = 0 := by rw [← hv]; simp [joinT, h1]
        clear hv
        subst hv0
        go_wp2_with fail
        go_roundw
        case rel => exact ⟨2, by omega, by go_num, HE8.out⟩
        case measure => simp [intOf]
      subst h1
      have hv0 : v = 1 := by rw [← hv]; simp [joinT]
      clear hv
      subst hv0
      go_wp2_with fail
      go_roundw
      case rel => exact ⟨2, by omega, by go_num, HE8.out⟩
      case measure => simp [intOf]
    · by_cases h1 : t = 1
      case neg =>
        have b1 : (t == 1) = false := by simpa using h1
        have hv0 : v = 0 := by rw [← hv]; simp [joinT, h1]
        clear hv
        subst hv0
        go_wp2_with fail
        go_roundw
        case rel => exact ⟨3, by omega, by go_num, HE8.out⟩
        case measure => simp [intOf]
      subst h1
      have hv0 : v = 1 := by rw [← hv]; simp [joinT]
      clear hv
      subst hv0
      go_wp2_with fail
      go_roundw
      case rel => exact ⟨3, by omega, by go_num, HE8.out⟩
      case measure => simp [intOf]
    · by_cases h1 : t = 1
      case neg =>
        have b1 : (t == 1) = false := by simpa using h1
        have hv0 : v = 0 := by rw [← hv]; simp [joinT, h1]
        clear hv
        subst hv0
        go_wp2_with fail
        go_roundw
        case rel => exact ⟨4, by omega, by go_num, HE8.out⟩
        case measure => simp [intOf]
      subst h1
      have hv0 : v = 1 := by rw [← hv]; simp [joinT]
      clear hv
      subst hv0
      go_wp2_with fail
      go_roundw
      case rel => exact ⟨4, by omega, by go_num, HE8.out⟩
      case measure => simp [intOf]
    · by_cases h1 : t = 1
      case neg =>
        have b1 : (t == 1) = false := by simpa using h1
        have hv0 : v = 0 := by rw [← hv]; simp [joinT, h1]
        clear hv
        subst hv0
        go_wp2_with fail
        go_roundw
        case rel => exact ⟨5, by omega, by go_num, HE8.out⟩
        case measure => simp [intOf]
      subst h1
      have hv0 : v = 1 := by rw [← hv]; simp [joinT]
      clear hv
      subst hv0
      go_wp2_with fail
      go_roundw
      case rel => exact ⟨5, by omega, by go_num, HE8.out⟩
      case measure => simp [intOf]
    · have hv0 : v = 2 := by rw [← hv]; simp [joinT]
      clear hv
      subst hv0
      go_wp2_with fail
      go_roundw
      case rel => exact ⟨6, by omega, by go_num, HE8.out⟩
      case measure => simp [intOf]
    · have hv0 : v = 2 := by rw [← hv]; simp [joinT]
      clear hv
      subst hv0
      go_wp2_with fail
      go_roundw
      case rel => exact ⟨7, by omega, by go_num, HE8.out⟩
      case measure => simp [intOf]
    · by_cases h1 : t = 1
      case neg =>
        have b1 : (t == 1) = false := by simpa using h1
        have hv0 : v = 0 := by rw [← hv]; simp [joinT, h1]
        clear hv
        subst hv0
        go_wp2_with fail
        go_roundw
        case rel => exact ⟨8, by omega, by go_num, HE8.out⟩
        case measure => simp [intOf]
      subst h1
      have hv0 : v = 2 := by rw [← hv]; simp [joinT]
      clear hv
      subst hv0
      go_wp2_with fail
      go_roundw
      case rel => exact ⟨8, by omega, by go_num, HE8.out⟩
      case measure => simp [intOf]
    · by_cases h1 : t = 1
      case neg =>
        have b1 : (t == 1) = false := by simpa using h1
        have hv0 : v = 0 := by rw [← hv]; simp [joinT, h1]
        clear hv
        subst hv0
        go_wp2_with fail
        go_roundw
        case rel => exact ⟨9, by omega, by go_num, HE8.out⟩
        case measure => simp [intOf]
      subst h1
      have hv0 : v = 2 := by rw [← hv]; simp [joinT]
      clear hv
      subst hv0
      go_wp2_with fail
      go_roundw
      case rel => exact ⟨9, by omega, by go_num, HE8.out⟩
      case measure => simp [intOf]
    · by_cases h1 : t = 2
      case neg =>
        have b1 : (t == 2) = false := by simpa using h1
        have hv0 : v = 0 := by rw [← hv]; simp [joinT, h1]
        clear hv
        subst hv0
        go_wp2_with fail
        go_roundw
        case rel => exact ⟨10, by omega, by go_num, HE8.out⟩
        case measure => simp [intOf]
      subst h1
      have hv0 : v = 2 := by rw [← hv]; simp [joinT]
      clear hv
      subst hv0
      go_wp2_with fail
      go_roundw
      case rel => exact ⟨10, by omega, by go_num, HE8.out⟩
      case measure => simp [intOf]
    · by_cases h1 : t = 2
      case neg =>
        have b1 : (t == 2) = false := by simpa using h1
        have hv0 : v = 0 := by rw [← hv]; simp [joinT, h1]
        clear hv
        subst hv0
        go_wp2_with fail
        go_roundw
        case rel => exact ⟨11, by omega, by go_num, HE8.out⟩
        case measure => simp [intOf]
      subst h1
      have hv0 : v = 2 := by rw [← hv]; simp [joinT]
      clear hv
      subst hv0
      go_wp2_with fail
      go_roundw
      case rel => exact ⟨11, by omega, by go_num, HE8.out⟩
      case measure => simp [intOf]
    · have hv0 : v = t := by rw [← hv]; simp [joinT]
      clear hv
      subst hv0
      have bz : decide (v ≠ 0) = true := decide_eq_true ht0
      go_wp2_with fail
      go_roundw
      case rel => exact ⟨13, by omega, by go_num, HE8.out⟩
      case measure => simp [intOf]
end Go.Proofs.Ytgkbhonjodcakaa
