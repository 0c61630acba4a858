/- CodeChecks answers true. -/
import Derived.Test.YtgkbhonjodcakaaRefChk17B
import Derived.Test.YtgkbhonjodcakaaTwinPIB
import Derived.Test.YtgkbhonjodcakaaJ17
import Derived.Test.YtgkbhonjodcakaaJF
namespace Go.Proofs.Ytgkbhonjodcakaa
open Go.RowKit
set_option linter.unusedVariables false
set_option linter.unusedSimpArgs false

set_option maxRecDepth 100000 in
set_option maxHeartbeats 40000000 in
theorem codeChecks_any (ps : List PlD) (pv : Value) (l : List IsD) (lv : Value) (w : World) (hp : RdPlS w ps pv) (hl : RdIsS w l lv) : Calls Try.prog 3 #[pv, lv] w (RetT w) := by
  have HP := Lib.hid hp
  have HL := Lib.hid hl
  have HU := Lib.hid hl.u8
  obtain ⟨pa, pc, rfl, _, _, hpf⟩ := hp.form
  obtain ⟨la, lc, rfl, _, _, hlf⟩ := hl.form
  clear hp hl
  have HEND : Hid (∀ (X : World), Ext w X → Calls Try.prog 6 #[] X fun e w' => e = .returned (.bool true) ∧ Ext w w') := by
    show ∀ X, _ → _
    intro X hX
    exact (lives17_any X).mono (fun e w' h => ⟨h.1, hX.trans h.2⟩)
  go_enter Try.func3, Try.ntmps3
  by_cases hps : ps.length ≤ 1000
  case neg =>
    have q1 : (1000 : Int) < (ps.length : Int) := by omega
    go_wp2_with fail
    refine (HEND.out _ (Chg.refl _ _)).mono ?_
    rintro e w3 ⟨rfl, E3⟩
    go_wp2_with fail
    go_ret
    exact ⟨rfl, E3⟩
  have q1 : ¬ (1000 : Int) < (ps.length : Int) := by omega
  by_cases hl7 : l.length ≤ 1500
  case neg =>
    have q2 : (1500 : Int) < (l.length : Int) := by omega
    go_wp2_with fail
    refine (HEND.out _ (Chg.refl _ _)).mono ?_
    rintro e w3 ⟨rfl, E3⟩
    go_wp2_with fail
    go_ret
    exact ⟨rfl, E3⟩
  have q2 : ¬ (1500 : Int) < (l.length : Int) := by omega
  go_wp2_with fail
  refine (twinPlaces_any ps _ w HP.out).mono ?_
  rintro e w1 ⟨v1, rfl, h1⟩
  obtain ⟨t1, E1, _⟩ := TwPlS.of h1 (by omega)
  clear h1
  have HT1 := Lib.hid t1
  clear t1
  go_wp2_with fail
  refine (twinInstrs_any l _ w1 (HL.out.ext E1)).mono ?_
  rintro e w2 ⟨v2, rfl, h2⟩
  obtain ⟨t2, E2', _⟩ := TwIsS.of h2 (by omega)
  clear h2
  have E2 := E1.trans E2'
  have HT2 := Lib.hid t2
  have HT1b := Lib.hid (HT1.out.ext E2')
  clear t2 HT1 E2' E1
  have HC := Lib.hid (codeChk_any ps l v1 v2 w2 (HT1b.out.rd (by unfold fitsR; omega)) (HT2.out.rd HU.out (by unfold fitsR; omega)))
  unfold RetCk at HC
  have HRF := Lib.hid (fun (X : World) (hX : Ext w X) => refChk_any ps l _ _ X (HP.out.ext hX) (HL.out.ext hX))
  unfold RetCk at HRF
  generalize chkC ps l = c at *
  obtain ⟨t, b⟩ := c
  simp only at HC HRF
  go_wp2_with fail
  refine HC.out.mono ?_
  rintro e w3 ⟨rfl, E3'⟩
  have E3 := E2.trans E3'
  go_wp2_with fail
  refine (HRF.out w3 E3).mono ?_
  rintro e w4 ⟨rfl, E4'⟩
  have E4 := E3.trans E4'
  have E24 := E3'.trans E4'
  clear HC HRF E3' E4' E3 E2
  have bt : (t == t) = true := by simp
  have bb : (b == b) = true := by simp
  go_wp2_with fail
  refine (leftPlaces_any ps v1 _ w4 (HT1b.out.ext E24) (HP.out.ext E4)).mono ?_
  rintro e w5 ⟨rfl, E5'⟩
  have E5 := E4.trans E5'
  have E25 := E24.trans E5'
  clear E5' E24 E4
  go_wp2_with fail
  refine (leftInstrs_any l v2 _ w5 (HT2.out.ext E25) (HL.out.ext E5)).mono ?_
  rintro e w6 ⟨rfl, E6'⟩
  have E6 := E5.trans E6'
  go_wp2_with fail
  refine (HEND.out _ E6).mono ?_
  rintro e w7 ⟨rfl, E7⟩
  go_wp2_with fail
  go_ret
  exact ⟨rfl, E7⟩
end Go.Proofs.Ytgkbhonjodcakaa
