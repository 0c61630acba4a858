/- The reference of chapter 17: many, push, Places. -/
import Derived.Test.YtgkbhonjodcakaaJ17
import Derived.Test.YtgkbhonjodcakaaJF
namespace Go.Proofs.Ytgkbhonjodcakaa
open Go.RowKit
set_option linter.unusedVariables false
set_option linter.unusedSimpArgs false

def manyR (o : Int) : Int := if manyP o = 0 then -1 else (manyP o : Int)
theorem manyR_no {o : Int} (h : o < 4 ∨ 18 < o) : manyR o = -1 := by
  unfold manyR manyP
  rw [if_neg (by omega : ¬ (o = 4 ∨ o = 5)), if_neg (by omega : ¬ o = 17), if_neg (by omega : ¬ (6 ≤ o ∧ o ≤ 18))]
  rfl
set_option maxRecDepth 100000 in
set_option maxHeartbeats 8000000 in
theorem manyR_any (o : Int) (w : World) : Calls Try.prog 21 #[.int .u8 o] w fun e w' => e = .returned (.int .i64 (manyR o)) ∧ Ext w w' := by
  have HN := Lib.hid (manyR_no (o := o))
  generalize hr : manyR o = r at *
  by_cases h : o < 4 ∨ 18 < o
  · have e := HN.out h
    clear hr
    subst e
    have b4 : (o == 4) = false := by simp; omega
    have b5 : (o == 5) = false := by simp; omega
    have b6 : (o == 6) = false := by simp; omega
    have b7 : (o == 7) = false := by simp; omega
    have b8 : (o == 8) = false := by simp; omega
    have b9 : (o == 9) = false := by simp; omega
    have b10 : (o == 10) = false := by simp; omega
    have b11 : (o == 11) = false := by simp; omega
    have b12 : (o == 12) = false := by simp; omega
    have b13 : (o == 13) = false := by simp; omega
    have b14 : (o == 14) = false := by simp; omega
    have b15 : (o == 15) = false := by simp; omega
    have b16 : (o == 16) = false := by simp; omega
    have b17 : (o == 17) = false := by simp; omega
    have b18 : (o == 18) = false := by simp; omega
    clear HN h
    go_enter Try.func21, Try.ntmps21
    go_wp2_with fail
    go_ret
    exact ⟨rfl, Chg.refl _ _⟩
  · obtain (rfl | rfl | rfl | rfl | rfl | rfl | rfl | rfl | rfl | rfl | rfl | rfl | rfl | rfl | rfl) := (show o = 4 ∨ o = 5 ∨ o = 6 ∨ o = 7 ∨ o = 8 ∨ o = 9 ∨ o = 10 ∨ o = 11 ∨ o = 12 ∨ o = 13 ∨ o = 14 ∨ o = 15 ∨ o = 16 ∨ o = 17 ∨ o = 18 by omega)
    all_goals
      have hr2 := hr
      simp [manyR, manyP] at hr2
      subst hr2
      clear hr HN h
      go_enter Try.func21, Try.ntmps21
      go_wp2_with fail
      go_ret
      exact ⟨rfl, Chg.refl _ _⟩
theorem all_at {α : Type} {l : List α} {k : Nat} {y : α} {f : α → Bool} (h : l[k]? = some y) : (l.drop k).all f = (f y && (l.drop (k + 1)).all f) := by
  obtain ⟨hk, rfl⟩ := List.getElem?_eq_some_iff.1 h
  rw [List.drop_eq_getElem_cons hk]
  rfl
theorem placesOk_all (ps : List PlD) : placesOk ps = ps.all placeOk := by
  unfold placesOk
  induction ps with
  | nil => rfl
  | cons x r ih => simp only [List.any_cons, List.all_cons, Bool.not_or, Bool.not_not, ← ih]
set_option maxRecDepth 100000 in
set_option maxHeartbeats 8000000 in
theorem refPlaces_any (l : List PlD) (v : Value) (w : World) (h : RdPlS w l v) : Calls Try.prog 20 #[v] w (RetV (placesOk l) w) := by
  rw [placesOk_all]
  obtain ⟨a, cap, rfl, _, _, hf⟩ := h.form
  have hn : l.length ≤ 9000000000000000000 := by omega
  have H := Lib.hid h
  clear h hf
  have HP := Lib.hid (fun x : PlD => show placeOk x = ((decide (x.ty = 1) || decide (x.ty = 2)) && decide (0 ≤ x.keep) && decide (x.keep ≤ 4000)) from rfl)
  generalize placeOk = P at *
  go_enter Try.func20, Try.ntmps20
  go_wp2_with fail
  go_loopw [3] (fun i wr => ∃ k : Nat, k ≤ l.length ∧ i = .int .i64 k ∧ (l.all P) = ((l.drop k).all P) ∧ wr = w) (fun i _ => l.length - (intOf i).toNat)
  case atStart => exact ⟨0, Nat.zero_le _, rfl, rfl, rfl⟩
  case round =>
    obtain ⟨k, hk, rfl, hE, rfl⟩ := hrel
    have HE := Lib.hid hE
    clear hE
    by_cases hlt : k < l.length
    · have hx : l[k]? = some l[k] := List.getElem?_eq_getElem hlt
      have q1 : (k : Int) < (l.length : Int) := by omega
      have HS := Lib.hid (all_at (f := P) hx)
      obtain ⟨b, o, rfl, hb, c0, c1, c2, c3, c4, c5⟩ := H.out.get hx
      have HY := Lib.hid (HP.out l[k])
      generalize l[k] = y at *
      clear hx
      obtain ⟨nm, ty, keep, far, frm, df⟩ := y
      simp only at c0 c1 c2 c3 c4 c5 HY
      by_cases hty : ty = 1 ∨ ty = 2
      case neg =>
        have b1 : (ty != 1) = true := by simp; omega
        have b2 : (ty != 2) = true := by simp; omega
        have H2 : Hid ((l.all P) = false) := by
          show _ = _
          rw [HE.out, HS.out, HY.out]
          simp; omega
        go_wp2_with fail
        go_ret
        exact retV H2.out.symm (Chg.refl _ _)
      by_cases k1 : keep < 0
      case pos =>
        have H2 : Hid ((l.all P) = false) := by
          show _ = _
          rw [HE.out, HS.out, HY.out]
          simp; omega
        rcases hty with rfl | rfl
        all_goals
          go_wp2_with fail
          go_ret
          exact retV H2.out.symm (Chg.refl _ _)
      by_cases k2 : 4000 < keep
      case pos =>
        have H2 : Hid ((l.all P) = false) := by
          show _ = _
          rw [HE.out, HS.out, HY.out]
          simp; omega
        rcases hty with rfl | rfl
        all_goals
          go_wp2_with fail
          go_ret
          exact retV H2.out.symm (Chg.refl _ _)
      have H2 : Hid ((l.all P) = ((l.drop (k + 1)).all P)) := by
        show _ = _
        rw [HE.out, HS.out, HY.out]
        have : (decide (ty = 1) || decide (ty = 2)) = true := by simpa using hty
        rw [this, decide_eq_true (by omega : 0 ≤ keep), decide_eq_true (by omega : keep ≤ 4000)]
        rfl
      rcases hty with rfl | rfl
      all_goals
        go_wp2_with fail
        go_roundw
        case rel => exact ⟨k + 1, by omega, by go_num, H2.out, by first | trivial | rfl⟩
        case measure => simp [intOf]; omega
    · obtain rfl : k = l.length := by omega
      have H2 := Lib.hid (HE.out.trans (show ((l.drop l.length).all P) = true by rw [List.drop_length]; rfl))
      go_wp2_with fail
      go_ret
      exact retV H2.out.symm (Chg.refl _ _)
end Go.Proofs.Ytgkbhonjodcakaa
