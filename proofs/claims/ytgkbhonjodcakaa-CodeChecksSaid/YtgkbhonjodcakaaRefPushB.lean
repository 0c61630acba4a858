/- The reference of chapter 17: push. -/
import Derived.Test.YtgkbhonjodcakaaRefCB
namespace Go.Proofs.Ytgkbhonjodcakaa
open Go.RowKit
set_option linter.unusedVariables false
set_option linter.unusedSimpArgs false

set_option maxRecDepth 100000 in
set_option maxHeartbeats 4000000 in
theorem refPush_any (ps : List PlD) (pv : Value) (x : IsD) (w : World) (h : RdPlS w ps pv) : Calls Try.prog 22 #[pv, .agg #[.int .u8 x.op, .int .i64 x.n, .int .i64 x.ago]] w (fun e w' => e = .returned (.int .u8 (pushP ps x)) ∧ Ext w w') := by
  obtain ⟨op, n, ago⟩ := x
  simp only
  obtain ⟨a, cap, rfl, _, _, hf⟩ := h.form
  have hn : ps.length ≤ 9000000000000000000 := by omega
  have K : Ext w (w.alloc (.cells #[.int .u8 op, .int .i64 n, .int .i64 ago] 38)) := (Chg.refl _ _).alloc _
  have H := Lib.hid (h.ext K)
  clear h hf
  by_cases o1 : op = 1
  · subst o1
    by_cases ha : ago = 0
    · subst ha
      have HQ : Hid (pushP ps ⟨1, n, 0⟩ = 1) := rfl
      go_enter Try.func22, Try.ntmps22
      go_wp2_with fail
      go_ret
      exact ⟨by rw [HQ.out]; rfl, K⟩
    · have hq : pushP ps ⟨1, n, ago⟩ = 0 := by simp [pushP, ha]
      have HQ := Lib.hid hq
      have ba : (ago == 0) = false := by simpa using ha
      clear hq
      go_enter Try.func22, Try.ntmps22
      go_wp2_with fail
      go_ret
      exact ⟨by rw [HQ.out]; rfl, K⟩
  have b1 : (op == 1) = false := by simpa using o1
  by_cases o2 : op = 2
  · subst o2
    by_cases ha : ago = 0
    · subst ha
      by_cases hz : n = 0
      · subst hz
        have HQ : Hid (pushP ps ⟨2, 0, 0⟩ = 2) := rfl
        go_enter Try.func22, Try.ntmps22
        go_wp2_with fail
        go_ret
        exact ⟨by rw [HQ.out]; rfl, K⟩
      have bz : (n == 0) = false := by simpa using hz
      by_cases hz1 : n = 1
      · subst hz1
        have HQ : Hid (pushP ps ⟨2, 1, 0⟩ = 2) := rfl
        go_enter Try.func22, Try.ntmps22
        go_wp2_with fail
        go_ret
        exact ⟨by rw [HQ.out]; rfl, K⟩
      have bz1 : (n == 1) = false := by simpa using hz1
      have hq : pushP ps ⟨2, n, 0⟩ = 0 := by simp [pushP, hz, hz1]
      have HQ := Lib.hid hq
      clear hq
      go_enter Try.func22, Try.ntmps22
      go_wp2_with fail
      go_ret
      exact ⟨by rw [HQ.out]; rfl, K⟩
    · have hq : pushP ps ⟨2, n, ago⟩ = 0 := by simp [pushP, ha]
      have HQ := Lib.hid hq
      have ba : (ago == 0) = false := by simpa using ha
      clear hq
      go_enter Try.func22, Try.ntmps22
      go_wp2_with fail
      go_ret
      exact ⟨by rw [HQ.out]; rfl, K⟩
  have b2 : (op == 2) = false := by simpa using o2
  by_cases o3 : op = 3
  case neg =>
    have b3 : (op == 3) = false := by simpa using o3
    have HQ := Lib.hid (push_no (ps := ps) (x := ⟨op, n, ago⟩) o1 o2 o3)
    go_enter Try.func22, Try.ntmps22
    go_wp2_with fail
    go_ret
    exact ⟨by rw [HQ.out]; rfl, K⟩
  subst o3
  have hP : pushP ps ⟨3, n, ago⟩ = if 0 ≤ n ∧ 0 ≤ ago then (match ps[n.toNat]? with | some q => if ago ≤ q.keep then q.ty else 0 | none => 0) else 0 := rfl
  have HP := Lib.hid hP
  clear hP
  by_cases n0 : 0 ≤ n
  case neg =>
    have HQ := Lib.hid (HP.out.trans (if_neg (fun h => n0 h.1)))
    clear HP
    have bn0 : decide (0 ≤ n) = false := decide_eq_false n0
    go_enter Try.func22, Try.ntmps22
    go_wp2_with fail
    go_quiet (fail)
    go_wp2_with fail
    go_ret
    exact ⟨by rw [HQ.out]; rfl, K.drewN _⟩
  obtain ⟨m, rfl⟩ : ∃ m : Nat, n = (m : Int) := ⟨n.toNat, by omega⟩
  by_cases a0 : 0 ≤ ago
  case neg =>
    have HQ := Lib.hid (HP.out.trans (if_neg (fun h => a0 h.2)))
    clear HP
    have ba0 : decide (0 ≤ ago) = false := decide_eq_false a0
    by_cases hlt : m < ps.length
    · have hlt2 : (m : Int) < (ps.length : Int) := by omega
      go_enter Try.func22, Try.ntmps22
      go_wp2_with fail
      go_quiet (fail)
      go_wp2_with fail
      go_ret
      exact ⟨by rw [HQ.out]; rfl, K.drewN _⟩
    · have blt : decide (m < ps.length) = false := decide_eq_false hlt
      have blt2 : decide ((m : Int) < (ps.length : Int)) = false := decide_eq_false (by omega)
      go_enter Try.func22, Try.ntmps22
      go_wp2_with fail
      go_quiet (fail)
      go_wp2_with fail
      go_ret
      exact ⟨by rw [HQ.out]; rfl, K.drewN _⟩
  have HP2 := Lib.hid (HP.out.trans (if_pos ⟨n0, a0⟩))
  rw [Int.toNat_natCast] at HP2
  clear HP
  by_cases hlt : m < ps.length
  case neg =>
    have blt : decide (m < ps.length) = false := decide_eq_false hlt
    have blt2 : decide ((m : Int) < (ps.length : Int)) = false := decide_eq_false (by omega)
    have HQ : Hid (pushP ps ⟨3, (m : Int), ago⟩ = 0) := by
      show _ = _
      rw [HP2.out, List.getElem?_eq_none (by omega)]
    clear HP2
    go_enter Try.func22, Try.ntmps22
    go_wp2_with fail
    go_quiet (fail)
    go_wp2_with fail
    go_ret
    exact ⟨by rw [HQ.out]; rfl, K.drewN _⟩
  have hx := List.getElem?_eq_getElem hlt
  have hltI : (m : Int) < (ps.length : Int) := by omega
  have hm0 : 0 ≤ (m : Int) := by omega
  obtain ⟨b, o, rfl, hb, _, c1, c2, _⟩ := H.out.get hx
  rw [hx] at HP2
  have dx : Nat := 0
  generalize ps[m] = q at *
  clear hx dx
  by_cases hk : ago ≤ q.keep
  · have HQ : Hid (pushP ps ⟨3, (m : Int), ago⟩ = q.ty) := by
      show _ = _
      rw [HP2.out]
      exact if_pos hk
    clear HP2
    go_enter Try.func22, Try.ntmps22
    go_wp2_with fail
    go_quiet (fail)
    go_wp2_with fail
    go_ret
    exact ⟨by rw [HQ.out]; rfl, K.drewN _⟩
  · have HQ : Hid (pushP ps ⟨3, (m : Int), ago⟩ = 0) := by
      show _ = _
      rw [HP2.out]
      exact if_neg hk
    clear HP2
    go_enter Try.func22, Try.ntmps22
    go_wp2_with fail
    go_quiet (fail)
    go_wp2_with fail
    go_ret
    exact ⟨by rw [HQ.out]; rfl, K.drewN _⟩
end Go.Proofs.Ytgkbhonjodcakaa
