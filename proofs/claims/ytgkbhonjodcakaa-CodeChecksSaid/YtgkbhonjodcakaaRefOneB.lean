/- The reference of chapter 17: what an operator leaves. -/
import Derived.Test.YtgkbhonjodcakaaRefPushB
import Derived.Test.YtgkbhonjodcakaaJ17
import Derived.Test.YtgkbhonjodcakaaJF
namespace Go.Proofs.Ytgkbhonjodcakaa
open Go.RowKit
set_option linter.unusedVariables false
set_option linter.unusedSimpArgs false

def alk (l : List Int) : Bool := l.all fun t => decide (t = l.headD 0)
def resO (o a : Int) : Int := if o = 4 ∨ o = 6 ∨ o = 7 ∨ o = 8 ∨ o = 9 ∨ o = 10 then (if a = 1 then 1 else 0) else if o = 5 ∨ o = 15 ∨ o = 16 then (if a = 2 then 2 else 0) else if o = 13 ∨ o = 14 then (if a = 1 then 2 else 0) else if o = 18 then a else 2
theorem alk_cons {a : Int} {r : List Int} : alk (a :: r) = r.all fun t => decide (t = a) := by simp [alk]
theorem each_alk (of wh : Int) {l : List Int} (hl : 0 < l.length) : eachT of wh l = if alk l = true then (if l.headD 0 = of then wh else 0) else 0 := by
  match l, hl with
  | a :: r, _ =>
    rw [alk_cons]
    unfold eachT
    by_cases h : (r.all fun t => decide (t = a)) = true
    · rw [if_pos h]
      by_cases ha : a = of
      · have hh : (a :: r).headD 0 = of := ha
        rw [if_pos hh, if_neg]
        subst ha
        simp only [List.any_cons, Bool.not_eq_true, Bool.or_eq_false_iff, List.any_eq_false]
        refine ⟨by simp, fun x hx => ?_⟩
        have := List.all_eq_true.1 h x hx
        simpa using this
      · have hh : ¬ (a :: r).headD 0 = of := ha
        rw [if_neg hh, if_pos]
        simp [ha]
    · rw [if_neg h, if_pos]
      rw [List.any_eq_true]
      by_cases ha : a = of
      · have : ∃ x, x ∈ r ∧ ¬ x = a := by
          apply Classical.byContradiction
          intro hn
          exact h (List.all_eq_true.2 fun x hx => decide_eq_true (Classical.byContradiction fun hc => hn ⟨x, hx, hc⟩))
        obtain ⟨x, hx, hne⟩ := this
        exact ⟨x, List.mem_cons_of_mem _ hx, by simp; omega⟩
      · exact ⟨a, List.mem_cons_self, by simp [ha]⟩
theorem leave_one {o : Int} (ho : 4 ≤ o ∧ o ≤ 18 ∧ o ≠ 17) {l : List Int} (hl : 0 < l.length) (hz : l.headD 0 ≠ 0) : leaveT o l = if alk l = true then resO o (l.headD 0) else 0 := by
  have e1 := each_alk 1 1 hl
  have e2 := each_alk 2 2 hl
  have e3 := each_alk 1 2 hl
  have e4 := each_alk (l.headD 0) (l.headD 0) hl
  rw [if_pos rfl] at e4
  have h18 : alikC l = if alk l = true then l.headD 0 else 0 := e4
  clear e4
  generalize l.headD 0 = a at *
  obtain (rfl | rfl | rfl | rfl | rfl | rfl | rfl | rfl | rfl | rfl | rfl | rfl | rfl | rfl) := (show o = 4 ∨ o = 5 ∨ o = 6 ∨ o = 7 ∨ o = 8 ∨ o = 9 ∨ o = 10 ∨ o = 11 ∨ o = 12 ∨ o = 13 ∨ o = 14 ∨ o = 15 ∨ o = 16 ∨ o = 18 by omega)
  all_goals
    simp only [leaveT, resO, eqC, h18, e1, e2, e3]
    by_cases hA : alk l = true
    · simp [hA, hz]
    · simp [hA]
theorem leave_if {l : List Int} (h : l.length = 3) : ∃ a b c, l[0]? = some a ∧ l[1]? = some b ∧ l[2]? = some c ∧ leaveT 17 l = if a = 2 then (if b = c then b else 0) else 0 := by
  match l, h with
  | [a, b, c], _ =>
    refine ⟨a, b, c, rfl, rfl, rfl, ?_⟩
    have e : leaveT 17 [a, b, c] = if a = 2 then alikC [b, c] else 0 := rfl
    rw [e]
    have e2 : alikC [b, c] = if alk [b, c] = true then (if b = b then b else 0) else 0 := each_alk b b (l := [b, c]) (by simp)
    rw [e2, alk_cons]
    by_cases hb : b = c
    · subst hb; simp
    · have hcb : ¬ c = b := fun h => hb h.symm
      simp [hb, hcb]
theorem TyR.get {w : World} {l : List Int} {g o n cap : Nat} (h : TyR w l (.slice (some ⟨g, o, none⟩) n cap)) {i : Nat} {x : Int} (hx : l[i]? = some x) : w.cell? ⟨g, o + i, none⟩ = some (.int .u8 x) := by
  obtain ⟨g', o', cap', e, _, h4⟩ := h
  simp only [Value.slice.injEq, Option.some.injEq, Addr.mk.injEq, and_true] at e
  obtain ⟨⟨rfl, rfl⟩, _, _⟩ := e
  exact h4 i x hx
theorem take_all {l : List Int} {k : Nat} {x : Int} {f : Int → Bool} (h : l[k]? = some x) : (l.take (k + 1)).all f = ((l.take k).all f && f x) := by
  rw [List.take_add_one, h]; simp
set_option maxRecDepth 100000 in
set_option maxHeartbeats 40000000 in
theorem refOne_any (o : Int) (l : List Int) (v : Value) (w : World) (h : TyR w l v) (hl : l.length = manyP o) (hm : manyP o ≠ 0) (hz : l.headD 0 ≠ 0) : Calls Try.prog 23 #[.int .u8 o, v] w (RetTy (leaveT o l) w) := by
  have hl3 : l.length ≤ 3 := by have := many_le o; omega
  have hl0 : 0 < l.length := by omega
  have ho : 4 ≤ o ∧ o ≤ 18 := by
    apply Classical.byContradiction
    intro hc
    exact hm (by unfold manyP; rw [if_neg (by omega), if_neg (by omega), if_neg (by omega)])
  have HLV := Lib.hid (fun (h17 : o ≠ 17) => leave_one (o := o) (l := l) ⟨ho.1, ho.2, h17⟩ hl0 hz)
  have HM := Lib.hid hl
  obtain ⟨a, hx0⟩ : ∃ a, l[0]? = some a := ⟨l[0], List.getElem?_eq_getElem hl0⟩
  have hhd : l.headD 0 = a := by match l, hl0 with | b :: r, _ => simpa using hx0
  have HA := Lib.hid (show alk l = l.all fun t => decide (t = a) by unfold alk; rw [hhd])
  rw [hhd] at HLV
  obtain ⟨g, ofs, cap, rfl, hcap, hr⟩ := h
  have H : Hid (TyR w l (.slice (some ⟨g, ofs, none⟩) l.length cap)) := Lib.hid ⟨g, ofs, cap, rfl, hcap, hr⟩
  clear hr hl hm hz hhd
  have HX0 := Lib.hid hx0
  generalize hres : leaveT o l = res at *
  have HRES := Lib.hid hres
  clear hres
  have q0 : (0 : Int) < (l.length : Int) := by omega
  go_enter Try.func23, Try.ntmps23
  go_wp2_with fail
  go_loopw [5, 6] (fun al i wr => ∃ k : Nat, 1 ≤ k ∧ k ≤ l.length ∧ i = .int .i64 k ∧ al = .bool ((l.take k).all fun t => decide (t = a)) ∧ ∃ m, wr = w.drewN m) (fun _ i _ => l.length - (intOf i).toNat)
  case atStart =>
    refine ⟨1, Nat.le_refl _, hl0, rfl, ?_, 0, rfl⟩
    rw [take_all (k := 0) HX0.out]
    simp
  case round =>
    obtain ⟨k, hk1, hk, rfl, rfl, m, rfl⟩ := hrel
    have hD : Ext w (w.drewN m) := (Chg.refl _ _).drewN _
    by_cases hlt : k < l.length
    · have hx : l[k]? = some l[k] := List.getElem?_eq_getElem hlt
      have q1 : (k : Int) < (l.length : Int) := by omega
      have q2 : (0 : Int) ≤ (k : Int) := by omega
      have HT := Lib.hid (take_all (f := fun t => decide (t = a)) hx)
      have c0 := H.out.get HX0.out
      rw [Nat.add_zero] at c0
      have c1 := H.out.get hx
      generalize l[k] = x at *
      clear hx
      generalize hb : ((l.take k).all fun t => decide (t = a)) = b at *
      cases b
      · have H2 : Hid ((l.take (k + 1)).all (fun t => decide (t = a)) = false) := by show _ = _; rw [HT.out]; rfl
        clear hb
        go_wp2_with fail
        go_quiet (fail)
        go_wp2_with fail
        go_roundw
        case rel => exact ⟨k + 1, by omega, by omega, by go_num, by rw [H2.out], _, rfl⟩
        case measure => simp [intOf]; omega
      · by_cases hxa : x = a
        · subst hxa
          have bx : (x == x) = true := by simp
          have H2 : Hid ((l.take (k + 1)).all (fun t => decide (t = x)) = true) := by show _ = _; rw [HT.out]; simp
          clear hb
          go_wp2_with fail
          go_quiet (fail)
          go_wp2_with fail
          go_roundw
          case rel => exact ⟨k + 1, by omega, by omega, by go_num, by rw [H2.out], _, rfl⟩
          case measure => simp [intOf]; omega
        · have bx : (x == a) = false := by simpa using hxa
          have H2 : Hid ((l.take (k + 1)).all (fun t => decide (t = a)) = false) := by show _ = _; rw [HT.out]; simp [hxa]
          clear hb
          go_wp2_with fail
          go_quiet (fail)
          go_wp2_with fail
          go_roundw
          case rel => exact ⟨k + 1, by omega, by omega, by go_num, by rw [H2.out], _, rfl⟩
          case measure => simp [intOf]; omega
    · obtain rfl : k = l.length := by omega
      rw [List.take_of_length_le (Nat.le_refl _), ← HA.out]
      have c0 := H.out.get HX0.out
      rw [Nat.add_zero] at c0
      have HX00 := Lib.hid HX0.out
      clear HX0 hx0
      by_cases h17 : o = 17
      · subst h17
        have HM3 : l.length = 3 := HM.out
        obtain ⟨a', b, c, e0, e1, e2, e3⟩ := leave_if HM3
        obtain rfl : a' = a := by
          have := HX00.out
          rw [e0] at this
          exact Option.some.inj this
        have c1 := H.out.get e1
        have c2 := H.out.get e2
        have q1 : (1 : Int) < (l.length : Int) := by omega
        have q2 : (2 : Int) < (l.length : Int) := by omega
        have HR : Hid (res = if a' = 2 then (if b = c then b else 0) else 0) := HRES.out.symm.trans e3
        clear e0 e1 e2 e3 HLV HRES HX00
        generalize alk l = A at *
        by_cases a2 : a' = 2
        case neg =>
          have ba2 : (a' == 2) = false := by simpa using a2
          go_wp2_with fail
          go_quiet (fail)
          go_wp2_with fail
          go_ret
          exact ⟨by rw [HR.out, if_neg a2]; rfl, by first | exact hD.drewN _ | exact (Chg.refl _ _).drewN _⟩
        subst a2
        by_cases hbc : b = c
        · subst hbc
          have bb : (b == b) = true := by simp
          go_wp2_with fail
          go_quiet (fail)
          go_wp2_with fail
          go_ret
          exact ⟨by rw [HR.out]; simp, by first | exact hD.drewN _ | exact (Chg.refl _ _).drewN _⟩
        · have bb : (b == c) = false := by simpa using hbc
          go_wp2_with fail
          go_quiet (fail)
          go_wp2_with fail
          go_ret
          exact ⟨by rw [HR.out]; simp [hbc], by first | exact hD.drewN _ | exact (Chg.refl _ _).drewN _⟩
      have HL2 := Lib.hid (HLV.out h17)
      clear HX00
      clear HLV
      generalize alk l = A at *
      rcases A with _ | _
      · have HR : Hid (res = 0) := HL2.out.trans (if_neg (by simp))
        obtain (rfl | rfl | rfl | rfl | rfl | rfl | rfl | rfl | rfl | rfl | rfl | rfl | rfl | rfl) := (show o = 4 ∨ o = 5 ∨ o = 6 ∨ o = 7 ∨ o = 8 ∨ o = 9 ∨ o = 10 ∨ o = 11 ∨ o = 12 ∨ o = 13 ∨ o = 14 ∨ o = 15 ∨ o = 16 ∨ o = 18 by omega)
        all_goals
          go_wp2_with fail
          go_ret
          exact ⟨by rw [HR.out]; rfl, hD⟩
      · have HR : Hid (res = resO o a) := HL2.out.trans (if_pos rfl)
        clear HL2 HRES
        by_cases a1 : a = 1
        · subst a1
          obtain (rfl | rfl | rfl | rfl | rfl | rfl | rfl | rfl | rfl | rfl | rfl | rfl | rfl | rfl) := (show o = 4 ∨ o = 5 ∨ o = 6 ∨ o = 7 ∨ o = 8 ∨ o = 9 ∨ o = 10 ∨ o = 11 ∨ o = 12 ∨ o = 13 ∨ o = 14 ∨ o = 15 ∨ o = 16 ∨ o = 18 by omega)
          all_goals
            go_wp2_with fail
            go_ret
            exact ⟨by rw [HR.out]; rfl, hD⟩
        have ba1 : (a == 1) = false := by simpa using a1
        by_cases a2 : a = 2
        · subst a2
          obtain (rfl | rfl | rfl | rfl | rfl | rfl | rfl | rfl | rfl | rfl | rfl | rfl | rfl | rfl) := (show o = 4 ∨ o = 5 ∨ o = 6 ∨ o = 7 ∨ o = 8 ∨ o = 9 ∨ o = 10 ∨ o = 11 ∨ o = 12 ∨ o = 13 ∨ o = 14 ∨ o = 15 ∨ o = 16 ∨ o = 18 by omega)
          all_goals
            go_wp2_with fail
            go_ret
            exact ⟨by rw [HR.out]; rfl, hD⟩
        have ba2 : (a == 2) = false := by simpa using a2
        obtain (rfl | rfl | rfl | rfl | rfl | rfl | rfl | rfl | rfl | rfl | rfl | rfl | rfl | rfl) := (show o = 4 ∨ o = 5 ∨ o = 6 ∨ o = 7 ∨ o = 8 ∨ o = 9 ∨ o = 10 ∨ o = 11 ∨ o = 12 ∨ o = 13 ∨ o = 14 ∨ o = 15 ∨ o = 16 ∨ o = 18 by omega)
        all_goals
          go_wp2_with fail
          go_ret
          exact ⟨by rw [HR.out]; simp [resO, a1, a2], hD⟩
end Go.Proofs.Ytgkbhonjodcakaa
