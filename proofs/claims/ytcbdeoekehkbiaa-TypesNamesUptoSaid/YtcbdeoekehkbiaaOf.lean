/- From which instant on: the plain answer; the rules' functions; the greatest. -/
import Derived.Test.YtcbdeoekehkbiaaOfRules
import Derived.Test.YtcbdeoekehkbiaaChk
namespace Go.Proofs.Ytcbdeoekehkbiaa
open Go.RowKit
set_option linter.unusedVariables false

def maxL (l : List Int) : Int := l.foldl max 0
def thenP (l : List Int) : Int := if l.getD 0 0 = 0 ∧ l.getD 1 0 ≤ 1 then 0 else max 1 (l.getD 1 0)
def ruleP (op : Int) (l : List Int) : Int := if op = 19 then l.getD 0 0 + 1 else if op = 18 then thenP l else maxL l
mutual
def ofE : Ex → Int
  | .mk op _ _ args => ruleP op (ofL args)
def ofL : List Ex → List Int
  | [] => []
  | x :: r => ofE x :: ofL r
end
theorem ofL_len : ∀ l : List Ex, (ofL l).length = l.length
  | [] => rfl
  | x :: r => by simp only [ofL, List.length_cons, ofL_len r]
theorem ofL_get : ∀ (l : List Ex) (i : Nat), (ofL l)[i]? = (l[i]?).map ofE
  | [], i => by simp [ofL]
  | x :: r, 0 => by simp [ofL]
  | x :: r, i + 1 => by simp [ofL, ofL_get r i]
theorem maxL_bound {l : List Int} {b : Int} (hb : 0 ≤ b) (h : ∀ x, x ∈ l → x ≤ b) : 0 ≤ maxL l ∧ maxL l ≤ b := by
  have key : ∀ (l : List Int) (m : Int), 0 ≤ m → m ≤ b → (∀ x, x ∈ l → x ≤ b) → 0 ≤ l.foldl max m ∧ l.foldl max m ≤ b := by
    intro l
    induction l with
    | nil => intro m h0 h1 _; exact ⟨h0, h1⟩
    | cons x r ih =>
      intro m h0 h1 h2
      have hx := h2 x (by simp)
      exact ih (max m x) (by omega) (by omega) (fun y hy => h2 y (by simp [hy]))
  exact key l 0 (Int.le_refl _) hb h
mutual
theorem ofE_bound : ∀ x : Ex, 0 ≤ ofE x ∧ ofE x ≤ (nodesE x : Int)
  | .mk op n nm args => by
    have hl := ofL_bound args
    simp only [ofE, nodesE]
    have h0 : ∀ i, 0 ≤ (ofL args).getD i 0 ∧ (ofL args).getD i 0 ≤ (nodesL args : Int) := fun i => by
      cases hg : (ofL args)[i]? with
      | none => simp only [List.getD, hg, Option.getD_none]; omega
      | some y => simp only [List.getD, hg, Option.getD_some]; exact hl y (List.mem_of_getElem? hg)
    have := h0 0
    have := h0 1
    have := maxL_bound (l := ofL args) (b := (nodesL args : Int)) (by omega) (fun x hx => (hl x hx).2)
    unfold ruleP thenP
    split
    · omega
    · split
      · split <;> omega
      · omega
theorem ofL_bound : ∀ (l : List Ex) (y : Int), y ∈ ofL l → 0 ≤ y ∧ y ≤ (nodesL l : Int)
  | [], y, h => by simp [ofL] at h
  | x :: r, y, h => by
    simp only [ofL, List.mem_cons] at h
    simp only [nodesL]
    rcases h with rfl | h
    · have := ofE_bound x; omega
    · have := ofL_bound r y h; omega
end
theorem rule1_one (l : List Int) (a : Option Addr) (cap : Nat) (base : Nat) (w : World) (h : InV w base l (.slice a l.length cap)) (hl : l.length = 1) (hb : ∀ y, y ∈ l → 0 ≤ y ∧ y ≤ 100000) :
    Calls Try.prog 56 #[.slice a l.length cap] w fun e w' => e = .returned (.int .i64 (ruleP 19 l)) ∧ Ext w w' := by
  match l, hl with
  | [x], _ =>
    obtain ⟨g, rfl, c0⟩ := h.get (i := 0) (x := x) rfl
    have hx := hb x (by simp)
    have e : ruleP 19 [x] = x + 1 := rfl
    rw [e]
    go_enter Try.func56, Try.ntmps56
    go_wp2_with fail
    go_ret
    exact ⟨rfl, Chg.refl _ _⟩
set_option maxHeartbeats 1000000 in
theorem rule2_one (l : List Int) (a : Option Addr) (cap : Nat) (base : Nat) (w : World) (h : InV w base l (.slice a l.length cap)) (hl : l.length = 2) (hb : ∀ y, y ∈ l → 0 ≤ y ∧ y ≤ 100000) :
    Calls Try.prog 57 #[.slice a l.length cap] w fun e w' => e = .returned (.int .i64 (ruleP 18 l)) ∧ Ext w w' := by
  match l, hl with
  | [x, y], _ =>
    obtain ⟨g, rfl, c0⟩ := h.get (i := 0) (x := x) rfl
    obtain ⟨g', e, c1⟩ := h.get (i := 1) (x := y) rfl
    simp only [Option.some.injEq, Addr.mk.injEq] at e
    obtain ⟨rfl, _⟩ := e
    have hx := hb x (by simp)
    have hy := hb y (by simp)
    clear h hb
    by_cases h1 : y ≤ 1
    · by_cases h0 : x = 0
      · subst h0
        have HE := Lib.hid (show ruleP 18 [0, y] = 0 by simp [ruleP, thenP, h1])
        go_enter Try.func57, Try.ntmps57
        go_wp2_with fail
        go_ret
        exact ⟨by rw [HE.out]; rfl, Chg.refl _ _⟩
      · have b0 : (x == 0) = false := by simpa using h0
        have HE := Lib.hid (show ruleP 18 [x, y] = 1 by simp [ruleP, thenP, h0]; omega)
        go_enter Try.func57, Try.ntmps57
        go_wp2_with fail
        go_ret
        exact ⟨by rw [HE.out]; rfl, Chg.refl _ _⟩
    · have h2 : 1 < y := by omega
      have HE := Lib.hid (show ruleP 18 [x, y] = y by simp [ruleP, thenP, h1]; omega)
      by_cases h0 : x = 0
      · subst h0
        go_enter Try.func57, Try.ntmps57
        go_wp2_with fail
        go_ret
        exact ⟨by rw [HE.out]; rfl, Chg.refl _ _⟩
      · have b0 : (x == 0) = false := by simpa using h0
        go_enter Try.func57, Try.ntmps57
        go_wp2_with fail
        go_ret
        exact ⟨by rw [HE.out]; rfl, Chg.refl _ _⟩
theorem maxL_take {l : List Int} {k : Nat} {x : Int} (h : l[k]? = some x) : maxL (l.take (k + 1)) = max (maxL (l.take k)) x := by
  unfold maxL
  rw [List.take_add_one, h, List.foldl_append]
  rfl
set_option maxHeartbeats 1000000 in
theorem max_one (l : List Int) (a : Option Addr) (cap : Nat) (base : Nat) (w : World) (h : InV w base l (.slice a l.length cap)) (hl : 1 ≤ l.length) (hn : l.length ≤ 100000) (hb : ∀ y, y ∈ l → 0 ≤ y ∧ y ≤ 100000) :
    Calls Try.prog 55 #[.slice a l.length cap] w fun e w' => e = .returned (.int .i64 (maxL l)) ∧ Ext w w' := by
  have hx := List.getElem?_eq_getElem (show 0 < l.length by omega)
  have hb0 := hb _ (List.getElem_mem (show 0 < l.length by omega))
  obtain ⟨g, rfl, c0⟩ := h.get hx
  have hq : ¬ (l.length : Int) < 1 := by omega
  have q0 : (0 : Int) < (l.length : Int) := by omega
  have h1 : maxL (l.take 1) = l[0] := by
    rw [maxL_take hx]
    show max (maxL (l.take 0)) l[0] = l[0]
    simp only [List.take_zero, maxL, List.foldl_nil]
    omega
  have H1 := Lib.hid h1
  clear h1
  generalize l[0] = x0 at *
  go_enter Try.func55, Try.ntmps55
  go_wp2_with fail
  go_loop [3, 4] (fun m i => ∃ k : Nat, 1 ≤ k ∧ k ≤ l.length ∧ i = .int .i64 k ∧ m = .int .i64 (maxL (l.take k))) (fun _ i => l.length - (intOf i).toNat)
  case atStart => exact ⟨1, Nat.le_refl _, hl, rfl, by rw [H1.out]⟩
  case round =>
    obtain ⟨k, hk0, hk, rfl, rfl⟩ := hrel
    by_cases hlt : k < l.length
    · have hxk := List.getElem?_eq_getElem hlt
      obtain ⟨g', e, ck⟩ := h.get hxk
      simp only [Option.some.injEq, Addr.mk.injEq] at e
      obtain ⟨rfl, _⟩ := e
      have q1 : (k : Int) < (l.length : Int) := by omega
      have HM := Lib.hid (maxL_take hxk)
      generalize l[k] = xk at *
      generalize maxL (l.take k) = mk at *
      have HM2 := Lib.hid (HM.out.trans (show max mk xk = if mk < xk then xk else mk by split <;> omega))
      go_wp2_with fail
      all_goals
        go_round
        case rel => exact ⟨k + 1, by omega, by omega, by go_num, by rw [HM2.out]⟩
        case measure => simp [intOf]; omega
    · obtain rfl : k = l.length := by omega
      rw [List.take_length]
      go_wp2_with fail
      go_ret
      exact ⟨rfl, Chg.refl _ _⟩
end Go.Proofs.Ytcbdeoekehkbiaa
