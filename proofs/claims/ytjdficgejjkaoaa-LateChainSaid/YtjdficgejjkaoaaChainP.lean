/- Chains of flows, plainly. -/
import Derived.Test.YtjdficgejjkaoaaMoreP
import Derived.Test.YtjdficgejjkaoaaKnownP
namespace Go.Proofs.Ytjdficgejjkaoaa
open Go.RowKit
set_option linter.unusedVariables false
set_option linter.unusedSimpArgs false

def cName (i : Nat) : ByteArray := ⟨#[102, UInt8.ofNat (97 + i)]⟩
def cLast : Nat → ByteArray
  | 0 => sX
  | i + 1 => cName i
def cSt (S : List Int) (i : Nat) : Int := 1 + S.getD i 0 % 4
def cPst (S : List Int) : Nat → Int
  | 0 => 1
  | i + 1 => cSt S i
def cBk (B : List Bool) (i : Nat) : Bool := B.getD i false
def bodyC (b : Bool) (s : ByteArray) : Ex := if b then thenE noughtE (preE (nmE s)) else nmE s
def cFl (S : List Int) (B : List Bool) (i : Nat) : FlD := ⟨cName i, 1, cSt S i, 0, bodyC (cBk B i) (cLast i)⟩
def cPr (S : List Int) (B : List Bool) (n : Nat) : PrD := ⟨4, [⟨sX, 1, 1⟩], (List.range n).map (cFl S B), []⟩
def cMore (S : List Int) (B : List Bool) (i : Nat) : Int := (if cBk B i then -1 else 0) + (if cSt S i = cPst S i then 0 else 1)
def cWant (S : List Int) (B : List Bool) : Nat → Int
  | 0 => 0
  | i + 1 => max (cWant S B i + cMore S B i) 0
def cLs (S : List Int) (B : List Bool) (n : Nat) : List Int := (List.range n).map fun i => cWant S B (i + 1)
theorem cName_inj : ∀ i, i < 20 → ∀ j, j < 20 → cName i = cName j → i = j := by decide +kernel
theorem cName_ok : ∀ i, i < 20 → nameP (cName i) = true := by decide +kernel
theorem cName_x : ∀ i, i < 20 → cName i ≠ sX := by decide +kernel
theorem cLast_ok (i : Nat) (h : i ≤ 20) : nameP (cLast i) = true := by
  cases i with
  | zero => exact nm_X
  | succ i => exact cName_ok i (by omega)
theorem cSt_rng (S : List Int) (i : Nat) : 1 ≤ cSt S i ∧ cSt S i ≤ 4 := by unfold cSt; omega
theorem cPr_succ (S : List Int) (B : List Bool) (n : Nat) : cPr S B (n + 1) = moreP (cPr S B n) (cFl S B n) := by simp [cPr, moreP, List.range_succ]
theorem cPr_len (S : List Int) (B : List Bool) (n : Nat) : (cPr S B n).flows.length = n := by simp [cPr]
theorem refs_C (b : Bool) (s : ByteArray) : gthE [] 0 (bodyC b s) = [(s, if b then 1 else 0)] := by
  cases b
  · exact refs_nm s
  · simp [bodyC, thenE, noughtE, preE, opE, nmE, gthE, gthL, stepR, agoP, wrap1]
theorem ok_C (b : Bool) {s : ByteArray} (h : nameP s = true) : okE 32 200 (bodyC b s) = true := by
  cases b
  · exact ok_nm h
  · simp [okE, bodyC, thenE, noughtE, preE, opE, nmE, wfE, wfL, nodesE, nodesL, headP, partsP, hasOp, pairsD, prefixesD, h, noList]
theorem cPr_prog (S : List Int) (B : List Bool) (n : Nat) (hn : n ≤ 20) : progP (cPr S B n) = true := by
  have h1 : ∀ x, x ∈ (List.range n).map (cFl S B) → flBad 4 x = false := by
    intro x hx
    obtain ⟨i, hi, rfl⟩ := List.mem_map.1 hx
    have hi := List.mem_range.1 hi
    have := cSt_rng S i
    simp [flBad, mayP, cFl, cName_ok i (by omega), ok_C _ (cLast_ok i (by omega)), this.1, this.2]
  have h2 : ((List.range n).map (cFl S B)).any (flBad 4) = false := List.any_eq_false.2 (fun x hx => by rw [h1 x hx]; decide)
  unfold progP
  rw [show (cPr S B n).flows = (List.range n).map (cFl S B) from rfl, show (cPr S B n).st = 4 from rfl, h2]
  simp [cPr, inBad, mayP, nm_X]
  omega
theorem cPr_names (S : List Int) (B : List Bool) : ∀ n, n ≤ 20 → ([sX] ++ (List.range n).map cName).Nodup
  | 0, _ => by simp
  | n + 1, hn => by
    rw [List.range_succ, List.map_append, ← List.append_assoc]
    refine nodup_snoc.2 ⟨cPr_names S B n (by omega), fun h => ?_⟩
    rcases List.mem_append.1 h with h | h
    · exact cName_x n (by omega) (by simpa using h)
    · obtain ⟨i, hi, e⟩ := List.mem_map.1 h
      have hi := List.mem_range.1 hi
      have := cName_inj i (by omega) n (by omega) e
      omega
theorem cPr_asked (S : List Int) (B : List Bool) : ∀ n s, s ∈ namesF ((List.range n).map (cFl S B)) → ∃ i, i < n ∧ s = cLast i
  | 0, s, h => by simp [namesF] at h
  | n + 1, s, h => by
    rw [List.range_succ, List.map_append, namesF_append] at h
    rcases List.mem_append.1 h with h | h
    · obtain ⟨i, hi, e⟩ := cPr_asked S B n s h
      exact ⟨i, by omega, e⟩
    · refine ⟨n, by omega, ?_⟩
      simpa [namesF, namesE, cFl, refs_C] using h
theorem cPr_okN (S : List Int) (B : List Bool) (n : Nat) (hn : n ≤ 20) : okN (cPr S B n) := by
  have hT : namesT (cPr S B n) = [sX] ++ (List.range n).map cName := by
    rw [namesT_eq]
    simp [cPr, cFl]
  refine ⟨by rw [hT]; exact cPr_names S B n hn, fun s hs => ?_, by simp [cPr]⟩
  rw [hT]
  have hs : s ∈ namesF ((List.range n).map (cFl S B)) := by simpa [askedL, cPr] using hs
  obtain ⟨i, hi, rfl⟩ := cPr_asked S B n s hs
  cases i with
  | zero => exact List.mem_append.2 (.inl (by simp [cLast]))
  | succ i => exact List.mem_append.2 (.inr (List.mem_map.2 ⟨i, List.mem_range.2 (by omega), rfl⟩))
theorem cPr_n (S : List Int) (B : List Bool) (n : Nat) (hn : n ≤ 20) : namesP (cPr S B n) = 0 := names_0 (cPr_prog S B n hn) (cPr_okN S B n hn)
theorem cPr_find (S : List Int) (B : List Bool) (n : Nat) (hn : n < 20) : findP (cLast n) (cPr S B (n + 1)).flows (cPr S B (n + 1)).ins = (cPst S n, 1, (n : Int) - 1, true) := by
  cases n with
  | zero => simp [cPr, findP, cLast, cPst]
  | succ m =>
    have h := find_flM (cPr_okN S B (m + 2) (by omega)) (k := m) (x := cFl S B m) (by simp [cPr])
    rw [show (cFl S B m).name = cLast (m + 1) from rfl] at h
    rw [h]
    simp [cFl, cPst]
theorem cPr_ask (S : List Int) (B : List Bool) (n : Nat) (hn : n < 20) : asksOf (moreP (cPr S B n) (cFl S B n)) (cPr S B n).flows.length (cFl S B n) = [⟨n, (n : Int) - 1, cMore S B n, (cLast n, if cBk B n then 1 else 0)⟩] := by
  rw [← cPr_succ, cPr_len]
  unfold asksOf
  rw [show (cFl S B n).body = bodyC (cBk B n) (cLast n) from rfl, refs_C]
  simp only [List.map_cons, List.map_nil, askOf, cPr_find S B n hn]
  congr 1
  rw [show (cFl S B n).st = cSt S n from rfl]
  congr 1
  unfold cMore
  by_cases h : cSt S n = cPst S n
  · rw [if_pos h.symm, if_pos h]; cases cBk B n <;> rfl
  · rw [if_neg (fun e => h e.symm), if_neg h]; cases cBk B n <;> rfl
theorem cWant_rng (S : List Int) (B : List Bool) : ∀ n, 0 ≤ cWant S B n ∧ cWant S B n ≤ n
  | 0 => by simp [cWant]
  | n + 1 => by
    have := cWant_rng S B n
    have h : cMore S B n ≤ 1 := by unfold cMore; split <;> split <;> omega
    unfold cWant
    omega
theorem cLs_len (S : List Int) (B : List Bool) (n : Nat) : (cLs S B n).length = n := by simp [cLs]
theorem cLs_get (S : List Int) (B : List Bool) (n i : Nat) (h : i < n) : (cLs S B n)[i]? = some (cWant S B (i + 1)) := by
  simp [cLs, h]
theorem cPr_least (S : List Int) (B : List Bool) : ∀ n, n ≤ 20 → Least (cPr S B n) (cLs S B n)
  | 0, _ => by
    refine ⟨⟨rfl, by simp [cLs], by simp [asksP, asksL, cPr]⟩, fun m hm i => ?_⟩
    have := getD_rng hm.2.1 i
    have e : (cLs S B 0).getD i 0 = 0 := by simp [cLs]
    omega
  | n + 1, hn => by
    have hw := cWant_rng S B n
    have hm1 : cMore S B n ≤ 1 := by unfold cMore; split <;> split <;> omega
    have hl : leastA (cLs S B n) ⟨n, (n : Int) - 1, cMore S B n, (cLast n, if cBk B n then 1 else 0)⟩ = cWant S B n + cMore S B n := by
      unfold leastA
      cases n with
      | zero => simp [cWant]
      | succ m =>
        simp only
        rw [if_neg (by omega), List.getD_eq_getElem?_getD, show ((m + 1 : Nat) : Int) - 1 = (m : Int) by omega, Int.toNat_natCast, cLs_get S B (m + 1) m (by omega)]
        rfl
    have h := least_more (cPr_n S B n (by omega)) (cPr_ask S B n (by omega)) (by show (n : Int) - 1 < _; rw [cPr_len]; omega) (cPr_least S B n (by omega)) (by rw [hl]; omega)
    rw [hl] at h
    rw [cPr_succ]
    have e : cLs S B (n + 1) = cLs S B n ++ [max 0 (cWant S B n + cMore S B n)] := by
      unfold cLs
      rw [List.range_succ, List.map_append]
      simp only [List.map_cons, List.map_nil, cWant]
      rw [Int.max_comm]
    rw [e]
    exact h
end Go.Proofs.Ytjdficgejjkaoaa
