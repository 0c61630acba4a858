/- The chapter's program, plainly. -/
import Derived.Test.YtjdficgejjkaoaaKnown
import Derived.Test.YtjdficgejjkaoaaAge
namespace Go.Proofs.Ytjdficgejjkaoaa
open Go.RowKit
set_option linter.unusedVariables false
set_option linter.unusedSimpArgs false

theorem nm_S : nameP sS = true := by decide +kernel
theorem nm_T : nameP sT = true := by decide +kernel
theorem nm_U : nameP sU = true := by decide +kernel
theorem nm_X : nameP sX = true := by decide +kernel
theorem ne_SX : sS ≠ sX := by decide +kernel
theorem ne_TX : sT ≠ sX := by decide +kernel
theorem ne_UX : sU ≠ sX := by decide +kernel
theorem ne_ST : sS ≠ sT := by decide +kernel
theorem ne_SU : sS ≠ sU := by decide +kernel
theorem ne_TU : sT ≠ sU := by decide +kernel
theorem noList : sNo.toList = [] := by simp [sNo, ByteArray.toList_eq]
theorem ok_S : okE 32 200 bodyS = true := by
  simp [okE, bodyS, thenE, noughtE, addE, preE, opE, nmE, wfE, wfL, nodesE, nodesL, headP, partsP, hasOp, pairsD, prefixesD, nm_S, nm_X, noList]
theorem ok_nm {s : ByteArray} (h : nameP s = true) : okE 32 200 (nmE s) = true := by
  simp [okE, nmE, wfE, wfL, nodesE, nodesL, headP, partsP, hasOp, pairsD, h]
theorem ok_U : okE 32 200 (addE (nmE sT) (nmE sX)) = true := by
  simp [okE, addE, opE, nmE, wfE, wfL, nodesE, nodesL, headP, partsP, hasOp, pairsD, nm_T, nm_X, noList]
theorem wrap1 : wrap64 1 = 1 := by unfold wrap64; omega
theorem refs_S : gthE [] 0 bodyS = [(sS, 1), (sX, 0)] := by
  simp [bodyS, thenE, noughtE, addE, preE, opE, nmE, gthE, gthL, stepR, agoP, wrap1, ne_SX]
theorem refs_nm (s : ByteArray) : gthE [] 0 (nmE s) = [(s, 0)] := by simp [nmE, gthE, gthL, stepR]
theorem refs_U : gthE [] 0 (addE (nmE sT) (nmE sX)) = [(sT, 0), (sX, 0)] := by
  simp [addE, opE, nmE, gthE, gthL, stepR, agoP, ne_TX]
theorem pr_known : progP knownP = true := by simp [progP, knownP, flowS, flowT, flowU, inBad, flBad, mayP, nm_S, nm_T, nm_U, nm_X, ok_S, ok_nm nm_S, ok_U]
theorem n_known : namesP knownP = 0 := names_0 pr_known ⟨by simp [namesT_eq, knownP, flowS, flowT, flowU, ne_SX.symm, ne_TX.symm, ne_UX.symm, ne_ST, ne_SU, ne_TU],
  by simp [askedL, knownP, namesF, namesE, flowS, flowT, flowU, refs_S, refs_nm, refs_U, namesT_eq], by simp [knownP]⟩
theorem f_S : findP sS knownP.flows knownP.ins = (1, 1, 0, true) := by simp [knownP, findP, findFl, flowS, ne_SX.symm]
theorem f_T : findP sT knownP.flows knownP.ins = (2, 1, 1, true) := by simp [knownP, findP, findFl, flowS, flowT, ne_TX.symm, ne_ST]
theorem f_X : findP sX knownP.flows knownP.ins = (1, 1, -1, true) := by simp [knownP, findP]
theorem asks_known : asksP knownP = [⟨0, 0, -1, (sS, 1)⟩, ⟨0, -1, 0, (sX, 0)⟩, ⟨1, 0, 1, (sS, 0)⟩, ⟨2, 1, 1, (sT, 0)⟩, ⟨2, -1, 0, (sX, 0)⟩] := by
  have e1 : asksOf knownP 0 flowS = [⟨0, 0, -1, (sS, 1)⟩, ⟨0, -1, 0, (sX, 0)⟩] := by
    rw [asksOf, show flowS.body = bodyS from rfl, refs_S]
    simp [askOf, f_S, f_X, flowS]
  have e2 : asksOf knownP 1 flowT = [⟨1, 0, 1, (sS, 0)⟩] := by
    rw [asksOf, show flowT.body = nmE sS from rfl, refs_nm]
    simp [askOf, f_S, flowT]
  have e3 : asksOf knownP 2 flowU = [⟨2, 1, 1, (sT, 0)⟩, ⟨2, -1, 0, (sX, 0)⟩] := by
    rw [asksOf, show flowU.body = addE (nmE sT) (nmE sX) from rfl, refs_U]
    simp [askOf, f_T, f_X, flowU]
  show asksL knownP 0 [flowS, flowT, flowU] = _
  simp [asksL, e1, e2, e3]
theorem fits_known : Fits knownP [0, 1, 2] := by
  refine ⟨rfl, by simp, ?_⟩
  rw [asks_known]
  simp [leastA]
theorem least_known : Least knownP [0, 1, 2] := by
  refine ⟨fits_known, fun m hm i => ?_⟩
  have h0 := getD_rng hm.2.1 0
  have h3 := hm.2.2 ⟨1, 0, 1, (sS, 0)⟩ (by rw [asks_known]; simp)
  have h4 := hm.2.2 ⟨2, 1, 1, (sT, 0)⟩ (by rw [asks_known]; simp)
  have hi := getD_rng hm.2.1 i
  simp only [leastA] at h3 h4
  rw [if_neg (by omega)] at h3 h4
  simp only [Int.toNat_zero, Int.toNat_one] at h3 h4
  match i with
  | 0 => show (0 : Int) ≤ _; omega
  | 1 => show (1 : Int) ≤ _; omega
  | 2 => show (2 : Int) ≤ _; omega
  | n + 3 => show (0 : Int) ≤ _; exact hi.1
theorem late_known {l : List Int} {n : Int} (h : LateA knownP l n) : n = 0 ∧ l = [0, 1, 2] := by
  have k : LateA knownP [0, 1, 2] 0 := by unfold LateA; rw [if_pos n_known]; exact .inl ⟨rfl, least_known⟩
  exact h.unique k
theorem chk_known : lateChk knownP [0, 1, 2] = true := lateChk_iff.2 ⟨n_known, fits_known⟩
theorem chk_other : lateChk knownP [0, 0, 2] = false := by
  cases e : lateChk knownP [0, 0, 2]
  · rfl
  · have h3 := (lateChk_iff.1 e).2.2.2 ⟨1, 0, 1, (sS, 0)⟩ (by rw [asks_known]; simp)
    simp [leastA] at h3
theorem age_1 : ageP knownP [0, 1, 2] 2 (sX, 0) = (2, 0) := by
  have := ageP_of chk_known (i := 2) (f := flowU) (r := (sX, 0)) rfl (by rw [show flowU.body = addE (nmE sT) (nmE sX) from rfl, refs_U]; simp)
  rw [show ((2 : Nat) : Int) = 2 from rfl] at this
  rw [this]; simp [askOf, f_X, flowU, leastA]
theorem age_2 : ageP knownP [0, 1, 2] 1 (sS, 0) = (0, 0) := by
  have := ageP_of chk_known (i := 1) (f := flowT) (r := (sS, 0)) rfl (by rw [show flowT.body = nmE sS from rfl, refs_nm]; simp)
  rw [show ((1 : Nat) : Int) = 1 from rfl] at this
  rw [this]; simp [askOf, f_S, flowT, leastA]
theorem age_3 : ageP knownP [0, 1, 2] 0 (sS, 1) = (1, 0) := by
  have := ageP_of chk_known (i := 0) (f := flowS) (r := (sS, 1)) rfl (by rw [show flowS.body = bodyS from rfl, refs_S]; simp)
  rw [show ((0 : Nat) : Int) = 0 from rfl] at this
  rw [this]; simp [askOf, f_S, flowS, leastA]
theorem age_4 : ageP knownP [0, 1, 2] 0 (sS, 0) = (0, 1) := by
  refine age_none chk_known (fun x hx => ?_)
  rw [asks_known] at hx
  simp only [List.mem_cons, List.not_mem_nil, or_false] at hx
  rcases hx with rfl | rfl | rfl | rfl | rfl <;> simp [askIs, ne_SX.symm]
/-- Two flows that ask each other, at two stations. -/
def crossS : FlD := ⟨sS, 1, 1, 0, nmE sT⟩
def crossT : FlD := ⟨sT, 1, 2, 0, thenE noughtE (preE (nmE sS))⟩
def crossP : PrD := ⟨2, [], [crossS, crossT], []⟩
theorem ok_cT : okE 32 200 (thenE noughtE (preE (nmE sS))) = true := by
  simp [okE, thenE, noughtE, preE, opE, nmE, wfE, wfL, nodesE, nodesL, headP, partsP, hasOp, pairsD, prefixesD, nm_S, noList]
theorem refs_pre (s : ByteArray) : gthE [] 0 (thenE noughtE (preE (nmE s))) = [(s, 1)] := by
  simp [thenE, noughtE, preE, opE, nmE, gthE, gthL, stepR, agoP, wrap1]
theorem pr_cross : progP crossP = true := by simp [progP, crossP, crossS, crossT, inBad, flBad, mayP, nm_S, nm_T, ok_nm nm_T, ok_cT]
theorem n_cross : namesP crossP = 0 := names_0 pr_cross ⟨by simp [namesT_eq, crossP, crossS, crossT, ne_ST], by simp [askedL, crossP, namesF, namesE, crossS, crossT, refs_nm, refs_pre, namesT_eq], by simp [crossP]⟩
theorem g_S : findP sS crossP.flows crossP.ins = (1, 1, 0, true) := by simp [crossP, findP, findFl, crossS]
theorem g_T : findP sT crossP.flows crossP.ins = (2, 1, 1, true) := by simp [crossP, findP, findFl, crossS, crossT, ne_ST]
theorem late_cross {l : List Int} {n : Int} (h : LateA crossP l n) : n = 10 := by
  unfold LateA at h
  rw [if_pos n_cross] at h
  rcases h with ⟨_, h⟩ | ⟨h, _⟩
  · exfalso
    have h1 := h.1.2.2 ⟨0, 1, 1, (sT, 0)⟩ (asksP_mem.2 ⟨0, crossS, (sT, 0), rfl, by rw [show crossS.body = nmE sT from rfl, refs_nm]; simp, by simp [askOf, g_T, crossS]⟩)
    have h2 := h.1.2.2 ⟨1, 0, 0, (sS, 1)⟩ (asksP_mem.2 ⟨1, crossT, (sS, 1), rfl, by rw [show crossT.body = thenE noughtE (preE (nmE sS)) from rfl, refs_pre]; simp, by simp [askOf, g_S, crossT]⟩)
    simp only [leastA] at h1 h2
    rw [if_neg (by omega)] at h1 h2
    simp only [Int.toNat_zero, Int.toNat_one] at h1 h2
    omega
  · exact h
end Go.Proofs.Ytjdficgejjkaoaa
