/- Sets of places and stations, as maps in memory. -/
import Derived.Test.YtjdficgejjkaoaaCutP
import Derived.Test.YtjdficgejjkaoaaMapI
namespace Go.Proofs.Ytjdficgejjkaoaa
open Go.RowKit Go.Maps Go.WideMaps
set_option linter.unusedVariables false
set_option linter.unusedSimpArgs false

theorem kyLaid : laidOutB Try.prog = true := by kernel_rfl
theorem kyRow : (110 : TypeId) < Try.prog.types.size := of_decide_eq_true (by kernel_rfl)
theorem kyCells : Try.prog.cellsOf 110 = 2 := by kernel_rfl
theorem kyWide : (match Try.prog.underlying 110 with | some (.array _ _) | some (.struct _) => true | _ => false) = true := by rw [Try.underlying110]
theorem kyDeep : Try.prog.keyTypeAt 2 110 = true := by kernel_rfl
set_option maxRecDepth 100000 in
theorem kyKL : KeyLaw Try.prog 110 := deep_law_laid kyLaid (m := 2) (by omega) kyRow kyDeep kyWide
theorem kyLaw : Keyed Try.prog 110 := Keyed.of_law kyKL
def kyV (r : Int × Int) : Value := .agg #[.int .i64 r.1, .int .i64 r.2]
def okK (r : Int × Int) : Prop := isI64 r.1 ∧ isI64 r.2
theorem kyKey {r : Int × Int} (h : okK r) : ∃ kl, keyOf Try.prog 110 (kyV r) = some kl := by
  obtain ⟨m, hm⟩ : ∃ m, Try.prog.types.size = m + 1 := Nat.exists_eq_succ_of_ne_zero (fun h => by have := kyRow; rw [h] at this; exact Nat.not_lt_zero _ this)
  have hK : Try.prog.keyType 110 = true := by kernel_rfl
  have hF : (kyV r).formed Try.prog 110 = true := by simp [kyV, Value.formed, Try.underlying110, kyCells]
  have c3 : Try.prog.cellsOf 3 = 1 := by kernel_rfl
  have hr2 : List.range 2 = [0, 1] := rfl
  have hL : ∃ ls, Try.prog.keyLits (Try.prog.types.size + 1) 110 (kyV r).cells.toList = some ls := by
    rw [hm]
    simp [Program.keyLits, Try.underlying110, kyV, Value.cells, kyCells, c3, Try.underlying3, wf_of_i64 h.1, wf_of_i64 h.2, hr2]
  obtain ⟨ls, hls⟩ := hL
  refine ⟨.string (keyBytes ls), ?_⟩
  unfold keyOf
  rw [Try.underlying110]
  simp only [hK, hF, Bool.and_self, if_true, hls, Option.map_some]
/-- Block b is a set of just these, of at most n. -/
def KyV (w : World) (b n : Nat) (l : List (Int × Int)) : Prop := ∃ D : DataW Unit, w.ownsMap Try.prog 110 (plainElem Try.prog 4) b n D ∧ IsMap D ∧ ∀ r kl, keyOf Try.prog 110 (kyV r) = some kl → D.atKey kl (.lit (.bool false)) = .lit (.bool (hasK l r))
theorem KyV.made (w : World) : KyV (w.alloc (.map #[] 0)) w.heap.size 0 [] := ⟨_, World.ownsMap_made w _ _ _, ⟨_, rfl⟩, fun r kl _ => rfl⟩
theorem KyV.chg {w w' : World} {b n : Nat} {l : List (Int × Int)} (h : KyV w b n l) {S : Nat → Prop} (hc : Chg S w w') (hS : ¬ S b) : KyV w' b n l := by
  obtain ⟨D, ⟨es, clock, hb, h2⟩, h3⟩ := h
  exact ⟨D, ⟨es, clock, (hc.block b (Array.getElem?_eq_some_iff.1 hb).1 hS).trans hb, h2⟩, h3⟩
theorem KyV.lt {w : World} {b n : Nat} {l : List (Int × Int)} (h : KyV w b n l) : b < w.heap.size := by
  obtain ⟨D, h1, _⟩ := h
  exact h1.lt
theorem KyV.look {w : World} {b n : Nat} {l : List (Int × Int)} (h : KyV w b n l) {r : Int × Int} (hr : okK r) : (Instr.lookup 106 (.map (some b)) (kyV r) false).run Try.prog w = .ok (.bool (hasK l r)) w := by
  obtain ⟨D, h1, _, h3⟩ := h
  obtain ⟨kl, hkl⟩ := kyKey hr
  obtain ⟨v, ps, hrun, hv⟩ := h1.lookup kyLaw Try.underlying106 (zeroB w) (plainB Try.underlying4 false) hkl
  obtain ⟨c, rfl, hz⟩ := plainB_inv Try.underlying4 hv
  rw [h3 r kl hkl] at hz
  simp only [Prod.mk.injEq, DataW.lit.injEq, Lit.bool.injEq] at hz
  rw [hrun, hz.1]
theorem KyV.put {w : World} {b n : Nat} {l : List (Int × Int)} (h : KyV w b n l) {r : Int × Int} (hr : okK r) (hn : n < maxLen) : ∃ w', (Instr.mapUpdate 106 (.map (some b)) (kyV r) (.bool true)).run Try.prog w = .ok () w' ∧ KyV w' b (n + 1) (l ++ [r]) ∧ Chg (fun q => q = b) w w' := by
  obtain ⟨D, h1, h2, h3⟩ := h
  obtain ⟨kl, hkl⟩ := kyKey hr
  obtain ⟨w', hrun, ho, hg⟩ := h1.update kyLaw Try.underlying106 hn hkl (plainB Try.underlying4 true)
  refine ⟨w', hrun, ⟨_, ho, ?_, fun r' kl' hk' => ?_⟩, ⟨hg.os, hg.tape, hg.output, hg.size, fun k hk hn => hg.block k hk (fun e => hn (by simpa using e))⟩⟩
  · obtain ⟨es, rfl⟩ := h2
    exact ⟨_, rfl⟩
  · by_cases e : r' = r
    · subst e
      rw [hkl] at hk'
      obtain rfl := Option.some.inj hk'
      rw [atKey_put_same h2 (kyLaw.key hkl)]
      simp [hasK]
    · have hne : kl' ≠ kl := fun he => by
        subst he
        have := kyLaw.inj hk' hkl
        simp only [kyV, Value.agg.injEq, Array.mk.injEq, List.cons.injEq, Value.string.injEq, Value.int.injEq, true_and, and_true] at this
        exact e (Prod.ext this.1 this.2)
      rw [atKey_put_other hne, h3 r' kl' hk']
      unfold hasK
      rw [List.any_append]
      simp [Ne.symm e]
end Go.Proofs.Ytjdficgejjkaoaa
