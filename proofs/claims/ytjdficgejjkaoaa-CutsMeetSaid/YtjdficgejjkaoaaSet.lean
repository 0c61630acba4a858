/- Sets of references, as maps in memory. -/
import Derived.Test.YtjdficgejjkaoaaGth
import Derived.Maps.Own
import Derived.Maps.Views
import Derived.Maps.OwnOps
import Derived.DeepKeys4
namespace Go.Proofs.Ytjdficgejjkaoaa
open Go.RowKit Go.Maps Go.WideMaps
set_option linter.unusedVariables false

theorem rfLaid : laidOutB Try.prog = true := by kernel_rfl
theorem rfRow : (29 : TypeId) < Try.prog.types.size := of_decide_eq_true (by kernel_rfl)
theorem rfCells : Try.prog.cellsOf 29 = 2 := by kernel_rfl
theorem rfWide : (match Try.prog.underlying 29 with | some (.array _ _) | some (.struct _) => true | _ => false) = true := by rw [Try.underlying29]
theorem rfDeep : Try.prog.keyTypeAt 2 29 = true := by kernel_rfl
set_option maxRecDepth 100000 in
theorem rfKL : KeyLaw Try.prog 29 := deep_law_laid rfLaid (m := 2) (by omega) rfRow rfDeep rfWide
theorem rfLaw : Keyed Try.prog 29 := Keyed.of_law rfKL
def rfV (r : Rf) : Value := .agg #[.string r.1, .int .i64 r.2]
def okR (r : Rf) : Prop := r.1.size ≤ maxLen ∧ isI64 r.2
theorem wf_of_i64 {n : Int} (h : isI64 n) : (Lit.int .i64 n).wf = true := by simpa [isI64, Lit.wf, IntKind.min, IntKind.max, IntKind.signed, IntKind.bits] using h
theorem rfKey {r : Rf} (h : okR r) : ∃ kl, keyOf Try.prog 29 (rfV r) = some kl := by
  obtain ⟨m, hm⟩ : ∃ m, Try.prog.types.size = m + 1 := Nat.exists_eq_succ_of_ne_zero (fun h => by have := rfRow; rw [h] at this; exact Nat.not_lt_zero _ this)
  have hK : Try.prog.keyType 29 = true := by kernel_rfl
  have hF : (rfV r).formed Try.prog 29 = true := by simp [rfV, Value.formed, Try.underlying29, rfCells]
  have c9 : Try.prog.cellsOf 9 = 1 := by kernel_rfl
  have c3 : Try.prog.cellsOf 3 = 1 := by kernel_rfl
  have hL : ∃ ls, Try.prog.keyLits (Try.prog.types.size + 1) 29 (rfV r).cells.toList = some ls := by
    rw [hm]
    simp [Program.keyLits, Try.underlying29, rfV, Value.cells, rfCells, c9, c3, Try.underlying9, Try.underlying3, h.1, wf_of_i64 h.2]
  obtain ⟨ls, hls⟩ := hL
  refine ⟨.string (keyBytes ls), ?_⟩
  unfold keyOf
  rw [Try.underlying29]
  simp only [hK, hF, Bool.and_self, if_true, hls, Option.map_some]
theorem plainB {P : Program} {e : TypeId} (he : P.underlying e = some .bool) (b : Bool) : plainElem (H := Unit) P e (.bool b) = some (.lit (.bool b), []) := by simp [plainElem, he]
theorem plainB_inv {P : Program} {e : TypeId} (he : P.underlying e = some .bool) {v : Value} {z : DataW Unit × List MemPlace} (h : plainElem P e v = some z) : ∃ b, v = .bool b ∧ z = (.lit (.bool b), []) := by
  unfold plainElem at h
  rw [he] at h
  cases v <;> simp at h
  subst h
  exact ⟨_, rfl, rfl⟩
/-- Block b is a set of just these, of at most n. -/
def SetV (w : World) (b n : Nat) (l : List Rf) : Prop := ∃ D : DataW Unit, w.ownsMap Try.prog 29 (plainElem Try.prog 4) b n D ∧ IsMap D ∧ ∀ r kl, keyOf Try.prog 29 (rfV r) = some kl → D.atKey kl (.lit (.bool false)) = .lit (.bool (l.any fun q => decide (q = r)))
theorem SetV.made (w : World) : SetV (w.alloc (.map #[] 0)) w.heap.size 0 [] := ⟨_, World.ownsMap_made w _ _ _, ⟨_, rfl⟩, fun r kl _ => rfl⟩
theorem SetV.chg {w w' : World} {b n : Nat} {l : List Rf} (h : SetV w b n l) {S : Nat → Prop} (hc : Chg S w w') (hS : ¬ S b) : SetV w' b n l := by
  obtain ⟨D, ⟨es, clock, hb, h2⟩, h3⟩ := h
  exact ⟨D, ⟨es, clock, (hc.block b (Array.getElem?_eq_some_iff.1 hb).1 hS).trans hb, h2⟩, h3⟩
theorem SetV.lt {w : World} {b n : Nat} {l : List Rf} (h : SetV w b n l) : b < w.heap.size := by
  obtain ⟨D, h1, _⟩ := h
  exact h1.lt
theorem zeroB (w : World) : (zeroValue 4).run Try.prog w = .ok (.bool false) w := by
  kernel_rfl
theorem SetV.look {w : World} {b n : Nat} {l : List Rf} (h : SetV w b n l) {r : Rf} (hr : okR r) : (Instr.lookup 103 (.map (some b)) (rfV r) false).run Try.prog w = .ok (.bool (l.any fun q => decide (q = r))) w := by
  obtain ⟨D, h1, _, h3⟩ := h
  obtain ⟨kl, hkl⟩ := rfKey hr
  obtain ⟨v, ps, hrun, hv⟩ := h1.lookup rfLaw Try.underlying103 (zeroB w) (plainB Try.underlying4 false) hkl
  obtain ⟨c, rfl, hz⟩ := plainB_inv Try.underlying4 hv
  rw [h3 r kl hkl] at hz
  simp only [Prod.mk.injEq, DataW.lit.injEq, Lit.bool.injEq] at hz
  rw [hrun, hz.1]
theorem SetV.put {w : World} {b n : Nat} {l : List Rf} (h : SetV w b n l) {r : Rf} (hr : okR r) (hn : n < maxLen) : ∃ w', (Instr.mapUpdate 103 (.map (some b)) (rfV r) (.bool true)).run Try.prog w = .ok () w' ∧ SetV w' b (n + 1) (l ++ [r]) ∧ Chg (fun q => q = b) w w' := by
  obtain ⟨D, h1, h2, h3⟩ := h
  obtain ⟨kl, hkl⟩ := rfKey hr
  obtain ⟨w', hrun, ho, hg⟩ := h1.update rfLaw Try.underlying103 hn hkl (plainB Try.underlying4 true)
  refine ⟨w', hrun, ⟨_, ho, ?_, fun r' kl' hk' => ?_⟩, ⟨hg.os, hg.tape, hg.output, hg.size, fun k hk hn => hg.block k hk (fun e => hn (by simpa using e))⟩⟩
  · obtain ⟨es, rfl⟩ := h2
    exact ⟨_, rfl⟩
  · by_cases e : r' = r
    · subst e
      rw [hkl] at hk'
      obtain rfl := Option.some.inj hk'
      rw [atKey_put_same h2 (rfLaw.key hkl)]
      simp
    · have hne : kl' ≠ kl := fun he => by
        subst he
        have := rfLaw.inj hk' hkl
        simp only [rfV, Value.agg.injEq, Array.mk.injEq, List.cons.injEq, Value.string.injEq, Value.int.injEq, true_and, and_true] at this
        exact e (Prod.ext this.1 this.2)
      rw [atKey_put_other hne, h3 r' kl' hk', List.any_append]
      simp [Ne.symm e]
end Go.Proofs.Ytjdficgejjkaoaa
