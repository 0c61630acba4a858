/- Maps keyed by strings whose elements are numbers. -/
import Derived.Test.YtjdficgejjkaoaaNChk
namespace Go.Proofs.Ytjdficgejjkaoaa
open Go.RowKit Go.Maps Go.WideMaps
set_option linter.unusedVariables false
set_option linter.unusedSimpArgs false

theorem zeroI (w : World) : (zeroValue 3).run Try.prog w = .ok (.int .i64 0) w := by
  kernel_rfl
theorem wfI {n : Int} (h : isI64 n) : (Lit.int .i64 n).wf = true := wf_of_i64 h
/-- Block b is a map of numbers: what each name has. -/
def MiV (w : World) (b n : Nat) (f : ByteArray → Int) : Prop := ∃ D : DataW Unit, w.ownsMap Try.prog 9 (plainElem Try.prog 3) b n D ∧ IsMap D ∧ ∀ s : ByteArray, D.atKey (.string s.data.toList) (.lit (.int .i64 0)) = .lit (.int .i64 (f s))
def setM (f : ByteArray → Int) (s : ByteArray) (z : Int) : ByteArray → Int := fun t => if s = t then z else f t
theorem MiV.made (w : World) : MiV (w.alloc (.map #[] 0)) w.heap.size 0 (fun _ => 0) := ⟨_, World.ownsMap_made w _ _ _, ⟨_, rfl⟩, fun s => rfl⟩
theorem MiV.lt {w : World} {b n : Nat} {f : ByteArray → Int} (h : MiV w b n f) : b < w.heap.size := by
  obtain ⟨D, h1, _⟩ := h
  exact h1.lt
theorem MiV.chg {w w' : World} {b n : Nat} {f : ByteArray → Int} (h : MiV w b n f) {S : Nat → Prop} (hc : Chg S w w') (hS : ¬ S b) : MiV w' b n f := by
  obtain ⟨D, ⟨es, clock, hb, h2⟩, h3⟩ := h
  exact ⟨D, ⟨es, clock, (hc.block b (Array.getElem?_eq_some_iff.1 hb).1 hS).trans hb, h2⟩, h3⟩
theorem MiV.ext {w w' : World} {b n : Nat} {f : ByteArray → Int} (h : MiV w b n f) (hc : Ext w w') : MiV w' b n f := h.chg hc (fun h => h)
theorem MiV.look {w : World} {b n : Nat} {f : ByteArray → Int} (h : MiV w b n f) {s : ByteArray} (hs : s.size ≤ maxLen) : (Instr.lookup 64 (.map (some b)) (.string s) false).run Try.prog w = .ok (.int .i64 (f s)) w := by
  obtain ⟨D, h1, _, h3⟩ := h
  obtain ⟨v, ps, hrun, hv⟩ := h1.lookup strKeyed Try.underlying64 (zeroI w) (plainElem_int Try.underlying3 (by decide)) (strKey hs)
  obtain ⟨a, rfl, hz, _⟩ := plainElem_int_inv Try.underlying3 hv
  rw [h3 s] at hz
  simp only [Prod.mk.injEq, DataW.lit.injEq, Lit.int.injEq, true_and, and_true] at hz
  rw [hrun, hz.1]
theorem MiV.put {w : World} {b n : Nat} {f : ByteArray → Int} (h : MiV w b n f) {s : ByteArray} (hs : s.size ≤ maxLen) (hn : n < maxLen) {z : Int} (hz : isI64 z) : ∃ w', (Instr.mapUpdate 64 (.map (some b)) (.string s) (.int .i64 z)).run Try.prog w = .ok () w' ∧ MiV w' b (n + 1) (setM f s z) ∧ Chg (fun q => q = b) w w' := by
  obtain ⟨D, h1, h2, h3⟩ := h
  obtain ⟨w', hrun, ho, hg⟩ := h1.update strKeyed Try.underlying64 hn (strKey hs) (plainElem_int Try.underlying3 (wfI hz))
  refine ⟨w', hrun, ⟨_, ho, ?_, fun s' => ?_⟩, ⟨hg.os, hg.tape, hg.output, hg.size, fun k hk hn => hg.block k hk (fun e => hn (by simpa using e))⟩⟩
  · obtain ⟨es, rfl⟩ := h2
    exact ⟨_, rfl⟩
  · unfold setM
    by_cases e : s = s'
    · subst e
      rw [atKey_put_same h2 (strKeyed.key (strKey hs)), if_pos rfl]
    · have hne : Lit.string s'.data.toList ≠ Lit.string s.data.toList := fun he => e (strLit_inj he).symm
      rw [atKey_put_other hne, h3 s', if_neg e]
/-- .. whose names are just these, each once. -/
def MkV (w : World) (b n : Nat) (f : ByteArray → Int) (l : List ByteArray) : Prop := ∃ D : DataW Unit, w.ownsMap Try.prog 9 (plainElem Try.prog 3) b n D ∧ Maps.size D = l.length ∧ l.Nodup ∧ ∀ s : ByteArray, has D (.string s.data.toList) = l.any fun q => decide (q = s)
def addN (l : List ByteArray) (s : ByteArray) : List ByteArray := if (l.any fun q => decide (q = s)) = true then l else l ++ [s]
theorem MkV.made (w : World) : MkV (w.alloc (.map #[] 0)) w.heap.size 0 (fun _ => 0) [] := ⟨_, World.ownsMap_made w _ _ _, rfl, List.nodup_nil, fun s => rfl⟩
theorem MkV.lt {w : World} {b n : Nat} {f : ByteArray → Int} {l : List ByteArray} (h : MkV w b n f l) : b < w.heap.size := by
  obtain ⟨D, h1, _⟩ := h
  exact h1.lt
theorem MkV.chg {w w' : World} {b n : Nat} {f : ByteArray → Int} {l : List ByteArray} (h : MkV w b n f l) {S : Nat → Prop} (hc : Chg S w w') (hS : ¬ S b) : MkV w' b n f l := by
  obtain ⟨D, ⟨es, clock, hb, h2⟩, h3⟩ := h
  exact ⟨D, ⟨es, clock, (hc.block b (Array.getElem?_eq_some_iff.1 hb).1 hS).trans hb, h2⟩, h3⟩
theorem MkV.len {w : World} {b n : Nat} {f : ByteArray → Int} {l : List ByteArray} (h : MkV w b n f l) (ty : TypeId) : (Builtin.len_ #[64] ty #[.map (some b)]).run Try.prog w = .ok (.int .i64 l.length) w := by
  obtain ⟨D, h1, h2, _⟩ := h
  rw [h1.len Try.underlying64 ty, h2]
theorem MkV.put {w : World} {b n : Nat} {f : ByteArray → Int} {l : List ByteArray} (h : MkV w b n f l) {s : ByteArray} (hs : s.size ≤ maxLen) (hn : n < maxLen) {z : Int} (hz : isI64 z) : ∃ w', (Instr.mapUpdate 64 (.map (some b)) (.string s) (.int .i64 z)).run Try.prog w = .ok () w' ∧ MkV w' b (n + 1) f (addN l s) ∧ Chg (fun q => q = b) w w' := by
  obtain ⟨D, h1, h2, h4, h3⟩ := h
  obtain ⟨w', hrun, ho, hg⟩ := h1.update strKeyed Try.underlying64 hn (strKey hs) (plainElem_int Try.underlying3 (wfI hz))
  have ht := h1.tidy strKeyed
  refine ⟨w', hrun, ⟨_, ho, ?_, ?_, fun s' => ?_⟩, ⟨hg.os, hg.tape, hg.output, hg.size, fun k hk hn => hg.block k hk (fun e => hn (by simpa using e))⟩⟩
  · rw [size_put ht, h3 s, h2]
    unfold addN
    by_cases hm : (l.any fun q => decide (q = s)) = true
    · rw [if_pos hm, if_pos hm]
    · rw [if_neg hm, if_neg hm, List.length_append]; rfl
  · unfold addN
    split
    · exact h4
    · rename_i hm
      exact nodup_snoc.2 ⟨h4, fun h => hm (any_mem.2 h)⟩
  · by_cases e : s' = s
    · subst e
      rw [has_put_same ht.isMap (strKeyed.key (strKey hs)), eq_comm, any_mem]
      unfold addN
      split
      · exact any_mem.1 (by assumption)
      · simp
    · have hne : Lit.string s'.data.toList ≠ Lit.string s.data.toList := fun he => e (strLit_inj he)
      rw [has_put_other hne, h3 s', Bool.eq_iff_iff, any_mem, any_mem]
      unfold addN
      split
      · rfl
      · simp [e]
end Go.Proofs.Ytjdficgejjkaoaa
