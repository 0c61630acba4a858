/- Maps keyed by strings: what is there; and sets of strings. -/
import Derived.Test.YtjdficgejjkaoaaSet
import Derived.Test.YtjdficgejjkaoaaTok
import Derived.Maps.OwnSet
namespace Go.Proofs.Ytjdficgejjkaoaa
open Go.RowKit Go.Maps Go.WideMaps
set_option linter.unusedVariables false
set_option linter.unusedSimpArgs false

theorem strKeyed : Keyed Try.prog 9 := string_keyed Try.underlying9
theorem strKey {s : ByteArray} (h : s.size ≤ maxLen) : keyOf Try.prog 9 (.string s) = some (.string s.data.toList) := keyOf_string_mk Try.underlying9 h
theorem strLit_inj {s t : ByteArray} (h : (Lit.string s.data.toList) = Lit.string t.data.toList) : s = t := by
  simp only [Lit.string.injEq] at h
  cases s; cases t
  simp only [Array.toList_inj] at h
  rw [h]
/-- A thing's value. -/
def IsTh (v : Value) : Prop := ∃ a b c, v = .agg #[.int .i64 a, .int .u8 b, .int .i64 c]
open Classical in
/-- How a thing reads in the map: it is there. -/
noncomputable def thR (v : Value) : Option (DataW Unit × List MemPlace) := if IsTh v then some (.lit (.bool true), []) else none
theorem thR_mk (a b c : Int) : thR (.agg #[.int .i64 a, .int .u8 b, .int .i64 c]) = some (.lit (.bool true), []) := if_pos ⟨a, b, c, rfl⟩
theorem thR_inv {v : Value} {z : DataW Unit × List MemPlace} (h : thR v = some z) : ∃ a b c, v = .agg #[.int .i64 a, .int .u8 b, .int .i64 c] := by
  unfold thR at h
  split at h
  · assumption
  · cases h
/-- Block b is a map of things with just these names. -/
def ThV (w : World) (b n : Nat) (l : List ByteArray) : Prop := ∃ D : DataW Unit, w.ownsMap Try.prog 9 thR b n D ∧ IsMap D ∧ ∀ s : ByteArray, has D (.string s.data.toList) = l.any fun q => decide (q = s)
theorem ThV.made (w : World) : ThV (w.alloc (.map #[] 0)) w.heap.size 0 [] := ⟨_, World.ownsMap_made w _ _ _, ⟨_, rfl⟩, fun s => rfl⟩
theorem ThV.lt {w : World} {b n : Nat} {l : List ByteArray} (h : ThV w b n l) : b < w.heap.size := by
  obtain ⟨D, h1, _⟩ := h
  exact h1.lt
theorem ThV.kept {w w' : World} {row : Option Nat} {b n : Nat} {l : List ByteArray} (h : ThV w b n l) (hg : w.grownBy w' row) (hne : some b ≠ row) : ThV w' b n l := by
  obtain ⟨D, h1, h2⟩ := h
  exact ⟨D, h1.kept hg hne, h2⟩
theorem ThV.alloc {w : World} {b n : Nat} {l : List ByteArray} (h : ThV w b n l) (o : Obj) : ThV (w.alloc o) b n l := h.kept (World.grownBy_alloc w o none) (by simp)
theorem ThV.chg {w w' : World} {b n : Nat} {l : List ByteArray} (h : ThV w b n l) {S : Nat → Prop} (hc : Chg S w w') (hS : ¬ S b) : ThV w' b n l := by
  obtain ⟨D, ⟨es, clock, hb, h2⟩, h3⟩ := h
  exact ⟨D, ⟨es, clock, (hc.block b (Array.getElem?_eq_some_iff.1 hb).1 hS).trans hb, h2⟩, h3⟩
theorem zeroTh (w : World) : (zeroValue 98).run Try.prog w = .ok (.agg #[.int .i64 0, .int .u8 0, .int .i64 0]) w := by
  kernel_rfl
theorem ThV.look {w : World} {b n : Nat} {l : List ByteArray} (h : ThV w b n l) {s : ByteArray} (hs : s.size ≤ maxLen) :
    ∃ x y z : Int, (Instr.lookup 94 (.map (some b)) (.string s) true).run Try.prog w = .ok (.tuple #[.agg #[.int .i64 x, .int .u8 y, .int .i64 z], .bool (l.any fun q => decide (q = s))]) w := by
  obtain ⟨D, h1, _, h3⟩ := h
  obtain ⟨v, ps, hrun, hv⟩ := h1.look_ok strKeyed Try.underlying94 (zeroTh w) (thR_mk 0 0 0) (strKey hs)
  obtain ⟨x, y, z, rfl⟩ := thR_inv hv
  exact ⟨x, y, z, by rw [hrun, h3 s]⟩
theorem ThV.put {w : World} {b n : Nat} {l : List ByteArray} (h : ThV w b n l) {s : ByteArray} (hs : s.size ≤ maxLen) (hn : n < maxLen) (x y z : Int) :
    ∃ w', (Instr.mapUpdate 94 (.map (some b)) (.string s) (.agg #[.int .i64 x, .int .u8 y, .int .i64 z])).run Try.prog w = .ok () w' ∧ ThV w' b (n + 1) (l ++ [s]) ∧ w.grownBy w' (some b) := by
  obtain ⟨D, h1, h2, h3⟩ := h
  obtain ⟨w', hrun, ho, hg⟩ := h1.update strKeyed Try.underlying94 hn (strKey hs) (thR_mk x y z)
  refine ⟨w', hrun, ⟨_, ho, ?_, fun s' => ?_⟩, hg⟩
  · obtain ⟨es, rfl⟩ := h2
    exact ⟨_, rfl⟩
  · by_cases e : s' = s
    · subst e
      rw [has_put_same h2 (strKeyed.key (strKey hs))]
      simp
    · have hne : Lit.string s'.data.toList ≠ Lit.string s.data.toList := fun he => e (strLit_inj he)
      rw [has_put_other hne, h3 s', List.any_append]
      simp [Ne.symm e]
/-- Block b is a set of just these strings. -/
def OutV (w : World) (b n : Nat) (l : List ByteArray) : Prop := ∃ D : DataW Unit, w.ownsMap Try.prog 9 (plainElem Try.prog 4) b n D ∧ IsMap D ∧ ∀ s : ByteArray, D.atKey (.string s.data.toList) (.lit (.bool false)) = .lit (.bool (l.any fun q => decide (q = s)))
theorem OutV.made (w : World) : OutV (w.alloc (.map #[] 0)) w.heap.size 0 [] := ⟨_, World.ownsMap_made w _ _ _, ⟨_, rfl⟩, fun s => rfl⟩
theorem OutV.lt {w : World} {b n : Nat} {l : List ByteArray} (h : OutV w b n l) : b < w.heap.size := by
  obtain ⟨D, h1, _⟩ := h
  exact h1.lt
theorem OutV.chg {w w' : World} {b n : Nat} {l : List ByteArray} (h : OutV w b n l) {S : Nat → Prop} (hc : Chg S w w') (hS : ¬ S b) : OutV w' b n l := by
  obtain ⟨D, ⟨es, clock, hb, h2⟩, h3⟩ := h
  exact ⟨D, ⟨es, clock, (hc.block b (Array.getElem?_eq_some_iff.1 hb).1 hS).trans hb, h2⟩, h3⟩
theorem OutV.look {w : World} {b n : Nat} {l : List ByteArray} (h : OutV w b n l) {s : ByteArray} (hs : s.size ≤ maxLen) : (Instr.lookup 102 (.map (some b)) (.string s) false).run Try.prog w = .ok (.bool (l.any fun q => decide (q = s))) w := by
  obtain ⟨D, h1, _, h3⟩ := h
  obtain ⟨v, ps, hrun, hv⟩ := h1.lookup strKeyed Try.underlying102 (zeroB w) (plainB Try.underlying4 false) (strKey hs)
  obtain ⟨c, rfl, hz⟩ := plainB_inv Try.underlying4 hv
  rw [h3 s] at hz
  simp only [Prod.mk.injEq, DataW.lit.injEq, Lit.bool.injEq] at hz
  rw [hrun, hz.1]
theorem OutV.put {w : World} {b n : Nat} {l : List ByteArray} (h : OutV w b n l) {s : ByteArray} (hs : s.size ≤ maxLen) (hn : n < maxLen) : ∃ w', (Instr.mapUpdate 102 (.map (some b)) (.string s) (.bool true)).run Try.prog w = .ok () w' ∧ OutV w' b (n + 1) (l ++ [s]) ∧ Chg (fun q => q = b) w w' := by
  obtain ⟨D, h1, h2, h3⟩ := h
  obtain ⟨w', hrun, ho, hg⟩ := h1.update strKeyed Try.underlying102 hn (strKey hs) (plainB Try.underlying4 true)
  refine ⟨w', hrun, ⟨_, ho, ?_, fun s' => ?_⟩, ⟨hg.os, hg.tape, hg.output, hg.size, fun k hk hn => hg.block k hk (fun e => hn (by simpa using e))⟩⟩
  · obtain ⟨es, rfl⟩ := h2
    exact ⟨_, rfl⟩
  · by_cases e : s' = s
    · subst e
      rw [atKey_put_same h2 (strKeyed.key (strKey hs))]
      simp
    · have hne : Lit.string s'.data.toList ≠ Lit.string s.data.toList := fun he => e (strLit_inj he)
      rw [atKey_put_other hne, h3 s', List.any_append]
      simp [Ne.symm e]
end Go.Proofs.Ytjdficgejjkaoaa
