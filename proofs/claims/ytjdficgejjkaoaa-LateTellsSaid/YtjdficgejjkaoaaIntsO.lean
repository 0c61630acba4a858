/- How a row opens a list of numbers. -/
import Derived.Test.YtjdficgejjkaoaaOpenP
import Derived.Test.YtjdficgejjkaoaaInts
namespace Go.Proofs.Ytjdficgejjkaoaa
open Go.RowKit Go.ChangeShapes Go.WideShapes Go.Deep
set_option linter.unusedVariables false
section
variable {H : Type} {enc : TypeId × Value → H} {w : World}
theorem ints_open {fuel : Nat} {cs : List Value} {x : DataW H × List MemPlace} (h : TR enc w fuel 27 cs x) (hl : Lite Try.prog 27 x.1) : ∃ v, cs = [v] ∧ ∃ l : List Int, RdIntV w 0 false l v := by
  obtain ⟨a, len, cap, rfl, hw, hlen, hcap, n, _, hi⟩ := slice_open Try.underlying27 (by decide +kernel) h hl
  rw [show Try.prog.bytesOf 3 = 8 from by kernel_rfl] at hw
  rw [show Try.prog.cellsOf 3 = 1 from by kernel_rfl] at hi
  simp only [reachBytes] at hw
  have key : ∀ i, i < len → ∃ s : Int, isI64 s ∧ ∃ b o, a = some ⟨b, o, none⟩ ∧ b < w.heap.size ∧ w.cell? ⟨b, o + i, none⟩ = some (.int .i64 s) := by
    intro i hil
    obtain ⟨b, o, cs', y, ha, hb, hcl, hc, ht, _⟩ := hi i hil
    obtain ⟨s, rfl, _, hs⟩ := DataW.trod_int Try.underlying3 ht
    exact ⟨s, wf_i64 hs, b, o, ha, hb, by simpa using hc 0 (by omega)⟩
  obtain ⟨S, hS⟩ := choose_lt (α := Int) key
  refine ⟨_, rfl, (List.range len).map S, a, cap, by simp, by simp [fitsR]; omega, by simpa using hlen, hcap, fun i x hx => ?_, fun ht => by simp at ht⟩
  have hil : i < len := by have := (List.getElem?_eq_some_iff.1 hx).1; simpa using this
  obtain rfl : S i = x := by simpa [hil] using hx
  obtain ⟨hs, b, o, ha, hb, hc⟩ := hS i hil
  exact ⟨hs, b, o, ha, Nat.zero_le _, hb, hc⟩
end
end Go.Proofs.Ytjdficgejjkaoaa
