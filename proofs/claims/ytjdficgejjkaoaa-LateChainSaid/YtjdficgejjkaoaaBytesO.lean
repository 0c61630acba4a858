/- How a row opens lists of bytes, and of yes and no. -/
import Derived.Test.YtjdficgejjkaoaaOpenP
import Derived.Test.YtjdficgejjkaoaaBytes
namespace Go.Proofs.Ytjdficgejjkaoaa
open Go.RowKit Go.ChangeShapes Go.WideShapes Go.Deep
set_option linter.unusedVariables false
section
variable {H : Type} {enc : TypeId × Value → H} {w : World}
theorem u8s_open {fuel : Nat} {cs : List Value} {x : DataW H × List MemPlace} (h : TR enc w fuel 43 cs x) (hl : Lite Try.prog 43 x.1) : ∃ v, cs = [v] ∧ ∃ l : List Int, RdU8V w l v := by
  obtain ⟨a, len, cap, rfl, hw, hlen, hcap, n, _, hi⟩ := slice_open Try.underlying43 (by decide +kernel) h hl
  rw [show Try.prog.bytesOf 5 = 1 from by kernel_rfl] at hw
  rw [show Try.prog.cellsOf 5 = 1 from by kernel_rfl] at hi
  simp only [reachBytes] at hw
  have key : ∀ i, i < len → ∃ s : Int, isU8 s ∧ ∃ b o, a = some ⟨b, o, none⟩ ∧ b < w.heap.size ∧ w.cell? ⟨b, o + i, none⟩ = some (.int .u8 s) := by
    intro i hil
    obtain ⟨b, o, cs', y, ha, hb, hcl, hc, ht, _⟩ := hi i hil
    obtain ⟨s, rfl, _, hs⟩ := DataW.trod_int Try.underlying5 ht
    exact ⟨s, wf_u8 hs, b, o, ha, hb, by simpa using hc 0 (by omega)⟩
  obtain ⟨S, hS⟩ := choose_lt (α := Int) key
  refine ⟨_, rfl, (List.range len).map S, a, cap, by simp, by simp [fitsR]; omega, by simpa using hlen, hcap, fun i x hx => ?_⟩
  have hil : i < len := by have := (List.getElem?_eq_some_iff.1 hx).1; simpa using this
  obtain rfl : S i = x := by simpa [hil] using hx
  obtain ⟨hs, b, o, ha, hb, hc⟩ := hS i hil
  exact ⟨hs, b, o, ha, hb, hc⟩
theorem bools_open {fuel : Nat} {cs : List Value} {x : DataW H × List MemPlace} (h : TR enc w fuel 57 cs x) (hl : Lite Try.prog 57 x.1) : ∃ v, cs = [v] ∧ ∃ l : List Bool, RdBoV w l v := by
  obtain ⟨a, len, cap, rfl, hw, hlen, hcap, n, _, hi⟩ := slice_open Try.underlying57 (by decide +kernel) h hl
  rw [show Try.prog.bytesOf 4 = 1 from by kernel_rfl] at hw
  rw [show Try.prog.cellsOf 4 = 1 from by kernel_rfl] at hi
  simp only [reachBytes] at hw
  have key : ∀ i, i < len → ∃ s : Bool, ∃ b o, a = some ⟨b, o, none⟩ ∧ b < w.heap.size ∧ w.cell? ⟨b, o + i, none⟩ = some (.bool s) := by
    intro i hil
    obtain ⟨b, o, cs', y, ha, hb, hcl, hc, ht, _⟩ := hi i hil
    obtain ⟨s, rfl, _⟩ := DataW.trod_bool Try.underlying4 ht
    exact ⟨s, b, o, ha, hb, by simpa using hc 0 (by omega)⟩
  obtain ⟨S, hS⟩ := choose_lt (α := Bool) key
  refine ⟨_, rfl, (List.range len).map S, a, cap, by simp, by simp [fitsR]; omega, by simpa using hlen, hcap, fun i x hx => ?_⟩
  have hil : i < len := by have := (List.getElem?_eq_some_iff.1 hx).1; simpa using this
  obtain rfl : S i = x := by simpa [hil] using hx
  obtain ⟨b, o, ha, hb, hc⟩ := hS i hil
  exact ⟨b, o, ha, hb, hc⟩
end
end Go.Proofs.Ytjdficgejjkaoaa
