/- MembersSame: its arguments opened. -/
import Derived.Test.YtpkeclkfgfkddaaSameW
import Derived.Test.YtpkeclkfgfkddaaOpen
import Derived.ChangeSlices
namespace Go.Proofs.Ytpkeclkfgfkddaa
open Go.RowKit Go.ChangeShapes Go.WideShapes
set_option linter.unusedVariables false
def BytesAt (w : World) (a : Option Addr) (len : Nat) (xs : Nat → Int) : Prop :=
  ∀ i, i < len → ∃ ad : Addr, a = some ad ∧ ad.spot = none ∧ ad.block < w.heap.size ∧ w.cell? ⟨ad.block, ad.off + i, none⟩ = some (.int .u8 (xs i)) ∧ 0 ≤ xs i ∧ xs i ≤ 255
theorem bytes_open {H : Type} {enc : TypeId × Value → H} {w : World} {a : Option Addr} {len cap : Nat} {d : DataW H} {p : List MemPlace}
    (h : DataW.Trod enc Try.prog w 0 (fun _ => true) true 39 (.slice a len cap) d p) : ∃ xs, BytesAt w a len xs := by
  obtain ⟨fuel, hf⟩ := h
  rcases open_ints Try.underlying39 Try.underlying5 (by kernel_rfl) hf with ⟨hcs, _⟩ | ⟨x, l, c, zs, hcs, _, hl, hm, hz, _, hcell, hwz⟩
  · simp [Value.cells] at hcs
    obtain ⟨rfl, rfl, rfl⟩ := hcs
    exact ⟨fun _ => 0, fun i hi => by omega⟩
  · simp [Value.cells] at hcs
    obtain ⟨rfl, rfl, rfl⟩ := hcs
    have hz' : zs.length = cap := by simpa using hz
    refine ⟨fun i => zs.getD i 0, fun i hi => ⟨x, rfl, ?_, ?_, ?_, ?_⟩⟩
    · have := hcell 0 (by omega)
      exact spot_of_add (by simpa using this)
    · exact World.block_lt_of_cell? w ⟨x.block, x.off + i, none⟩ (cell_spelt (hcell i (by omega)))
    · exact cell_spelt (hcell i (by omega))
    · have h1 : i < zs.length := by omega
      have e : zs.getD i 0 = zs[i] := by simp [h1]
      have := hwz (zs[i]) (List.getElem_mem _)
      show 0 ≤ zs.getD i 0 ∧ zs.getD i 0 ≤ 255
      rw [e]; exact wf_u8 this
theorem same_walk (st : Int) (a : Option Addr) (len cap : Nat) (xs : Nat → Int) (w : World) (h0 : (Lit.int .u8 st).wf = true) (hx : BytesAt w a len xs) :
    Calls Try.prog 5 #[.int .u8 st, .slice a len cap] w fun e w' => e = .returned (.bool true) ∧ Below w.heap.size w w' :=
  (same_any st a len cap xs w (wf_u8 h0) hx).mono fun e w' ⟨h1, h2⟩ => ⟨h1, h2.below (Nat.le_refl _) (fun _ h => h.elim)⟩
end Go.Proofs.Ytpkeclkfgfkddaa
