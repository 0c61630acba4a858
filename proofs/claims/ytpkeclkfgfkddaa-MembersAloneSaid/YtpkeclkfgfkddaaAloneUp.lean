/- MembersAlone: its argument opened. -/
import Derived.Test.YtpkeclkfgfkddaaAlone
import Derived.Test.YtpkeclkfgfkddaaOpen
import Derived.Lib.SmallJoins
namespace Go.Proofs.Ytpkeclkfgfkddaa
open Go.RowKit Go.ChangeShapes Go.WideShapes Go.Joins
set_option linter.unusedVariables false
theorem cellsAlone : Try.prog.cellsOf 44 = 4 := by kernel_rfl
structure AloneAt (v : Value) (xs : Int × Int × Int × Int) : Prop where
  v : v = .agg #[.int .u8 xs.1, .int .u8 xs.2.1, .int .u8 xs.2.2.1, .int .u8 xs.2.2.2]
  b0 : 0 ≤ xs.1 ∧ xs.1 ≤ 255
  b1 : 0 ≤ xs.2.1 ∧ xs.2.1 ≤ 255
  b2 : 0 ≤ xs.2.2.1 ∧ xs.2.2.1 ≤ 255
  b3 : 0 ≤ xs.2.2.2 ∧ xs.2.2.2 ≤ 255
theorem alone_open {H : Type} {enc : TypeId × Value → H} {w : World} {r : Reach} {base : Nat} {v : Value} {d : DataW H} {p : List MemPlace}
    (hv : Value.okWide Try.prog w r base 44 v) (h : DataW.Trod enc Try.prog w 0 (fun _ => true) true 44 v d p) : ∃ xs, AloneAt v xs := by
  obtain ⟨c0, c1, c2, c3, y0, y1, y2, y3, m, rfl, rfl, rfl, t0, t1, t2, t3⟩ := open_agg4 Try.underlying44 (by kernel_rfl) cellsAlone hv h
  obtain ⟨n0, e0, _, f0⟩ := DataW.trod_int Try.underlying5 t0
  obtain ⟨n1, e1, _, f1⟩ := DataW.trod_int Try.underlying5 t1
  obtain ⟨n2, e2, _, f2⟩ := DataW.trod_int Try.underlying5 t2
  obtain ⟨n3, e3, _, f3⟩ := DataW.trod_int Try.underlying5 t3
  obtain rfl := one_of e0
  obtain rfl := one_of e1
  obtain rfl := one_of e2
  obtain rfl := one_of e3
  exact ⟨(n0, n1, n2, n3), rfl, wf_u8 f0, wf_u8 f1, wf_u8 f2, wf_u8 f3⟩
theorem alone_walk (v : Value) (xs : Int × Int × Int × Int) (w : World) (hx : AloneAt v xs) :
    Calls Try.prog 6 #[v] w fun e w' => e = .returned (.bool true) ∧ Below w.heap.size w w' := by
  obtain ⟨rfl, b0, b1, b2, b3⟩ := hx
  exact (alone_any _ _ _ _ w b0 b1 b2 b3).mono fun e w' ⟨h1, h2⟩ => ⟨h1, h2.below (Nat.le_refl _) (fun _ h => h.elim)⟩
end Go.Proofs.Ytpkeclkfgfkddaa
