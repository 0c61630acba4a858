/- How a row opens what a law of lateness is handed. -/
import Derived.Test.YtjdficgejjkaoaaIntsO
namespace Go.Proofs.Ytjdficgejjkaoaa
open Go.RowKit Go.ChangeShapes Go.WideShapes Go.Deep
set_option linter.unusedVariables false
section
variable {H : Type} {enc : TypeId × Value → H} {w : World}
theorem pr_tr {fuel : Nat} {cs : List Value} {x : DataW H × List MemPlace} (h : TR enc w fuel 26 cs x) (hl : Lite Try.prog 26 x.1) : ∃ p : PrD, RdPr w 0 false p cs.toArray := by
  obtain ⟨n', _, hcl, hf⟩ := struct_open Try.underlying26 h hl
  rw [show Try.prog.cellsOf 26 = 4 from by kernel_rfl] at hcl
  obtain ⟨c0, c1, c2, c3, rfl⟩ := len4 hcl
  obtain ⟨y0, t0, _⟩ := hf 0 _ 1 rfl (by kernel_rfl)
  obtain ⟨y1, t1, l1⟩ := hf 1 _ 1 rfl (by kernel_rfl)
  obtain ⟨y2, t2, l2⟩ := hf 2 _ 1 rfl (by kernel_rfl)
  obtain ⟨y3, t3, l3⟩ := hf 3 _ 1 rfl (by kernel_rfl)
  obtain ⟨n0, e0, _, f0⟩ := DataW.trod_int Try.underlying3 t0
  obtain rfl := one_of e0
  obtain ⟨v1, e1, k1, r1⟩ := ins_open t1 l1
  obtain ⟨v2, e2, k2, r2⟩ := fls_open t2 l2
  obtain ⟨v3, e3, k3, r3⟩ := strs_open t3 l3
  obtain rfl := one_of e1
  obtain rfl := one_of e2
  obtain rfl := one_of e3
  exact ⟨⟨n0, k1, k2, k3⟩, _, _, _, rfl, wf_i64 f0, r1, r2, r3⟩
theorem asking_open {v : Value} {d : DataW H} {ps : List MemPlace} (hv : ∃ cs, v = .agg cs ∧ v.cells = cs) (h : DataW.Trod enc Try.prog w 0 (fun _ => true) true 31 v d ps) (hl : Lite Try.prog 31 d) :
    ∃ (p : PrD) (a b c e : Value) (l : List Int) (vl : Value) (fi : Int) (r1 : ByteArray) (r2 : Int), v = .agg #[a, b, c, e, vl, .int .i64 fi, .string r1, .int .i64 r2] ∧ RdPr w 0 false p #[a, b, c, e] ∧ RdIntV w 0 false l vl := by
  obtain ⟨fuel, h⟩ := h
  obtain ⟨cs, rfl, hcs⟩ := hv
  rw [hcs] at h
  obtain ⟨n', _, hcl, hf⟩ := struct_open Try.underlying31 h hl
  rw [show Try.prog.cellsOf 31 = 8 from by kernel_rfl] at hcl
  obtain ⟨c0, c1, c2, c3, c4, c5, c6, c7, e⟩ := len8 hcl
  rw [e] at hf
  obtain rfl : cs = #[c0, c1, c2, c3, c4, c5, c6, c7] := by cases cs; simpa using e
  obtain ⟨y0, t0, l0⟩ := hf 0 _ 4 rfl (by kernel_rfl)
  obtain ⟨y1, t1, l1⟩ := hf 1 _ 1 rfl (by kernel_rfl)
  obtain ⟨y2, t2, l2⟩ := hf 2 _ 1 rfl (by kernel_rfl)
  obtain ⟨y3, t3, l3⟩ := hf 3 _ 2 rfl (by kernel_rfl)
  obtain ⟨p, hp⟩ := pr_tr t0 l0
  obtain ⟨v1, e1, k1, r1⟩ := ints_open t1 l1
  obtain rfl := one_of e1
  obtain ⟨n2, e2, _, f2⟩ := DataW.trod_int Try.underlying3 t2
  obtain rfl := one_of e2
  obtain ⟨n'', _, _, hg⟩ := struct_open Try.underlying29 t3 l3
  obtain ⟨z0, s0, _⟩ := hg 0 _ 1 rfl (by kernel_rfl)
  obtain ⟨z1, s1, _⟩ := hg 1 _ 1 rfl (by kernel_rfl)
  obtain ⟨n3, e3, _, f3⟩ := DataW.trod_string Try.underlying9 s0
  obtain ⟨n4, e4, _, f4⟩ := DataW.trod_int Try.underlying3 s1
  obtain rfl := one_of e3
  obtain rfl := one_of e4
  exact ⟨p, _, _, _, _, k1, _, n2, n3, n4, rfl, hp, r1⟩
end
end Go.Proofs.Ytjdficgejjkaoaa
