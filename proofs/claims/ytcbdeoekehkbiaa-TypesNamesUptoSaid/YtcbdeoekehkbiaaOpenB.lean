/- What is worked out, as an argument of a bulk: what is counted of it is no more. -/
import Derived.Test.YtcbdeoekehkbiaaOpenP
import Derived.Test.YtcbdeoekehkbiaaSizeB
namespace Go.Proofs.Ytcbdeoekehkbiaa
open Go.RowKit Go.ChangeShapes Go.WideShapes Go.Deep
set_option linter.unusedVariables false
set_option maxRecDepth 100000
section
variable {H : Type} {enc : TypeId × Value → H} {w : World}
theorem bulk_mem {l : List (DataW H)} {d : DataW H} (h : d ∈ l) : Rows.uptoBulk d ≤ Rows.uptoBulkAll l := by
  induction l with
  | nil => simp at h
  | cons y r ih =>
    simp only [Rows.uptoBulkAll]
    rcases List.mem_cons.1 h with rfl | h
    · omega
    · have := ih h; omega
theorem slice_openB {t e : TypeId} {fuel : Nat} {cs : List Value} {x : DataW H × List MemPlace} (ht : Try.prog.underlying t = some (.slice e)) (hC : 0 < Try.prog.cellsOf e) (h : TR enc w fuel t cs x) (hl : Lite Try.prog t x.1) :
    ∃ (a : Option Addr) (len cap : Nat) (ys : List (DataW H × List MemPlace)), cs = [.slice a len cap] ∧ ys.length = len ∧ Rows.uptoBulkAll (ys.map (·.1)) + 1 ≤ Rows.uptoBulk x.1 ∧ len * Try.prog.bytesOf e ≤ reachBytes ∧ len ≤ cap ∧ cap ≤ maxLen ∧ ∃ n, n < fuel ∧ ∀ i y, ys[i]? = some y → ∃ b o cs', a = some ⟨b, o, none⟩ ∧ b < w.heap.size ∧ cs'.length = Try.prog.cellsOf e ∧
      (∀ j, j < Try.prog.cellsOf e → w.cell? ⟨b, o + i * Try.prog.cellsOf e + j, none⟩ = cs'[j]?) ∧ TR enc w n e cs' y ∧ Lite Try.prog e y.1 := by
  rcases DataW.trod_slice ht h with ⟨rfl, hx⟩ | ⟨a, len, cap, elems, rest, n, rfl, rfl, hx, _, hlen, hcap, hel, hi, _⟩
  · have hf : 0 < fuel := by
      cases fuel with
      | zero => simp [TR, DataW.trod] at h
      | succ n => omega
    refine ⟨none, 0, 0, [], rfl, rfl, ?_, by simp, by simp, by simp, 0, hf, fun i y hy => by simp at hy⟩
    subst hx
    simp [Rows.uptoBulkAll, Rows.uptoBulk]
  · subst hx
    obtain ⟨hw, hle⟩ := hl.elems ht
    refine ⟨some a, len, cap, elems, rfl, hel, ?_, Nat.le_trans (Nat.mul_le_mul_right _ (by simp; omega)) hw, hlen, hcap, n, by omega, fun i y hy => ?_⟩
    · simp only [Rows.uptoBulk]; omega
    have hil : i < elems.length := (List.getElem?_eq_some_iff.1 hy).1
    have hi' := hi i (by omega)
    rw [hy] at hi'
    obtain ⟨cs', hc, ht'⟩ := Option.bind_eq_some_iff.1 hi'
    obtain ⟨_, hcl, hat⟩ := World.cells?_some hc
    have h0 := hat 0 hC
    rw [List.getElem?_eq_getElem (by omega), Go.Deep.add_add] at h0
    have hb := World.block_lt_of_cell? w _ (cell_spelt h0)
    have hsp : a.spot = none := by
      have hi0 := hi 0 (by omega)
      rw [List.getElem?_eq_getElem (by omega)] at hi0
      obtain ⟨cs0, hc0, _⟩ := Option.bind_eq_some_iff.1 hi0
      obtain ⟨_, hcl0, hat0⟩ := World.cells?_some hc0
      have h00 := hat0 0 hC
      rw [List.getElem?_eq_getElem (by omega), Go.Deep.add_add, Nat.zero_mul] at h00
      exact spot_of_add h00
    obtain ⟨b, o, sp⟩ := a
    simp only at hsp
    subst hsp
    refine ⟨b, o, cs', rfl, hb, hcl, fun j hj => ?_, ht', hle _ (by simp only [List.mem_map]; exact ⟨_, List.mem_of_getElem? hy, rfl⟩)⟩
    have hj' := hat j hj
    rw [List.getElem?_eq_getElem (by omega), Go.Deep.add_add] at hj'
    have := cell_spelt hj'
    simp only [← Nat.add_assoc] at this
    rw [this, List.getElem?_eq_getElem (by omega)]
/-- A struct's reading, its fields' bulks told. -/
theorem struct_openB {t : TypeId} {fs : Array Field} {fuel : Nat} {cs : List Value} {x : DataW H × List MemPlace} (ht : Try.prog.underlying t = some (.struct fs)) (h : TR enc w fuel t cs x) (hl : Lite Try.prog t x.1) :
    ∃ (n : Nat) (xs : List (DataW H × List MemPlace)), n < fuel ∧ cs.length = Try.prog.cellsOf t ∧ Rows.uptoBulk x.1 = Rows.uptoBulkAll (xs.map (·.1)) + 1 ∧ xs.length = fs.size ∧ ∀ (j : Nat) (f : Field) (k : Nat), fs[j]? = some f → Try.prog.cellsOf f.type = k → ∃ y, xs[j]? = some y ∧ TR enc w n f.type ((cs.drop f.offset).take k) y ∧ Lite Try.prog f.type y.1 := by
  obtain ⟨xs, n, rfl, rfl, hc, hxs, hf⟩ := DataW.trod_struct ht h
  refine ⟨n, xs, by omega, hc, by simp [Rows.uptoBulk], hxs, fun j f k hj hk => ?_⟩
  subst hk
  have hjl : j < fs.size := (Array.getElem?_eq_some_iff.1 hj).1
  have h1 := hf j f hj
  have hy : xs[j]? = some (xs[j]'(by omega)) := List.getElem?_eq_getElem (by omega)
  rw [hy] at h1
  exact ⟨_, hy, h1, hl.field ht hj (agg_get hy)⟩
theorem sL_bulk : ∀ (l : List Ex) (ys : List (DataW H × List MemPlace)), l.length = ys.length → (∀ (i : Nat) (x : Ex) (y : DataW H × List MemPlace), l[i]? = some x → ys[i]? = some y → sE x + 1 ≤ Rows.uptoBulk y.1) → sL l ≤ Rows.uptoBulkAll (ys.map (·.1))
  | [], [], _, _ => by simp [sL]
  | x :: r, y :: q, h, hh => by
    have h0 := hh 0 x y rfl rfl
    have ih := sL_bulk r q (by simpa using h) (fun i a b ha hb => hh (i + 1) a b (by simpa using ha) (by simpa using hb))
    simp only [sL, List.map_cons, Rows.uptoBulkAll]
    omega
  | [], y :: q, h, _ => by simp at h
  | x :: r, [], h, _ => by simp at h
theorem ex_openB : ∀ (fuel : Nat) {cs : List Value} {x : DataW H × List MemPlace}, TR enc w fuel 25 cs x → Lite Try.prog 25 x.1 → ∃ e : Ex, RdEx w 0 false e cs ∧ sE e + 1 ≤ Rows.uptoBulk x.1 := by
  intro fuel
  induction fuel using Nat.strongRecOn with
  | ind fuel ih =>
    intro cs x h hl
    obtain ⟨n', xs, hn', hcl, hbk, hxl, hf⟩ := struct_openB Try.underlying25 h hl
    rw [show Try.prog.cellsOf 25 = 4 from by kernel_rfl] at hcl
    obtain ⟨c0, c1, c2, c3, rfl⟩ := len4 hcl
    obtain ⟨y0, s0, t0, _⟩ := hf 0 _ 1 rfl (by kernel_rfl)
    obtain ⟨y1, s1, t1, _⟩ := hf 1 _ 1 rfl (by kernel_rfl)
    obtain ⟨y2, s2, t2, _⟩ := hf 2 _ 1 rfl (by kernel_rfl)
    obtain ⟨y3, s3, t3, l3⟩ := hf 3 _ 1 rfl (by kernel_rfl)
    obtain rfl : xs = [y0, y1, y2, y3] := by
      have hx4 : xs.length = 4 := hxl
      obtain ⟨a, b, c, d, rfl⟩ := len4 hx4
      simp only [List.getElem?_cons_zero, List.getElem?_cons_succ, Option.some.injEq] at s0 s1 s2 s3
      rw [s0, s1, s2, s3]
    obtain ⟨n0, e0, g0, f0⟩ := DataW.trod_int Try.underlying22 t0
    obtain ⟨n1, e1, g1, f1⟩ := DataW.trod_int Try.underlying2 t1
    obtain ⟨n2, e2, g2, f2⟩ := DataW.trod_string Try.underlying9 t2
    obtain rfl := one_of e0
    obtain rfl := one_of e1
    obtain rfl := one_of e2
    obtain ⟨a, len, cap, ys, e3, hys, hyb, hw, hlen, hcap, n, hn, hi⟩ := slice_openB Try.underlying23 (by decide +kernel) t3 l3
    obtain rfl := one_of e3
    rw [show Try.prog.bytesOf 25 = 56 from by kernel_rfl] at hw
    rw [show Try.prog.cellsOf 25 = 4 from by kernel_rfl] at hi
    simp only [reachBytes] at hw
    have key : ∀ i, i < len → ∃ x : Ex, (∀ y, ys[i]? = some y → sE x + 1 ≤ Rows.uptoBulk y.1) ∧ ∃ b o c0 c1 c2 c3, a = some ⟨b, o, none⟩ ∧ 0 ≤ b ∧ b < w.heap.size ∧ w.cell? ⟨b, o + (0 + i) * 4, none⟩ = some c0 ∧ w.cell? ⟨b, o + (0 + i) * 4 + 1, none⟩ = some c1 ∧
        w.cell? ⟨b, o + (0 + i) * 4 + 2, none⟩ = some c2 ∧ w.cell? ⟨b, o + (0 + i) * 4 + 3, none⟩ = some c3 ∧ RdEx w 0 false x [c0, c1, c2, c3] := by
      intro i hil
      have hy : ys[i]? = some (ys[i]'(by omega)) := List.getElem?_eq_getElem (by omega)
      obtain ⟨b, o, cs', ha, hb, hcl, hc, ht, hyl⟩ := hi i _ hy
      obtain ⟨e, he, hse⟩ := ih n (by omega) ht hyl
      obtain ⟨c0, c1, c2, c3, rfl⟩ := len4 hcl
      simp only [Nat.zero_add]
      exact ⟨e, fun y h => by rw [hy] at h; simp only [Option.some.injEq] at h; rw [← h]; exact hse, b, o, c0, c1, c2, c3, ha, Nat.zero_le _, hb, by simpa using hc 0 (by omega), by simpa using hc 1 (by omega), by simpa using hc 2 (by omega), by simpa using hc 3 (by omega), he⟩
    haveI : Inhabited Ex := ⟨.mk 0 0 ⟨#[]⟩ []⟩
    obtain ⟨S, hS⟩ := choose_lt (α := Ex) key
    refine ⟨.mk n0 n1 n2 ((List.range len).map S), RdEx.shut (wf_u8 f0) (wf_i64 f1) f2 ⟨a, cap, by simp, by simp [fitsR]; omega, by simpa using hlen, hcap, RdExs.mk fun {i x} hx => ?_, fun ht => by simp at ht⟩, ?_⟩
    · have hil : i < len := by have := (List.getElem?_eq_some_iff.1 hx).1; simpa using this
      obtain rfl : S i = x := by simpa [hil] using hx
      exact (hS i hil).2
    · have hsl := sL_bulk ((List.range len).map S) ys (by simp [hys]) (fun i x y hx hy => by
        have hil : i < len := by have := (List.getElem?_eq_some_iff.1 hx).1; simpa using this
        obtain rfl : S i = x := by simpa [hil] using hx
        exact (hS i hil).1 y hy)
      rw [hbk]
      simp only [sE, List.map_cons, List.map_nil, Rows.uptoBulkAll]
      have h2 : n2.size ≤ Rows.uptoBulk y2.1 := by
        rw [g2]
        simp only [Rows.uptoBulk]
        have : n2.data.toList.length = n2.size := rfl
        omega
      have h0 : 1 ≤ Rows.uptoBulk y0.1 := by rw [g0]; exact Nat.le_refl _
      have h1 : 1 ≤ Rows.uptoBulk y1.1 := by rw [g1]; exact Nat.le_refl _
      omega
theorem exv_openB {v : Value} {d : DataW H} {ps : List MemPlace} (hv : ∃ cs, v = .agg cs ∧ v.cells = cs) (h : DataW.Trod enc Try.prog w 0 (fun _ => true) true 25 v d ps) (hl : Lite Try.prog 25 d) : ∃ (x : Ex) (cs : Array Value), v = .agg cs ∧ RdEx w 0 false x cs.toList ∧ sE x + 1 ≤ Rows.uptoBulk d := by
  obtain ⟨fuel, h⟩ := h
  obtain ⟨cs, rfl, hcs⟩ := hv
  rw [hcs] at h
  obtain ⟨e, he, hs⟩ := ex_openB fuel h hl
  exact ⟨e, cs, rfl, he, hs⟩
end
end Go.Proofs.Ytcbdeoekehkbiaa
