/- A program as an argument: what its reading tells of the memory. -/
import Derived.Deep.Slices
import Derived.Deep.Fields
import Derived.ChangeSame
import Derived.SizedLaws
import Derived.Test.YtjdficgejjkaoaaData
import Derived.Test.YtjdficgejjkaoaaRows
namespace Go.Proofs.Ytjdficgejjkaoaa
open Go.RowKit Go.ChangeShapes Go.WideShapes Go.Deep
set_option linter.unusedVariables false
set_option maxRecDepth 100000
theorem spot_of_cell {w : World} {a : Addr} {v : Value} (h : w.cell? a = some v) : a.spot = none := by
  unfold World.cell? at h
  split at h
  · split at h
    · simp at h
    · rename_i h1; simpa using h1
  · simp at h
/-- A cell behind an address, spelt out. -/
theorem cell_spelt {w : World} {a : Addr} {n : Nat} {v : Value} (h : w.cell? (a.add n) = some v) : w.cell? ⟨a.block, a.off + n, none⟩ = some v := by
  by_cases hn : n = 0
  · subst hn
    have h0 : w.cell? a = some v := by simpa [Addr.add] using h
    have hs := spot_of_cell h0
    obtain ⟨b, o, sp⟩ := a
    simp only at hs
    subst hs
    simpa using h0
  · simpa [Addr.add, hn] using h
theorem spot_of_add {w : World} {a : Addr} {v : Value} (h : w.cell? (a.add 0) = some v) : a.spot = none := by
  have h0 : w.cell? a = some v := by simpa [Addr.add] using h
  exact spot_of_cell h0
theorem wf_u8 {n : Int} (h : (Lit.int .u8 n).wf = true) : isU8 n := by simpa [isU8, Lit.wf, IntKind.min, IntKind.max, IntKind.signed, IntKind.bits] using h
theorem wf_i64 {n : Int} (h : (Lit.int .i64 n).wf = true) : isI64 n := by simpa [isI64, Lit.wf, IntKind.min, IntKind.max, IntKind.signed, IntKind.bits] using h
theorem one_of {v u : Value} (h : [v] = [u]) : v = u := by simpa using h
/-- Nothing that is met weighs more than the reach. -/
def Lite {H : Type} (P : Program) (t : TypeId) (d : DataW H) : Prop := ∀ n ∈ d.weights P t, n ≤ reachBytes
theorem Lite.elems {H : Type} {P : Program} {t e : TypeId} {l sp : List (DataW H)} (h : Lite P t (.slice l sp)) (hu : P.underlying t = some (.slice e)) : (l.length + sp.length) * P.bytesOf e ≤ reachBytes ∧ ∀ d, d ∈ l → Lite P e d := by
  unfold Lite at h
  simp only [DataW.weights, hu] at h
  refine ⟨h _ (by simp), fun d hd n hn => h n ?_⟩
  have key : ∀ l : List (DataW H), d ∈ l → n ∈ DataW.weightsAll P e l := by
    intro l hd
    induction l with
    | nil => simp at hd
    | cons x r ih =>
      simp only [DataW.weightsAll, List.mem_append]
      rcases List.mem_cons.1 hd with rfl | hr
      · exact .inl hn
      · exact .inr (ih hr)
  simp only [List.mem_cons, List.mem_append]
  exact .inr (.inl (key l hd))
theorem Lite.field {H : Type} {P : Program} {t : TypeId} {fs : Array Field} {l : List (DataW H)} (h : Lite P t (.agg l)) (hu : P.underlying t = some (.struct fs)) {j : Nat} {f : Field} {d : DataW H} (hf : fs[j]? = some f) (hd : l[j]? = some d) : Lite P f.type d := by
  unfold Lite at h ⊢
  simp only [DataW.weights, hu] at h
  intro n hn
  exact h n (DataW.weights_mem_each (j := j) (t := f.type) (d := d) (by simp [hf]) hd n hn)
theorem agg_get {H : Type} {xs : List (DataW H × List MemPlace)} {j : Nat} {y : DataW H × List MemPlace} (h : xs[j]? = some y) : (xs.map (·.1))[j]? = some y.1 := by simp [h]
section
variable {H : Type} {enc : TypeId × Value → H} {w : World}
/-- A reading of an argument, spare room and all. -/
abbrev TR {H : Type} (enc : TypeId × Value → H) (w : World) (fuel : Nat) (t : TypeId) (cs : List Value) (x : DataW H × List MemPlace) : Prop := DataW.trod enc Try.prog w 0 (fun _ => true) true fuel t cs = some x
theorem slice_open {t e : TypeId} {fuel : Nat} {cs : List Value} {x : DataW H × List MemPlace} (ht : Try.prog.underlying t = some (.slice e)) (hC : 0 < Try.prog.cellsOf e) (h : TR enc w fuel t cs x) (hl : Lite Try.prog t x.1) :
    ∃ a len cap, cs = [.slice a len cap] ∧ len * Try.prog.bytesOf e ≤ reachBytes ∧ len ≤ cap ∧ cap ≤ maxLen ∧ ∃ n, n < fuel ∧ ∀ i, i < len → ∃ b o cs' y, a = some ⟨b, o, none⟩ ∧ b < w.heap.size ∧ cs'.length = Try.prog.cellsOf e ∧
      (∀ j, j < Try.prog.cellsOf e → w.cell? ⟨b, o + i * Try.prog.cellsOf e + j, none⟩ = cs'[j]?) ∧ TR enc w n e cs' y ∧ Lite Try.prog e y.1 := by
  rcases DataW.trod_slice ht h with ⟨rfl, hx⟩ | ⟨a, len, cap, elems, rest, n, rfl, rfl, hx, _, hlen, hcap, hel, hi, _⟩
  · have hf : 0 < fuel := by
      cases fuel with
      | zero => simp [TR, DataW.trod] at h
      | succ n => omega
    exact ⟨none, 0, 0, rfl, by simp, by simp, by simp, 0, hf, fun i hi => by omega⟩
  · subst hx
    obtain ⟨hw, hle⟩ := hl.elems ht
    refine ⟨some a, len, cap, rfl, Nat.le_trans (Nat.mul_le_mul_right _ (by simp; omega)) hw, hlen, hcap, n, by omega, fun i hil => ?_⟩
    have hi' := hi i hil
    rw [List.getElem?_eq_getElem (by omega)] at hi'
    obtain ⟨cs', hc, ht'⟩ := Option.bind_eq_some_iff.1 hi'
    obtain ⟨_, hcl, hat⟩ := World.cells?_some hc
    have h0 := hat 0 hC
    rw [List.getElem?_eq_getElem (by omega), Go.Deep.add_add] at h0
    have hb := World.block_lt_of_cell? w _ (cell_spelt h0)
    have hsp : a.spot = none := by
      have hi0 := hi 0 (by omega)
      rw [List.getElem?_eq_getElem (by omega)] at hi0
      obtain ⟨cs0, hc0, _⟩ := Option.bind_eq_some_iff.1 hi0
      obtain ⟨_, hcl0, hat0⟩ := World.cells?_some hc0
      have h00 := hat0 0 hC
      rw [List.getElem?_eq_getElem (by omega), Go.Deep.add_add, Nat.zero_mul] at h00
      exact spot_of_add h00
    obtain ⟨b, o, sp⟩ := a
    simp only at hsp
    subst hsp
    refine ⟨b, o, cs', _, rfl, hb, hcl, fun j hj => ?_, ht', hle _ (by simp only [List.mem_map]; exact ⟨_, List.getElem_mem _, rfl⟩)⟩
    have hj' := hat j hj
    rw [List.getElem?_eq_getElem (by omega), Go.Deep.add_add] at hj'
    have := cell_spelt hj'
    simp only [← Nat.add_assoc] at this
    rw [this, List.getElem?_eq_getElem (by omega)]
/-- A struct's value is one of cells. -/
theorem agg_of {W : World} {r : Reach} {base : Nat} {t : TypeId} {v : Value} {fs : Array Field} (ht : Try.prog.underlying t = some (.struct fs)) (h : Value.okWide Try.prog W r base t v) : ∃ cs, v = .agg cs ∧ v.cells = cs := by
  simp only [Value.okWide, ht] at h
  obtain ⟨cs, rfl, _⟩ := h
  exact ⟨cs, rfl, rfl⟩
/-- A list of texts. -/
theorem strs_open {fuel : Nat} {cs : List Value} {x : DataW H × List MemPlace} (h : TR enc w fuel 24 cs x) (hl : Lite Try.prog 24 x.1) : ∃ v, cs = [v] ∧ ∃ l : List ByteArray, RdStrV w 0 false l v := by
  obtain ⟨a, len, cap, rfl, hw, hlen, hcap, n, _, hi⟩ := slice_open Try.underlying24 (by decide +kernel) h hl
  rw [show Try.prog.bytesOf 9 = 16 from by kernel_rfl] at hw
  rw [show Try.prog.cellsOf 9 = 1 from by kernel_rfl] at hi
  simp only [reachBytes] at hw
  have key : ∀ i, i < len → ∃ s : ByteArray, s.size ≤ maxLen ∧ ∃ b o, a = some ⟨b, o, none⟩ ∧ b < w.heap.size ∧ w.cell? ⟨b, o + i, none⟩ = some (.string s) := by
    intro i hil
    obtain ⟨b, o, cs', y, ha, hb, hcl, hc, ht, _⟩ := hi i hil
    obtain ⟨s, rfl, _, hs⟩ := DataW.trod_string Try.underlying9 ht
    exact ⟨s, hs, b, o, ha, hb, by simpa using hc 0 (by omega)⟩
  obtain ⟨S, hS⟩ := choose_lt (α := ByteArray) key
  refine ⟨_, rfl, (List.range len).map S, a, cap, by simp, by simp [fitsR]; omega, by simpa using hlen, hcap, fun i x hx => ?_, fun ht => by simp at ht⟩
  have hil : i < len := by have := (List.getElem?_eq_some_iff.1 hx).1; simpa using this
  obtain rfl : S i = x := by simpa [hil] using hx
  obtain ⟨hs, b, o, ha, hb, hc⟩ := hS i hil
  exact ⟨hs, b, o, ha, Nat.zero_le _, hb, hc⟩
theorem len3 {α : Type} {l : List α} (h : l.length = 3) : ∃ a b c, l = [a, b, c] := by
  match l, h with
  | [a, b, c], _ => exact ⟨a, b, c, rfl⟩
theorem len4 {α : Type} {l : List α} (h : l.length = 4) : ∃ a b c d, l = [a, b, c, d] := by
  match l, h with
  | [a, b, c, d], _ => exact ⟨a, b, c, d, rfl⟩
theorem len8 {α : Type} {l : List α} (h : l.length = 8) : ∃ a b c d e f g i, l = [a, b, c, d, e, f, g, i] := by
  match l, h with
  | [a, b, c, d, e, f, g, i], _ => exact ⟨a, b, c, d, e, f, g, i, rfl⟩
/-- A struct's reading: field by field, each no weightier than the reach. -/
theorem struct_open {t : TypeId} {fs : Array Field} {fuel : Nat} {cs : List Value} {x : DataW H × List MemPlace} (ht : Try.prog.underlying t = some (.struct fs)) (h : TR enc w fuel t cs x) (hl : Lite Try.prog t x.1) :
    ∃ n, n < fuel ∧ cs.length = Try.prog.cellsOf t ∧ ∀ (j : Nat) (f : Field) (k : Nat), fs[j]? = some f → Try.prog.cellsOf f.type = k → ∃ y, TR enc w n f.type ((cs.drop f.offset).take k) y ∧ Lite Try.prog f.type y.1 := by
  obtain ⟨xs, n, rfl, rfl, hc, hxs, hf⟩ := DataW.trod_struct ht h
  refine ⟨n, by omega, hc, fun j f k hj hk => ?_⟩
  subst hk
  have hjl : j < fs.size := (Array.getElem?_eq_some_iff.1 hj).1
  have h1 := hf j f hj
  have hy : xs[j]? = some (xs[j]'(by omega)) := List.getElem?_eq_getElem (by omega)
  rw [hy] at h1
  exact ⟨_, h1, hl.field ht hj (agg_get hy)⟩
/-- A list of what comes from without. -/
theorem ins_open {fuel : Nat} {cs : List Value} {x : DataW H × List MemPlace} (h : TR enc w fuel 22 cs x) (hl : Lite Try.prog 22 x.1) : ∃ v, cs = [v] ∧ ∃ l : List InD, RdInV w 0 false l v := by
  obtain ⟨a, len, cap, rfl, hw, hlen, hcap, n, _, hi⟩ := slice_open Try.underlying22 (by decide +kernel) h hl
  rw [show Try.prog.bytesOf 59 = 32 from by kernel_rfl] at hw
  rw [show Try.prog.cellsOf 59 = 3 from by kernel_rfl] at hi
  simp only [reachBytes] at hw
  have key : ∀ i, i < len → ∃ x : InD, x.name.size ≤ maxLen ∧ isU8 x.ty ∧ isI64 x.st ∧ ∃ b o, a = some ⟨b, o, none⟩ ∧ 0 ≤ b ∧ b < w.heap.size ∧ w.cell? ⟨b, o + i * 3, none⟩ = some (.string x.name) ∧
      w.cell? ⟨b, o + i * 3 + 1, none⟩ = some (.int .u8 x.ty) ∧ w.cell? ⟨b, o + i * 3 + 2, none⟩ = some (.int .i64 x.st) := by
    intro i hil
    obtain ⟨b, o, cs', y, ha, hb, hcl, hc, ht, hy⟩ := hi i hil
    obtain ⟨n', _, _, hf⟩ := struct_open Try.underlying59 ht hy
    obtain ⟨c0, c1, c2, rfl⟩ := len3 hcl
    obtain ⟨y0, t0, _⟩ := hf 0 _ 1 rfl (by kernel_rfl)
    obtain ⟨y1, t1, _⟩ := hf 1 _ 1 rfl (by kernel_rfl)
    obtain ⟨y2, t2, _⟩ := hf 2 _ 1 rfl (by kernel_rfl)
    obtain ⟨n0, e0, _, f0⟩ := DataW.trod_string Try.underlying9 t0
    obtain ⟨n1, e1, _, f1⟩ := DataW.trod_int Try.underlying49 t1
    obtain ⟨n2, e2, _, f2⟩ := DataW.trod_int Try.underlying3 t2
    obtain rfl := one_of e0
    obtain rfl := one_of e1
    obtain rfl := one_of e2
    exact ⟨⟨n0, n1, n2⟩, f0, wf_u8 f1, wf_i64 f2, b, o, ha, Nat.zero_le _, hb, by simpa using hc 0 (by omega), by simpa using hc 1 (by omega), by simpa using hc 2 (by omega)⟩
  haveI : Inhabited InD := ⟨⟨⟨#[]⟩, 0, 0⟩⟩
  obtain ⟨S, hS⟩ := choose_lt (α := InD) key
  refine ⟨_, rfl, (List.range len).map S, a, cap, by simp, by simp [fitsR]; omega, by simpa using hlen, hcap, fun i x hx => ?_, fun ht => by simp at ht⟩
  have hil : i < len := by have := (List.getElem?_eq_some_iff.1 hx).1; simpa using this
  obtain rfl : S i = x := by simpa [hil] using hx
  exact hS i hil
/-- What is worked out. -/
theorem ex_open : ∀ (fuel : Nat) {cs : List Value} {x : DataW H × List MemPlace}, TR enc w fuel 53 cs x → Lite Try.prog 53 x.1 → ∃ e : Ex, RdEx w 0 false e cs := by
  intro fuel
  induction fuel using Nat.strongRecOn with
  | ind fuel ih =>
    intro cs x h hl
    obtain ⟨n', hn', hcl, hf⟩ := struct_open Try.underlying53 h hl
    rw [show Try.prog.cellsOf 53 = 4 from by kernel_rfl] at hcl
    obtain ⟨c0, c1, c2, c3, rfl⟩ := len4 hcl
    obtain ⟨y0, t0, _⟩ := hf 0 _ 1 rfl (by kernel_rfl)
    obtain ⟨y1, t1, _⟩ := hf 1 _ 1 rfl (by kernel_rfl)
    obtain ⟨y2, t2, _⟩ := hf 2 _ 1 rfl (by kernel_rfl)
    obtain ⟨y3, t3, l3⟩ := hf 3 _ 1 rfl (by kernel_rfl)
    obtain ⟨n0, e0, _, f0⟩ := DataW.trod_int Try.underlying50 t0
    obtain ⟨n1, e1, _, f1⟩ := DataW.trod_int Try.underlying2 t1
    obtain ⟨n2, e2, _, f2⟩ := DataW.trod_string Try.underlying9 t2
    obtain rfl := one_of e0
    obtain rfl := one_of e1
    obtain rfl := one_of e2
    obtain ⟨a, len, cap, e3, hw, hlen, hcap, n, hn, hi⟩ := slice_open Try.underlying51 (by decide +kernel) t3 l3
    obtain rfl := one_of e3
    rw [show Try.prog.bytesOf 53 = 56 from by kernel_rfl] at hw
    rw [show Try.prog.cellsOf 53 = 4 from by kernel_rfl] at hi
    simp only [reachBytes] at hw
    have key : ∀ i, i < len → ∃ x : Ex, ∃ b o c0 c1 c2 c3, a = some ⟨b, o, none⟩ ∧ 0 ≤ b ∧ b < w.heap.size ∧ w.cell? ⟨b, o + (0 + i) * 4, none⟩ = some c0 ∧ w.cell? ⟨b, o + (0 + i) * 4 + 1, none⟩ = some c1 ∧
        w.cell? ⟨b, o + (0 + i) * 4 + 2, none⟩ = some c2 ∧ w.cell? ⟨b, o + (0 + i) * 4 + 3, none⟩ = some c3 ∧ RdEx w 0 false x [c0, c1, c2, c3] := by
      intro i hil
      obtain ⟨b, o, cs', y, ha, hb, hcl, hc, ht, hy⟩ := hi i hil
      obtain ⟨e, he⟩ := ih n (by omega) ht hy
      obtain ⟨c0, c1, c2, c3, rfl⟩ := len4 hcl
      simp only [Nat.zero_add]
      exact ⟨e, b, o, c0, c1, c2, c3, ha, Nat.zero_le _, hb, by simpa using hc 0 (by omega), by simpa using hc 1 (by omega), by simpa using hc 2 (by omega), by simpa using hc 3 (by omega), he⟩
    haveI : Inhabited Ex := ⟨.mk 0 0 ⟨#[]⟩ []⟩
    obtain ⟨S, hS⟩ := choose_lt (α := Ex) key
    refine ⟨.mk n0 n1 n2 ((List.range len).map S), RdEx.shut (wf_u8 f0) (wf_i64 f1) f2 ⟨a, cap, by simp, by simp [fitsR]; omega, by simpa using hlen, hcap, RdExs.mk fun {i x} hx => ?_, fun ht => by simp at ht⟩⟩
    have hil : i < len := by have := (List.getElem?_eq_some_iff.1 hx).1; simpa using this
    obtain rfl : S i = x := by simpa [hil] using hx
    exact hS i hil
/-- A list of flows. -/
theorem fls_open {fuel : Nat} {cs : List Value} {x : DataW H × List MemPlace} (h : TR enc w fuel 23 cs x) (hl : Lite Try.prog 23 x.1) : ∃ v, cs = [v] ∧ ∃ l : List FlD, RdFlV w 0 false l v := by
  obtain ⟨a, len, cap, rfl, hw, hlen, hcap, n, _, hi⟩ := slice_open Try.underlying23 (by decide +kernel) h hl
  rw [show Try.prog.bytesOf 55 = 96 from by kernel_rfl] at hw
  rw [show Try.prog.cellsOf 55 = 8 from by kernel_rfl] at hi
  simp only [reachBytes] at hw
  have key : ∀ i, i < len → ∃ x : FlD, x.name.size ≤ maxLen ∧ isU8 x.ty ∧ isI64 x.st ∧ isI64 x.df ∧ ∃ b o, a = some ⟨b, o, none⟩ ∧ 0 ≤ b ∧ b < w.heap.size ∧ w.cell? ⟨b, o + i * 8, none⟩ = some (.string x.name) ∧
    w.cell? ⟨b, o + i * 8 + 1, none⟩ = some (.int .u8 x.ty) ∧ w.cell? ⟨b, o + i * 8 + 2, none⟩ = some (.int .i64 x.st) ∧ w.cell? ⟨b, o + i * 8 + 3, none⟩ = some (.int .i64 x.df) ∧
    isU8 x.body.op ∧ isI64 x.body.n ∧ x.body.name.size ≤ maxLen ∧ ∃ v, RdExV w 0 false x.body.args v ∧ w.cell? ⟨b, o + i * 8 + 4, none⟩ = some (.int .u8 x.body.op) ∧ w.cell? ⟨b, o + i * 8 + 4 + 1, none⟩ = some (.int .i64 x.body.n) ∧
    w.cell? ⟨b, o + i * 8 + 4 + 2, none⟩ = some (.string x.body.name) ∧ w.cell? ⟨b, o + i * 8 + 4 + 3, none⟩ = some v := by
    intro i hil
    obtain ⟨b, o, cs', y, ha, hb, hcl, hc, ht, hy⟩ := hi i hil
    obtain ⟨n', _, _, hf⟩ := struct_open Try.underlying55 ht hy
    obtain ⟨c0, c1, c2, c3, c4, c5, c6, c7, rfl⟩ := len8 hcl
    obtain ⟨y0, t0, _⟩ := hf 0 _ 1 rfl (by kernel_rfl)
    obtain ⟨y1, t1, _⟩ := hf 1 _ 1 rfl (by kernel_rfl)
    obtain ⟨y2, t2, _⟩ := hf 2 _ 1 rfl (by kernel_rfl)
    obtain ⟨y3, t3, _⟩ := hf 3 _ 1 rfl (by kernel_rfl)
    obtain ⟨y4, t4, l4⟩ := hf 4 _ 4 rfl (by kernel_rfl)
    obtain ⟨n0, e0, _, f0⟩ := DataW.trod_string Try.underlying9 t0
    obtain ⟨n1, e1, _, f1⟩ := DataW.trod_int Try.underlying49 t1
    obtain ⟨n2, e2, _, f2⟩ := DataW.trod_int Try.underlying3 t2
    obtain ⟨n3, e3, _, f3⟩ := DataW.trod_int Try.underlying2 t3
    obtain rfl := one_of e0
    obtain rfl := one_of e1
    obtain rfl := one_of e2
    obtain rfl := one_of e3
    obtain ⟨e, he⟩ := ex_open n' t4 l4
    have he' : RdEx w 0 false e [c4, c5, c6, c7] := he
    obtain ⟨op, n, nm, args⟩ := e
    obtain ⟨v, e, g1, g2, g3, hv⟩ := he'.open
    simp only [List.cons.injEq, and_true] at e
    obtain ⟨rfl, rfl, rfl, rfl⟩ := e
    exact ⟨⟨n0, n1, n2, n3, .mk op n nm args⟩, f0, wf_u8 f1, wf_i64 f2, wf_i64 f3, b, o, ha, Nat.zero_le _, hb, by simpa using hc 0 (by omega), by simpa using hc 1 (by omega), by simpa using hc 2 (by omega), by simpa using hc 3 (by omega), g1, g2, g3, _, hv,
      hc 4 (by omega), hc 5 (by omega), hc 6 (by omega), hc 7 (by omega)⟩
  haveI : Inhabited FlD := ⟨⟨⟨#[]⟩, 0, 0, 0, .mk 0 0 ⟨#[]⟩ []⟩⟩
  obtain ⟨S, hS⟩ := choose_lt (α := FlD) key
  refine ⟨_, rfl, (List.range len).map S, a, cap, by simp, by simp [fitsR]; omega, by simpa using hlen, hcap, fun i x hx => ?_, fun ht => by simp at ht⟩
  have hil : i < len := by have := (List.getElem?_eq_some_iff.1 hx).1; simpa using this
  obtain rfl : S i = x := by simpa [hil] using hx
  exact hS i hil
/-- A program. -/
theorem pr_open {v : Value} {d : DataW H} {ps : List MemPlace} (hv : ∃ cs, v = .agg cs ∧ v.cells = cs) (h : DataW.Trod enc Try.prog w 0 (fun _ => true) true 26 v d ps) (hl : Lite Try.prog 26 d) : ∃ (p : PrD) (cs : Array Value), v = .agg cs ∧ RdPr w 0 false p cs := by
  obtain ⟨fuel, h⟩ := h
  obtain ⟨cs, rfl, hcs⟩ := hv
  rw [hcs] at h
  obtain ⟨n', _, hcl, hf⟩ := struct_open Try.underlying26 h hl
  rw [show Try.prog.cellsOf 26 = 4 from by kernel_rfl] at hcl
  obtain ⟨c0, c1, c2, c3, e⟩ := len4 hcl
  rw [e] at hf
  obtain rfl : cs = #[c0, c1, c2, c3] := by cases cs; simpa using e
  obtain ⟨y0, t0, _⟩ := hf 0 _ 1 rfl (by kernel_rfl)
  obtain ⟨y1, t1, l1⟩ := hf 1 _ 1 rfl (by kernel_rfl)
  obtain ⟨y2, t2, l2⟩ := hf 2 _ 1 rfl (by kernel_rfl)
  obtain ⟨y3, t3, l3⟩ := hf 3 _ 1 rfl (by kernel_rfl)
  obtain ⟨n0, e0, _, f0⟩ := DataW.trod_int Try.underlying3 t0
  obtain rfl := one_of e0
  obtain ⟨v1, e1, k1, r1⟩ := ins_open t1 l1
  obtain ⟨v2, e2, k2, r2⟩ := fls_open t2 l2
  obtain ⟨v3, e3, k3, r3⟩ := strs_open t3 l3
  obtain rfl := one_of e1
  obtain rfl := one_of e2
  obtain rfl := one_of e3
  exact ⟨⟨n0, k1, k2, k3⟩, _, rfl, _, _, _, rfl, wf_i64 f0, r1, r2, r3⟩
theorem exv_open {v : Value} {d : DataW H} {ps : List MemPlace} (hv : ∃ cs, v = .agg cs ∧ v.cells = cs) (h : DataW.Trod enc Try.prog w 0 (fun _ => true) true 53 v d ps) (hl : Lite Try.prog 53 d) : ∃ (x : Ex) (cs : Array Value), v = .agg cs ∧ RdEx w 0 false x cs.toList := by
  obtain ⟨fuel, h⟩ := h
  obtain ⟨cs, rfl, hcs⟩ := hv
  rw [hcs] at h
  obtain ⟨e, he⟩ := ex_open fuel h hl
  exact ⟨e, cs, rfl, he⟩
end
end Go.Proofs.Ytjdficgejjkaoaa
