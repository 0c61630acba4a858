/- What is proved: for every input the law CutsNear returns true and leaves its arguments as they were. No condition. -/
import Derived.Test.YtjdficgejjkaoaaLives15
import Derived.Test.YtjdficgejjkaoaaRowF2
import Derived.Test.YtjdficgejjkaoaaExOwn
import Derived.Lib.AppendZeros
import Derived.Deep.Cut
import Derived.Test.YtjdficgejjkaoaaOpenP
import Derived.OpenShut
import Derived.ShutString
import Derived.ChangeOld
import Derived.ChangeMaps5
namespace Go.Proofs.Ytjdficgejjkaoaa
open Go.RowKit
set_option linter.unusedVariables false
set_option linter.unusedSimpArgs false

theorem lateA_no {p : PrD} {l : List Int} {n : Int} (h : LateA p l n) (hn : n ≠ 0) : l = [] ∧ ((namesP p = 0 ∧ n = 10) ∨ (namesP p ≠ 0 ∧ n = namesP p)) := by
  unfold LateA at h
  split at h
  · rename_i h0
    rcases h with ⟨h1, _⟩ | ⟨h1, h2, _⟩
    · exact absurd h1 hn
    · exact ⟨h2, .inl ⟨h0, h1⟩⟩
  · rename_i h0
    exact ⟨h.2, .inr ⟨h0, h.1⟩⟩
theorem lateA_yes {p : PrD} {l : List Int} (h : LateA p l 0) : namesP p = 0 ∧ Least p l := by
  unfold LateA at h
  split at h
  · rename_i h0
    rcases h with ⟨_, h⟩ | ⟨h1, _⟩
    · exact ⟨h0, h⟩
    · cases h1
  · rename_i h0
    exact absurd h.1.symm h0
theorem great14_any (p : PrD) (cs : Array Value) (w : World) (h : RdPr w 0 false p cs) : Calls Try.prog 9 #[.agg cs] w (RetB w) := by
  have hp := fun w' (e : Ext w w') => progSize_any p cs w' (h.ext e)
  have HP := Lib.hid hp
  obtain ⟨ai, ci, af, cf, ao, co, rfl⟩ := pr_form h
  clear hp h
  have e0 := (Chg.refl (fun _ => False) w).alloc (.cells #[.int .i64 p.st, .slice ai p.ins.length ci, .slice af p.flows.length cf, .slice ao p.outs.length co] 26)
  have b0 := heap_alloc_new w (.cells #[.int .i64 p.st, .slice ai p.ins.length ci, .slice af p.flows.length cf, .slice ao p.outs.length co] 26)
  go_enter Try.func9, Try.ntmps9
  go_wp2_with fail
  generalize (w.alloc (.cells #[.int .i64 p.st, .slice ai p.ins.length ci, .slice af p.flows.length cf, .slice ao p.outs.length co] 26)) = W0 at *
  have y1 : ∀ X, Ext W0 X → X.cell? ⟨w.heap.size, 1, none⟩ = some (.slice ai p.ins.length ci) := fun X hX => (blk_cell (Ext.heap hX b0) 1).trans rfl
  have y2 : ∀ X, Ext W0 X → X.cell? ⟨w.heap.size, 2, none⟩ = some (.slice af p.flows.length cf) := fun X hX => (blk_cell (Ext.heap hX b0) 2).trans rfl
  have y3 : ∀ X, Ext W0 X → X.cell? ⟨w.heap.size, 3, none⟩ = some (.slice ao p.outs.length co) := fun X hX => (blk_cell (Ext.heap hX b0) 3).trans rfl
  refine (HP.out _ e0).mono ?_
  rintro e w1 ⟨m, rfl, E1⟩
  go_wp2_with fail
  all_goals (go_ret; exact ⟨_, rfl, e0.trans E1⟩)
theorem chg_extN {S : Nat → Prop} {w w1 w2 : World} (h : Chg S w w1) (e : Ext w1 w2) : Chg S w w2 := h.trans (e.mono (fun _ _ h => h.elim))
/-- The first k turned, the others as they were. -/
def mixL {α : Type} (f : α → α) (k : Nat) (l : List α) : List α := (l.take k).map f ++ l.drop k
theorem mixL_zero {α : Type} (f : α → α) (l : List α) : mixL f 0 l = l := by simp [mixL]
theorem mixL_len {α : Type} (f : α → α) (k : Nat) (l : List α) : (mixL f k l).length = l.length := by
  simp [mixL]; omega
theorem mixL_full {α : Type} (f : α → α) (l : List α) : mixL f l.length l = l.map f := by simp [mixL]
theorem mixL_at {α : Type} {f : α → α} {k i : Nat} {l : List α} (h : k ≤ i) : (mixL f k l)[i]? = l[i]? := by
  unfold mixL
  by_cases hk : k ≤ l.length
  · rw [List.getElem?_append_right (by simp; omega), List.length_map, List.length_take, List.getElem?_drop, show k + (i - min k l.length) = i from by omega]
  · rw [List.getElem?_eq_none (by simp; omega), List.getElem?_eq_none (by omega)]
theorem mixL_low {α : Type} {f : α → α} {k i : Nat} {l : List α} (h : i < k) : (mixL f k l)[i]? = (l[i]?).map f := by
  unfold mixL
  by_cases hi : i < l.length
  · rw [List.getElem?_append_left (by simp; omega), List.getElem?_map, List.getElem?_take, if_pos h]
  · rw [List.getElem?_eq_none (by simp; omega), List.getElem?_eq_none (by omega)]; rfl
theorem mixL_step {α : Type} {f : α → α} {k : Nat} {l : List α} {x : α} (h : l[k]? = some x) : (mixL f k l).set k (f x) = mixL f (k + 1) l := by
  have hk := (List.getElem?_eq_some_iff.1 h).1
  apply List.ext_getElem?
  intro i
  rcases Nat.lt_trichotomy i k with hi | rfl | hi
  · rw [List.getElem?_set_ne (by omega), mixL_low hi, mixL_low (by omega)]
  · rw [List.getElem?_set_self (by rw [mixL_len]; exact hk), mixL_low (by omega), h]; rfl
  · rw [List.getElem?_set_ne (by omega), mixL_at (by omega), mixL_at (by omega)]
/-- What comes from without, in a row of one's own: the first k turned. -/
def InN (W : World) (base k : Nat) (f : InD → InD) (l : List InD) (v : Value) : Prop := (v = .slice none 0 0 ∧ l = []) ∨ ∃ (g cap : Nat) (cur : Array Value), v = .slice (some ⟨g, 0, none⟩) l.length cap ∧ base ≤ g ∧ W.heap[g]? = some (.cells cur 59 (0, 0)) ∧ RowOf inC 3 cur (mixL f k l) ∧ l.length ≤ cap ∧ cap ≤ maxLen ∧ l.length * 3 ≤ cur.size
/-- Flows, in a row of one's own: the first k turned; their parts lie in an elder world. -/
def FlN (w0 W : World) (base k : Nat) (f : FlD → FlD) (l : List FlD) (v : Value) : Prop := (v = .slice none 0 0 ∧ l = []) ∨ ∃ (g cap : Nat) (cur : Array Value) (ps : List (FlD × Value)), v = .slice (some ⟨g, 0, none⟩) l.length cap ∧ base ≤ g ∧ W.heap[g]? = some (.cells cur 55 (0, 0)) ∧ RowOf flP 8 cur ps ∧
  ps.map (·.1) = mixL f k l ∧ (∀ q, q ∈ ps → RdExV w0 0 false q.1.body.args q.2) ∧ l.length ≤ cap ∧ cap ≤ maxLen ∧ l.length * 8 ≤ cur.size
theorem InN.chg {W W' : World} {base k : Nat} {f : InD → InD} {l : List InD} {v : Value} {S : Nat → Prop} (h : InN W base k f l v) (hc : Chg S W W') (hS : ∀ g, v.ownBlock = some g → ¬ S g) : InN W' base k f l v := by
  rcases h with h | ⟨g, cap, cur, h1, h2, h3, h4⟩
  · exact .inl h
  · exact .inr ⟨g, cap, cur, h1, h2, hc.heap h3 (hS g (by rw [h1]; rfl)), h4⟩
theorem FlN.chg {w0 W W' : World} {base k : Nat} {f : FlD → FlD} {l : List FlD} {v : Value} {S : Nat → Prop} (h : FlN w0 W base k f l v) (hc : Chg S W W') (hS : ∀ g, v.ownBlock = some g → ¬ S g) : FlN w0 W' base k f l v := by
  rcases h with h | ⟨g, cap, cur, ps, h1, h2, h3, h4⟩
  · exact .inl h
  · exact .inr ⟨g, cap, cur, ps, h1, h2, hc.heap h3 (hS g (by rw [h1]; rfl)), h4⟩
theorem InN.form {W : World} {base k : Nat} {f : InD → InD} {l : List InD} {v : Value} (h : InN W base k f l v) : ∃ a cap, v = .slice a l.length cap := by
  rcases h with ⟨h0, rfl⟩ | ⟨g, cap, cur, h1, _⟩
  · exact ⟨none, 0, h0⟩
  · exact ⟨_, _, h1⟩
theorem FlN.form {w0 W : World} {base k : Nat} {f : FlD → FlD} {l : List FlD} {v : Value} (h : FlN w0 W base k f l v) : ∃ a cap, v = .slice a l.length cap := by
  rcases h with ⟨h0, rfl⟩ | ⟨g, cap, cur, ps, h1, _⟩
  · exact ⟨none, 0, h0⟩
  · exact ⟨_, _, h1⟩
theorem InN.lt {W : World} {base k : Nat} {f : InD → InD} {l : List InD} {v : Value} (h : InN W base k f l v) : ∀ g, v.ownBlock = some g → base ≤ g ∧ g < W.heap.size := by
  rcases h with ⟨rfl, _⟩ | ⟨g, cap, cur, rfl, h2, h3, _⟩
  · intro g hg; cases hg
  · intro g' hg
    simp only [Value.ownBlock, Option.some.injEq] at hg
    subst hg
    exact ⟨h2, lt_of_block h3⟩
theorem FlN.lt {w0 W : World} {base k : Nat} {f : FlD → FlD} {l : List FlD} {v : Value} (h : FlN w0 W base k f l v) : ∀ g, v.ownBlock = some g → base ≤ g ∧ g < W.heap.size := by
  rcases h with ⟨rfl, _⟩ | ⟨g, cap, cur, ps, rfl, h2, h3, _⟩
  · intro g hg; cases hg
  · intro g' hg
    simp only [Value.ownBlock, Option.some.injEq] at hg
    subst hg
    exact ⟨h2, lt_of_block h3⟩
theorem InN.of {W : World} {base : Nat} {f : InD → InD} {l : List InD} {v : Value} (h : W.ownsRow base 59 3 v l.length (l.flatMap inC)) : InN W base 0 f l v := by
  have h0 := h
  rcases h.2 with ⟨h1, h2⟩ | ⟨g, cap, cur, h1, h2, _⟩
  · exact .inl ⟨h1, List.length_eq_zero_iff.1 h2⟩
  · subst h1
    obtain ⟨cur, a1, a2, a3, a4, a5, a6⟩ := RowOf.own (r := []) inC_len (by simpa using h0)
    have := Nat.mul_le_mul_right 3 a4
    exact .inr ⟨g, cap, cur, rfl, a6, a1, by rw [mixL_zero]; exact a3, a4, a5, by omega⟩
theorem FlN.of {w0 W : World} {base : Nat} {f : FlD → FlD} {l : List FlD} {ps : List (FlD × Value)} {v : Value} (hps : ps.map (·.1) = l) (hp : ∀ q, q ∈ ps → RdExV w0 0 false q.1.body.args q.2) (h : W.ownsRow base 55 8 v l.length (ps.flatMap flP)) : FlN w0 W base 0 f l v := by
  have h0 := h
  rcases h.2 with ⟨h1, h2⟩ | ⟨g, cap, cur, h1, h2, _⟩
  · exact .inl ⟨h1, List.length_eq_zero_iff.1 h2⟩
  · subst h1
    obtain ⟨cur, a1, a2, a3, a4, a5, a6⟩ := RowOf.own (r := []) flP_len (by simpa using h0)
    have := Nat.mul_le_mul_right 8 a4
    exact .inr ⟨g, cap, cur, ps, rfl, a6, a1, a3, by rw [mixL_zero]; exact hps, hp, a4, a5, by omega⟩
theorem InN.rd {W : World} {base : Nat} {s : Int} {l : List InD} {v : Value} (h : InN W base l.length (nearI s) l v) (hs : isI64 s) (hl : ∀ (i : Nat) (x : InD), l[i]? = some x → x.name.size ≤ maxLen ∧ isU8 x.ty) (hf : fitsR l.length 32) : RdInV W 0 false (l.map (nearI s)) v := by
  rcases h with ⟨rfl, rfl⟩ | ⟨g, cap, cur, rfl, _, h3, h4, h5, h6, h7⟩
  · exact ⟨none, 0, rfl, hf, Nat.zero_le _, Nat.zero_le _, fun i x hx => by simp at hx, fun h => by cases h⟩
  · rw [mixL_full] at h4
    have := h4.rdIn h3 (fun x hx => by
      obtain ⟨y, hy, rfl⟩ := List.mem_map.1 hx
      obtain ⟨i, hi, rfl⟩ := List.getElem_of_mem hy
      obtain ⟨a, b⟩ := hl i _ (List.getElem?_eq_getElem hi)
      exact ⟨a, b, hs⟩) (by rw [List.length_map]; exact h5) h6 (by rw [List.length_map]; exact hf)
    rw [List.length_map] at this
    exact this
theorem FlN.rd {w0 W : World} {base : Nat} {s : Int} {l : List FlD} {v : Value} (h : FlN w0 W base l.length (nearF s) l v) (hE : Ext w0 W) (hs : isI64 s) (hl : ∀ (i : Nat) (x : FlD), l[i]? = some x → FlFine x) (hf : fitsR l.length 96) : RdFlV W 0 false (l.map (nearF s)) v := by
  rcases h with ⟨rfl, rfl⟩ | ⟨g, cap, cur, ps, rfl, _, h3, h4, h8, h9, h5, h6, h7⟩
  · exact ⟨none, 0, rfl, hf, Nat.zero_le _, Nat.zero_le _, fun i x hx => by simp at hx, fun h => by cases h⟩
  · rw [mixL_full] at h8
    have hpl : ps.length = l.length := by rw [← List.length_map (·.1), h8, List.length_map]
    have := h4.rdFl h3 hE (fun q hq => by
      refine ⟨?_, h9 q hq⟩
      have hm : q.1 ∈ l.map (nearF s) := by rw [← h8]; exact List.mem_map.2 ⟨q, hq, rfl⟩
      obtain ⟨y, hy, e⟩ := List.mem_map.1 hm
      obtain ⟨i, hi, rfl⟩ := List.getElem_of_mem hy
      obtain ⟨a1, a2, a3, a4, a5, a6, a7⟩ := hl i _ (List.getElem?_eq_getElem hi)
      rw [← e]
      exact ⟨a1, a2, hs, a4, a5, a6, a7⟩) (by omega) h6 (by rw [hpl]; exact hf)
    rw [h8, hpl] at this
    exact this
theorem append_none {t e : TypeId} {i : TypeInfo} (ht : Try.prog.underlying t = some (.slice e)) (hi : Try.prog.info? e = some i) (a : Option Addr) (cap : Nat) (ty : TypeId) (w : World) : (Builtin.append_ #[t, t] ty #[.slice none 0 0, .slice a 0 cap]).run Try.prog w = .ok (.slice none 0 0) w := by
  cases a <;> simp [Builtin.append_, run_underlying ht, sizeOf, typeInfo, hi, Builtin.lenOf, Builtin.firstCells, storeCells, loadCells, loadCellsFrom]
theorem RdInV.flat {w : World} {lo : Nat} {t : Bool} {l : List InD} {b o cap n : Nat} (h : RdInV w lo t l (.slice (some ⟨b, o, none⟩) n cap)) : ∀ j u, (l.flatMap inC)[j]? = some u → w.cell? ((⟨b, o, none⟩ : Addr).add j) = some u := by
  intro j u hj
  have hlt : j < (l.flatMap inC).length := (List.getElem?_eq_some_iff.1 hj).1
  rw [flat_len inC_len] at hlt
  have hi : j / 3 < l.length := by omega
  have hp := List.getElem?_eq_getElem hi
  have h1 := flat_at inC_len [] hp (j := j % 3) (by omega)
  rw [List.append_nil, show j / 3 * 3 + j % 3 = j from by omega, hj] at h1
  obtain ⟨_, _, e, _, _, _, hr, _⟩ := h
  simp only [Value.slice.injEq] at e
  obtain ⟨rfl, _, _⟩ := e
  obtain ⟨_, _, _, b', o', ha, _, _, c0, c1, c2⟩ := hr _ _ hp
  simp only [Option.some.injEq, Addr.mk.injEq, and_true] at ha
  obtain ⟨rfl, rfl⟩ := ha
  have e2 : (⟨b, o, none⟩ : Addr).add j = ⟨b, o + j, none⟩ := by
    unfold Addr.add; split
    · rename_i h; subst h; rfl
    · rfl
  rw [e2, h1]
  have hm : j % 3 = 0 ∨ j % 3 = 1 ∨ j % 3 = 2 := by omega
  rcases hm with hm | hm | hm
  · rw [show o + j = o + j / 3 * 3 from by omega, c0, hm]; rfl
  · rw [show o + j = o + j / 3 * 3 + 1 from by omega, c1, hm]; rfl
  · rw [show o + j = o + j / 3 * 3 + 2 from by omega, c2, hm]; rfl
theorem inC_one {l : List InD} : ∀ u ∈ l.flatMap inC, u.oneCell' = true := by
  intro u hu
  obtain ⟨x, _, hu⟩ := List.mem_flatMap.1 hu
  simp only [inC, List.mem_cons, List.not_mem_nil, or_false] at hu
  rcases hu with rfl | rfl | rfl <;> rfl
/-- Flows that lie in memory, as pairs, cell by cell. -/
theorem RdFlV.flat {w : World} {lo : Nat} {t : Bool} {l : List FlD} {b o cap n : Nat} (h : RdFlV w lo t l (.slice (some ⟨b, o, none⟩) n cap)) : ∃ ps : List (FlD × Value), ps.map (·.1) = l ∧ (∀ q, q ∈ ps → RdExV w lo t q.1.body.args q.2) ∧ ∀ j u, (ps.flatMap flP)[j]? = some u → w.cell? ((⟨b, o, none⟩ : Addr).add j) = some u := by
  obtain ⟨_, _, e, _, _, _, hr, _⟩ := h
  simp only [Value.slice.injEq] at e
  obtain ⟨rfl, _, _⟩ := e
  have key : ∀ (m : List FlD) (k : Nat), (∀ i x, m[i]? = some x → l[k + i]? = some x) → ∃ ps : List (FlD × Value), ps.map (·.1) = m ∧ (∀ q, q ∈ ps → RdExV w lo t q.1.body.args q.2) ∧ ∀ (i : Nat) (q : FlD × Value), ps[i]? = some q → ∀ c, c < 8 → w.cell? ⟨b, o + (k + i) * 8 + c, none⟩ = (flP q)[c]? := by
    intro m
    induction m with
    | nil => intro k _; exact ⟨[], rfl, fun q hq => by simp at hq, fun i q hq => by simp at hq⟩
    | cons y r ih =>
      intro k hm
      obtain ⟨ps, h1, h2, h3⟩ := ih (k + 1) (fun i x hx => by rw [show k + 1 + i = k + (i + 1) from by omega]; exact hm (i + 1) x (by simpa using hx))
      obtain ⟨_, _, _, _, b', o', ha, _, _, c0, c1, c2, c3, _, _, _, v, hv, c4, c5, c6, c7⟩ := hr (k + 0) y (hm 0 y rfl)
      simp only [Option.some.injEq, Addr.mk.injEq, and_true] at ha
      obtain ⟨rfl, rfl⟩ := ha
      refine ⟨(y, v) :: ps, by simp [h1], fun q hq => ?_, fun i q hq c hc => ?_⟩
      · rcases List.mem_cons.1 hq with rfl | hq
        · exact hv
        · exact h2 q hq
      · cases i with
        | zero =>
          simp only [List.getElem?_cons_zero, Option.some.injEq] at hq
          subst hq
          match c, hc with
          | 0, _ => exact c0
          | 1, _ => exact c1
          | 2, _ => exact c2
          | 3, _ => exact c3
          | 4, _ => exact c4
          | 5, _ => exact c5
          | 6, _ => exact c6
          | 7, _ => exact c7
          | c + 8, hc => omega
        | succ i =>
          have := h3 i q (by simpa using hq) c hc
          rw [show k + 1 + i = k + (i + 1) from by omega] at this
          exact this
  obtain ⟨ps, h1, h2, h3⟩ := key l 0 (fun i x hx => by rw [Nat.zero_add]; exact hx)
  refine ⟨ps, h1, h2, fun j u hj => ?_⟩
  have hlt : j < (ps.flatMap flP).length := (List.getElem?_eq_some_iff.1 hj).1
  rw [flat_len flP_len] at hlt
  have hi : j / 8 < ps.length := by omega
  have hp := List.getElem?_eq_getElem hi
  have h4 := flat_at flP_len [] hp (j := j % 8) (by omega)
  rw [List.append_nil, show j / 8 * 8 + j % 8 = j from by omega, hj] at h4
  have h5 := h3 _ _ hp (j % 8) (by omega)
  rw [Nat.zero_add, show o + j / 8 * 8 + j % 8 = o + j from by omega, ← h4] at h5
  have e2 : (⟨b, o, none⟩ : Addr).add j = ⟨b, o + j, none⟩ := by
    unfold Addr.add; split
    · rename_i h; subst h; rfl
    · rfl
  rw [e2]
  exact h5
theorem flP_one {w : World} {lo : Nat} {t : Bool} {ps : List (FlD × Value)} (h : ∀ q, q ∈ ps → RdExV w lo t q.1.body.args q.2) : ∀ u ∈ ps.flatMap flP, u.oneCell' = true := by
  intro u hu
  obtain ⟨q, hq, hu⟩ := List.mem_flatMap.1 hu
  have := slice_one (h q hq)
  simp only [flP, flC, List.mem_cons, List.not_mem_nil, or_false] at hu
  rcases hu with rfl | rfl | rfl | rfl | rfl | rfl | rfl | rfl
  · rfl
  · rfl
  · rfl
  · rfl
  · rfl
  · rfl
  · rfl
  · exact this
end Go.Proofs.Ytjdficgejjkaoaa
namespace Go.Proofs.Ytjdficgejjkaoaa
open Go.RowKit
set_option linter.unusedVariables false
set_option linter.unusedSimpArgs false

theorem app_ins {w W : World} (f : InD → InD) {l : List InD} {a : Option Addr} {cap : Nat} (h : RdInV w 0 false l (.slice a l.length cap)) (hE : Ext w W) : ∃ v' W', (Builtin.append_ #[22, 22] 22 #[.slice none 0 0, .slice a l.length cap]).run Try.prog W = .ok v' W' ∧ InN W' W.heap.size 0 f l v' ∧ Ext W W' := by
  obtain ⟨i0, hinf, hz0, hz1, hz2⟩ := info_parts infoIn
  by_cases h0 : l.length = 0
  · have hl : l = [] := List.length_eq_zero_iff.1 h0
    subst hl
    exact ⟨_, _, append_none Try.underlying22 hinf a cap _ W, .inl ⟨rfl, rfl⟩, Chg.refl _ _⟩
  · obtain ⟨b, o, rfl⟩ : ∃ b o, a = some ⟨b, o, none⟩ := by
      obtain ⟨_, _, e, _, _, _, hr, _⟩ := h
      simp only [Value.slice.injEq, true_and] at e
      obtain ⟨rfl, rfl⟩ := e
      obtain ⟨_, _, _, b, o, ha, _⟩ := hr 0 _ (List.getElem?_eq_getElem (by omega))
      exact ⟨b, o, ha⟩
    have hfit : fitsR l.length 32 := by obtain ⟨_, _, _, h, _⟩ := h; exact h
    unfold fitsR at hfit
    obtain ⟨v', W', hr, ho, hg, _, _⟩ := run_append_own_at (P := Try.prog) W W.heap.size 22 22 59 i0 _ 3 32 Try.underlying22 hinf hz0 hz1 hz2 rfl (by decide) (.slice none 0 0) 0 [] (World.ownsRow_nil _ _ _ _) ⟨b, o, none⟩ l.length cap (l.flatMap inC) (flat_len inC_len l) (fun j u hj => Ext.cell hE (h.flat j u hj)) inC_one (by unfold maxLen; omega) (by omega) (Nat.le_refl _)
    rw [Nat.zero_add, List.nil_append] at ho
    exact ⟨v', W', hr, InN.of ho, ⟨hg.os, hg.tape, hg.output, hg.size, fun k hk _ => hg.block k hk (by simp [Value.ownBlock])⟩⟩
theorem app_fls {w W : World} (f : FlD → FlD) {l : List FlD} {a : Option Addr} {cap : Nat} (h : RdFlV w 0 false l (.slice a l.length cap)) (hE : Ext w W) : ∃ v' W', (Builtin.append_ #[23, 23] 23 #[.slice none 0 0, .slice a l.length cap]).run Try.prog W = .ok v' W' ∧ FlN w W' W.heap.size 0 f l v' ∧ Ext W W' := by
  obtain ⟨i0, hinf, hz0, hz1, hz2⟩ := info_parts infoFl
  by_cases h0 : l.length = 0
  · have hl : l = [] := List.length_eq_zero_iff.1 h0
    subst hl
    exact ⟨_, _, append_none Try.underlying23 hinf a cap _ W, .inl ⟨rfl, rfl⟩, Chg.refl _ _⟩
  · obtain ⟨b, o, rfl⟩ : ∃ b o, a = some ⟨b, o, none⟩ := by
      obtain ⟨_, _, e, _, _, _, hr, _⟩ := h
      simp only [Value.slice.injEq, true_and] at e
      obtain ⟨rfl, rfl⟩ := e
      obtain ⟨_, _, _, _, b, o, ha, _⟩ := hr 0 _ (List.getElem?_eq_getElem (by omega))
      exact ⟨b, o, ha⟩
    have hfit : fitsR l.length 96 := by obtain ⟨_, _, _, h, _⟩ := h; exact h
    unfold fitsR at hfit
    obtain ⟨ps, h1, h2, h3⟩ := h.flat
    have hpl : ps.length = l.length := by rw [← h1, List.length_map]
    obtain ⟨v', W', hr, ho, hg, _, _⟩ := run_append_own_at (P := Try.prog) W W.heap.size 23 23 55 i0 _ 8 96 Try.underlying23 hinf hz0 hz1 hz2 rfl (by decide) (.slice none 0 0) 0 [] (World.ownsRow_nil _ _ _ _) ⟨b, o, none⟩ l.length cap (ps.flatMap flP) (by rw [flat_len flP_len, hpl]) (fun j u hj => Ext.cell hE (h3 j u hj)) (flP_one h2) (by unfold maxLen; omega) (by omega) (Nat.le_refl _)
    rw [Nat.zero_add, List.nil_append] at ho
    exact ⟨v', W', hr, FlN.of h1 h2 ho, ⟨hg.os, hg.tape, hg.output, hg.size, fun k hk _ => hg.block k hk (by simp [Value.ownBlock])⟩⟩
set_option maxRecDepth 100000 in
set_option maxHeartbeats 8000000 in
theorem cutsNear_any (p : PrD) (cs : Array Value) (sg : Int) (w : World) (h : RdPr w 0 false p cs) (hsg : isU8 sg) : Calls Try.prog 8 #[.agg cs, .int .u8 sg] w (RetT w) := by
  have HP := Lib.hid h
  obtain ⟨ai, ci, af, cf, ao, co, rfl⟩ := pr_form h
  have hI := pr_in h
  have hF := pr_fl h
  obtain ⟨_, _, _, eqh, hst64, _, _, hO⟩ := h
  simp only [Array.mk.injEq, List.cons.injEq, and_true, true_and] at eqh
  obtain ⟨rfl, rfl, rfl⟩ := eqh
  have n1 : p.ins.length ≤ 9000000000000000000 := by obtain ⟨_, _, _, h, _⟩ := hI; unfold fitsR at h; omega
  have n2 : p.flows.length ≤ 9000000000000000000 := by obtain ⟨_, _, _, h, _⟩ := hF; unfold fitsR at h; omega
  have HI := Lib.hid hI
  have HF := Lib.hid hF
  have HO := Lib.hid hO
  clear hI hF hO
  have HLV := Lib.hid lives15_any
  have e0 := (Chg.refl (fun _ => False) w).alloc (.cells #[.int .i64 p.st, .slice ai p.ins.length ci, .slice af p.flows.length cf, .slice ao p.outs.length co] 26)
  have b0 := heap_alloc_new w (.cells #[.int .i64 p.st, .slice ai p.ins.length ci, .slice af p.flows.length cf, .slice ao p.outs.length co] 26)
  go_enter Try.func8, Try.ntmps8
  go_upto_region 1 with (fail)
  generalize (w.alloc (.cells #[.int .i64 p.st, .slice ai p.ins.length ci, .slice af p.flows.length cf, .slice ao p.outs.length co] 26)) = W0 at *
  have y0 := (blk_cell b0 0).trans rfl
  have y1 := (blk_cell b0 1).trans rfl
  have y2 := (blk_cell b0 2).trans rfl
  have y3 := (blk_cell b0 3).trans rfl
  have HG := Lib.hid (great14_any p _ _ (HP.out.ext e0))
  go_wp2_with fail
  refine HG.out.mono ?_
  rintro e w1 ⟨gb, rfl, E1⟩
  have F1 := e0.trans E1
  have b1 := Ext.heap E1 b0
  clear HG b0 e0 E1 y0 y1 y2 y3
  have y0 := (blk_cell b1 0).trans rfl
  have y1 := (blk_cell b1 1).trans rfl
  have y2 := (blk_cell b1 2).trans rfl
  have y3 := (blk_cell b1 3).trans rfl
  have HEND : Hid (∀ (X : World), Ext w X → Calls Try.prog 24 #[] X fun e w' => e = .returned (.bool true) ∧ Ext w w') := by
    show ∀ X, _ → _
    intro X hX
    exact (HLV.out X).mono (fun e w' h => ⟨h.1, hX.trans h.2⟩)
  clear HLV
  cases gb
  case true =>
    go_wp2_with fail
    refine (HEND.out _ F1).mono ?_
    rintro e w3 ⟨rfl, E3⟩
    go_wp2_with fail
    go_ret
    exact ⟨rfl, E3⟩
  by_cases hst : p.st < 1
  case pos =>
    go_wp2_with fail
    refine (HEND.out _ F1).mono ?_
    rintro e w3 ⟨rfl, E3⟩
    go_wp2_with fail
    go_ret
    exact ⟨rfl, E3⟩
  have hst0 : p.st ≠ 0 := by omega
  obtain ⟨h64a, h64b⟩ := hst64
  obtain ⟨hs0, hs255⟩ := hsg
  have htm : sg.tmod p.st = sg % p.st := Int.tmod_eq_emod_of_nonneg hs0
  have hr0 := Int.emod_nonneg sg hst0
  have hr1 := Int.emod_lt_of_pos sg (show 0 < p.st by omega)
  generalize sg % p.st = r at *
  obtain ⟨s, hs⟩ : ∃ s, s = 1 + r := ⟨_, rfl⟩
  have hwr : IntKind.i64.wrap (1 + r) = 1 + r := by rw [IntKind.wrap_i64]; omega
  obtain ⟨vi', w4, hrunI, hIN, E4⟩ := app_ins (nearI s) HI.out F1
  have HRI := Lib.hid hrunI
  obtain ⟨via, vic, rfl⟩ := hIN.form
  have F4 := F1.trans E4
  have b4 := Ext.heap E4 b1
  go_upto_region 4 with (fail)
  rw [← hs]
  have hsA : 1 ≤ s ∧ s ≤ p.st := by omega
  have hs64 : isI64 s := by unfold isI64; omega
  clear hr0 hr1 htm hwr hs hs0 hs255
  have y1' := Ext.cell E4 y1
  have g1 := blk_free b4 1
  go_upto_region 5 with (at_builtin; refine Lib.wpList_append_run _ rfl _ _ _ _ rfl _ _ rfl rfl _ _ hrunI ?_)
  have hPw : w.heap.size < w1.heap.size := lt_of_block b1
  have C5 : Chg (fun q => q = w.heap.size) w4 (w4.setCell ⟨w.heap.size, 1, none⟩ (.slice via p.ins.length vic)) := (Chg.refl _ _).setCell _ _ (.inl (Eq.refl _))
  have b5 := blk_set b4 1 (.slice via p.ins.length vic)
  have F5 : Ext w _ := Ext.then F4 C5 (fun b hb => by omega)
  have hIN5 := hIN.chg C5 (fun g hg e => by have := (hIN.lt g hg).1; omega)
  have hw14 := E4.size
  have hw45 := C5.size
  generalize (w4.setCell ⟨w.heap.size, 1, none⟩ (.slice via p.ins.length vic)) = W5 at *
  clear hIN hrunI HRI E4 F4 b4 C5 y0 y1 y2 y3 y1' g1 b1
  have b5 : W5.heap[w.heap.size]? = some (.cells #[.int .i64 p.st, .slice via p.ins.length vic, .slice af p.flows.length cf, .slice ao p.outs.length co] 26 (0, 0)) := b5
  obtain ⟨vf', w6, hrunF, hFN, E6⟩ := app_fls (nearF s) HF.out F5
  obtain ⟨vfa, vfc, rfl⟩ := hFN.form
  have F6 := F5.trans E6
  have b6 := Ext.heap E6 b5
  have y2 := (blk_cell b5 2).trans rfl
  have y2' := Ext.cell E6 y2
  have g2 := blk_free b6 2
  go_upto_region 6 with (at_builtin; refine Lib.wpList_append_run _ rfl _ _ _ _ rfl _ _ rfl rfl _ _ hrunF ?_)
  have C7 : Chg (fun q => q = w.heap.size) w6 (w6.setCell ⟨w.heap.size, 2, none⟩ (.slice vfa p.flows.length vfc)) := (Chg.refl _ _).setCell _ _ (.inl (Eq.refl _))
  have b7 := blk_set b6 2 (.slice vfa p.flows.length vfc)
  have F7 : Ext w _ := Ext.then F6 C7 (fun b hb => by omega)
  have hwP5 := lt_of_block b5
  have hFN7 := hFN.chg C7 (fun g hg e => by have := (hFN.lt g hg).1; omega)
  have hIN7 := (hIN5.chg E6 (fun _ _ h => h)).chg C7 (fun g hg e => by have := (hIN5.lt g hg).1; omega)
  have hIb := fun g hg => (hIN5.lt g hg)
  have hFb := fun g hg => (hFN.lt g hg).1
  generalize (w6.setCell ⟨w.heap.size, 2, none⟩ (.slice vfa p.flows.length vfc)) = V at *
  have b7 : V.heap[w.heap.size]? = some (.cells #[.int .i64 p.st, .slice via p.ins.length vic, .slice vfa p.flows.length vfc, .slice ao p.outs.length co] 26 (0, 0)) := b7
  have HIB := Lib.hid (fun g (hg : (Value.slice via p.ins.length vic).ownBlock = some g) => (⟨by have := (hIb g hg).1; omega, fun e => by have := (hIb g hg).1; omega⟩ : w.heap.size ≤ g ∧ g ≠ w.heap.size))
  have HFBI := Lib.hid (fun g (hg : (Value.slice vfa p.flows.length vfc).ownBlock = some g) => (⟨by have := hFb g hg; omega, by have := hFb g hg; omega, fun g' hg' e => by have := hFb g hg; have := (hIb g' hg').2; omega⟩ : w.heap.size ≤ g ∧ g ≠ w.heap.size ∧ ∀ g', (Value.slice via p.ins.length vic).ownBlock = some g' → g' ≠ g))
  clear hIN5 hFN hrunF E6 F6 b6 C7 y2 y2' g2 b5 hIb hFb F5 F1 hPw hwP5
  -- ins
  have ew : ∀ X, Chg (fun q => (Value.slice via p.ins.length vic).ownBlock = some q) V X → Ext w X := fun X hX => Ext.then F7 hX (fun b hb => (HIB.out b hb).1)
  have z1 : ∀ X, Chg (fun q => (Value.slice via p.ins.length vic).ownBlock = some q) V X → X.cell? ⟨w.heap.size, 1, none⟩ = some (.slice via p.ins.length vic) := fun X hX => (blk_cell (hX.heap b7 (fun hb => (HIB.out _ hb).2 rfl)) 1).trans rfl
  have er : Chg (fun q => (Value.slice via p.ins.length vic).ownBlock = some q) V V := Chg.refl _ _
  have H7 := Lib.hid hIN7
  have H8 := Lib.hid hFN7
  have HB7 := Lib.hid b7
  clear hIN7 hFN7 b7
  go_wp2_with fail
  go_loopw [6] (fun i wr => ∃ k : Nat, k ≤ p.ins.length ∧ i = .int .i64 k ∧ InN wr w1.heap.size k (nearI s) p.ins (.slice via p.ins.length vic) ∧ Chg (fun q => (Value.slice via p.ins.length vic).ownBlock = some q) V wr) (fun i _ => p.ins.length - (intOf i).toNat)
  case atStart => exact ⟨0, Nat.zero_le _, rfl, H7.out, er⟩
  case round =>
    clear H7
    obtain ⟨k, hk, rfl, hin, hC⟩ := hrel
    by_cases hlt : k < p.ins.length
    case pos =>
      have hx := List.getElem?_eq_getElem hlt
      have hq1 : (k : Int) < (p.ins.length : Int) := by omega
      have hstep := mixL_step (f := nearI s) hx
      have hmx : (mixL (nearI s) k p.ins)[k]? = some p.ins[k] := by rw [mixL_at (Nat.le_refl _)]; exact hx
      rcases hin with ⟨_, h0⟩ | ⟨g, cap, cur, he, hg1, hcur, hrow, hc1, hc2, hc3⟩
      · rw [h0] at hlt; simp at hlt
      simp only [Value.slice.injEq, true_and] at he
      obtain ⟨rfl, rfl⟩ := he
      generalize p.ins[k] = x at *
      have t2 := (blk_cell hcur (k * 3 + 2)).trans (hrow k x hmx 2 (by omega))
      simp only [inC, List.getElem?_cons_zero, List.getElem?_cons_succ] at t2
      have f2 := blk_free hcur (k * 3 + 2)
      have hcur2 := blk_set hcur (k * 3 + 2) (.int .i64 s)
      have hrow2 := hrow.set (k := k) (j := 2) (x := x) (x' := nearI s x) (u := .int .i64 s) hmx (by omega) (by omega) (fun q hq hne => by match q, hq with | 0, _ => rfl | 1, _ => rfl | 2, _ => omega | q + 3, hq => omega) rfl
      rw [hstep] at hrow2
      have C2 : Chg (fun q => (Value.slice (some ⟨g, 0, none⟩) p.ins.length vic).ownBlock = some q) V (wr.setCell ⟨g, k * 3 + 2, none⟩ (.int .i64 s)) := hC.setCell _ _ (.inl rfl)
      have HN2 : Hid (InN (wr.setCell ⟨g, k * 3 + 2, none⟩ (.int .i64 s)) w1.heap.size (k + 1) (nearI s) p.ins (.slice (some ⟨g, 0, none⟩) p.ins.length vic)) := by
        show InN _ _ _ _ _ _
        exact .inr ⟨g, vic, _, rfl, hg1, hcur2, hrow2, hc1, hc2, by rw [Array.size_setIfInBounds]; exact hc3⟩
      have H3 := Lib.hid C2
      clear hx hstep hmx hcur hrow hcur2 hrow2 C2
      go_wp2_with fail
      go_roundw
      case rel => exact ⟨k + 1, by omega, by go_num, HN2.out, H3.out⟩
      case measure => simp [intOf]; omega
    obtain rfl : k = p.ins.length := by omega
    have z1w := z1 _ hC
    have F8 := ew _ hC
    have HIN := Lib.hid hin
    have b8 := hC.heap HB7.out (fun hb => (HIB.out _ hb).2 rfl)
    have h8 := H8.out.chg hC (fun g hg hb => (HFBI.out g hg).2.2 g hb rfl)
    clear z1 ew er hin H8 HB7 F7
    obtain ⟨V1, rfl⟩ : ∃ V1 : World, V1 = wr := ⟨_, rfl⟩
    clear hC
    have ew : ∀ X, Chg (fun q => (Value.slice vfa p.flows.length vfc).ownBlock = some q) V1 X → Ext w X := fun X hX => Ext.then F8 hX (fun b hb => (HFBI.out b hb).1)
    have z2 : ∀ X, Chg (fun q => (Value.slice vfa p.flows.length vfc).ownBlock = some q) V1 X → X.cell? ⟨w.heap.size, 2, none⟩ = some (.slice vfa p.flows.length vfc) := fun X hX => (blk_cell (hX.heap b8 (fun hb => (HFBI.out _ hb).2.1 rfl)) 2).trans rfl
    have er : Chg (fun q => (Value.slice vfa p.flows.length vfc).ownBlock = some q) V1 V1 := Chg.refl _ _
    have H8 := Lib.hid h8
    have HB8 := Lib.hid b8
    clear h8 b8
    go_wp2_with fail
    go_loopw [7] (fun i wr => ∃ k : Nat, k ≤ p.flows.length ∧ i = .int .i64 k ∧ FlN w wr W5.heap.size k (nearF s) p.flows (.slice vfa p.flows.length vfc) ∧ Chg (fun q => (Value.slice vfa p.flows.length vfc).ownBlock = some q) V1 wr) (fun i _ => p.flows.length - (intOf i).toNat)
    case atStart => exact ⟨0, Nat.zero_le _, rfl, H8.out, er⟩
    case round =>
      clear H8 z1w
      obtain ⟨k, hk, rfl, hin, hC⟩ := hrel
      by_cases hlt : k < p.flows.length
      case pos =>
        have hx := List.getElem?_eq_getElem hlt
        have hq1 : (k : Int) < (p.flows.length : Int) := by omega
        have hstep := mixL_step (f := nearF s) hx
        rcases hin with ⟨_, h0⟩ | ⟨g, cap, cur, ps, he, hg1, hcur, hrow, hps, hpp, hc1, hc2, hc3⟩
        · rw [h0] at hlt; simp at hlt
        simp only [Value.slice.injEq, true_and] at he
        obtain ⟨rfl, rfl⟩ := he
        have hpl : ps.length = p.flows.length := by rw [← List.length_map (·.1), hps, mixL_len]
        obtain ⟨u, hpk⟩ : ∃ u, ps[k]? = some (p.flows[k], u) := by
          have h1 : (ps.map (·.1))[k]? = some p.flows[k] := by rw [hps, mixL_at (Nat.le_refl _)]; exact hx
          rw [List.getElem?_map, List.getElem?_eq_getElem (by omega)] at h1
          simp only [Option.map_some, Option.some.injEq] at h1
          exact ⟨(ps[k]'(by omega)).2, by rw [List.getElem?_eq_getElem (show k < ps.length by omega)]; exact congrArg some (Prod.ext h1 rfl)⟩
        generalize p.flows[k] = x at *
        have t2 := (blk_cell hcur (k * 8 + 2)).trans (hrow k _ hpk 2 (by omega))
        simp only [flP, flC, List.getElem?_cons_zero, List.getElem?_cons_succ] at t2
        have f2 := blk_free hcur (k * 8 + 2)
        have hcur2 := blk_set hcur (k * 8 + 2) (.int .i64 s)
        have hrow2 := hrow.set (k := k) (j := 2) (x := (x, u)) (x' := (nearF s x, u)) (u := .int .i64 s) hpk (by omega) (by omega) (fun q hq hne => by match q, hq with | 0, _ => rfl | 1, _ => rfl | 2, _ => omega | 3, _ => rfl | 4, _ => rfl | 5, _ => rfl | 6, _ => rfl | 7, _ => rfl | q + 8, hq => omega) rfl
        have C2 : Chg (fun q => (Value.slice (some ⟨g, 0, none⟩) p.flows.length vfc).ownBlock = some q) V1 (wr.setCell ⟨g, k * 8 + 2, none⟩ (.int .i64 s)) := hC.setCell _ _ (.inl rfl)
        have HN2 : Hid (FlN w (wr.setCell ⟨g, k * 8 + 2, none⟩ (.int .i64 s)) W5.heap.size (k + 1) (nearF s) p.flows (.slice (some ⟨g, 0, none⟩) p.flows.length vfc)) := by
          show FlN _ _ _ _ _ _ _
          refine .inr ⟨g, vfc, _, _, rfl, hg1, hcur2, hrow2, by rw [List.map_set, hps]; exact hstep, fun q hq => ?_, hc1, hc2, by rw [Array.size_setIfInBounds]; exact hc3⟩
          rcases List.mem_or_eq_of_mem_set hq with hq | rfl
          · exact hpp q hq
          · have h9 : RdExV w 0 false x.body.args u := hpp (x, u) (List.mem_of_getElem? hpk)
            exact h9
        have H3 := Lib.hid C2
        clear hx hstep hpk hcur hrow hcur2 hrow2 C2 hps hpp
        go_wp2_with fail
        go_roundw
        case rel => exact ⟨k + 1, by omega, by go_num, HN2.out, H3.out⟩
        case measure => simp [intOf]; omega
      obtain rfl : k = p.flows.length := by omega
      have z2w := z2 _ hC
      have F9 := ew _ hC
      have HFN := Lib.hid hin
      have b9 := hC.heap HB8.out (fun hb => (HFBI.out _ hb).2.1 rfl)
      have HIN9 := Lib.hid (HIN.out.chg hC (fun g hg hb => (HFBI.out g hb).2.2 g hg rfl))
      clear z2 ew er hin HB8 F8 HIN
      obtain ⟨V2, rfl⟩ : ∃ V2 : World, V2 = wr := ⟨_, rfl⟩
      clear hC
      have y0 : ∀ X, Ext V2 X → X.cell? ⟨w.heap.size, 0, none⟩ = some (.int .i64 p.st) := fun X hX => (blk_cell (Ext.heap hX b9) 0).trans rfl
      have y1 : ∀ X, Ext V2 X → X.cell? ⟨w.heap.size, 1, none⟩ = some (.slice via p.ins.length vic) := fun X hX => (blk_cell (Ext.heap hX b9) 1).trans rfl
      have y2 : ∀ X, Ext V2 X → X.cell? ⟨w.heap.size, 2, none⟩ = some (.slice vfa p.flows.length vfc) := fun X hX => (blk_cell (Ext.heap hX b9) 2).trans rfl
      have y3 : ∀ X, Ext V2 X → X.cell? ⟨w.heap.size, 3, none⟩ = some (.slice ao p.outs.length co) := fun X hX => (blk_cell (Ext.heap hX b9) 3).trans rfl
      have er : Ext V2 V2 := Chg.refl _ _
      have HRQ : Hid (∀ X, Ext V2 X → RdPr X 0 false (nearP p s) #[.int .i64 p.st, .slice via p.ins.length vic, .slice vfa p.flows.length vfc, .slice ao p.outs.length co]) := by
        show ∀ X, _ → _
        intro X hX
        obtain ⟨_, _, _, i1, _, _, i4, _⟩ := HI.out
        obtain ⟨_, _, _, f1, _, _, _, _⟩ := HF.out
        have r1 := (HIN9.out.chg hX (fun _ _ h => h)).rd hs64 (fun i x hx => by obtain ⟨a, b, _⟩ := i4 i x hx; exact ⟨a, b⟩) i1
        have r2 := (HFN.out.chg hX (fun _ _ h => h)).rd (F9.trans hX) hs64 (fun i x hx => HF.out.fine hx) f1
        exact ⟨_, _, _, rfl, ⟨h64a, h64b⟩, r1, r2, HO.out.ext (F9.trans hX)⟩
      have HOF := Lib.hid (lateOf_any (nearP p s) _ V2 (HRQ.out V2 er))
      go_wp2_with fail
      refine HOF.out.mono ?_
      rintro e w10 ⟨l, v, n, hla, rfl, hv, E10⟩
      clear HOF
      by_cases hn : n = 0
      case neg =>
        have bn : (n != 0) = true := by simp [hn]
        obtain ⟨va, vc, rfl⟩ : ∃ va vc, v = .slice va 0 vc := by
          rcases hv with ⟨h, _⟩ | ⟨_, h⟩
          · exact absurd h hn
          · exact ⟨none, 0, h⟩
        clear hla hv hn
        go_wp2_with fail
        refine (HEND.out _ (F9.trans E10)).mono ?_
        rintro e w3 ⟨rfl, E3⟩
        go_wp2_with fail
        go_ret
        exact ⟨rfl, E3⟩
      subst hn
      obtain ⟨g, rfl, hg, hgb⟩ : LsV w10 V2.heap.size l v := by
        rcases hv with ⟨_, h⟩ | ⟨h, _⟩
        · exact h
        · exact absurd rfl h
      obtain ⟨hn0, hls⟩ := lateA_yes hla
      have hck : lateChk (nearP p s) l = true := lateChk_iff.2 ⟨hn0, hls.1⟩
      have HCK := Lib.hid hck
      have HN0 := Lib.hid hn0
      have HPR := Lib.hid (names_prog hn0)
      have hlen : l.length ≤ 1000000 := by
        have h1 := hls.1.1
        have h2 := (prog_ok (names_prog hn0)).2.1
        omega
      have hp8 := (progP_parts.1 (names_prog hn0)).1
      have hp8 : 1 ≤ p.st ∧ p.st ≤ 8 ∧ _ := hp8
      obtain ⟨_, hp8, hi64, hf128, _⟩ := hp8
      have hi64 : p.ins.length ≤ 64 := by simpa [nearP] using hi64
      have hf128 : p.flows.length ≤ 128 := by simpa [nearP] using hf128
      have HRL := Lib.hid (fun (X : World) (hX : Ext w10 X) => ints_rd (Ext.heap hX hgb) hls.1.2.1 hlen)
      have HPL := Lib.hid (fun (t : Int) (X : World) (hX : Ext w10 X) (ht : isI64 t) => places_any (nearP p s) _ l _ t X (HRQ.out X (E10.trans hX)) (HRL.out X hX) ht)
      have HSE := Lib.hid (fun (t : Int) (X : World) (hX : Ext w10 X) (ht : isI64 t) => by
        have := sends_any (nearP p s) _ t X (HRQ.out X (E10.trans hX)) ht
        rw [near_sends] at this
        exact this)
      have HNE := Lib.hid (fun (t : Int) (X : World) (hX : Ext w10 X) (ht : isI64 t) => by
        have := needs_any (nearP p s) _ t X (HRQ.out X (E10.trans hX)) ht
        rw [near_needs] at this
        exact this)
      have F10 := F9.trans E10
      have b10 := Ext.heap E10 b9
      have HIN10 := Lib.hid (HIN9.out.chg E10 (fun _ _ h => h))
      have HFN10 := Lib.hid (HFN.out.chg E10 (fun _ _ h => h))
      clear y0 y1 y2 y3 hv hla hn0 hls hck hg b9 z2w er
      have y0 : ∀ X, Ext w10 X → X.cell? ⟨w.heap.size, 0, none⟩ = some (.int .i64 p.st) := fun X hX => (blk_cell (Ext.heap hX b10) 0).trans rfl
      have y1 : ∀ X, Ext w10 X → X.cell? ⟨w.heap.size, 1, none⟩ = some (.slice via p.ins.length vic) := fun X hX => (blk_cell (Ext.heap hX b10) 1).trans rfl
      have y2 : ∀ X, Ext w10 X → X.cell? ⟨w.heap.size, 2, none⟩ = some (.slice vfa p.flows.length vfc) := fun X hX => (blk_cell (Ext.heap hX b10) 2).trans rfl
      have y3 : ∀ X, Ext w10 X → X.cell? ⟨w.heap.size, 3, none⟩ = some (.slice ao p.outs.length co) := fun X hX => (blk_cell (Ext.heap hX b10) 3).trans rfl
      have er : Ext w10 w10 := Chg.refl _ _
      clear b10
      go_wp2_with fail
      go_loopw [10] (fun i wr => ∃ k : Nat, (k : Int) ≤ p.st ∧ i = .int .i64 ((k : Int) + 1) ∧ Ext w10 wr) (fun i _ => 9 - (intOf i).toNat)
      case atStart => exact ⟨0, by omega, rfl, er⟩
      case round =>
        obtain ⟨k, hk, rfl, hE⟩ := hrel
        by_cases hlt : (k : Int) + 1 ≤ p.st
        case neg =>
          go_wp2_with fail
          refine (HEND.out _ (F10.trans hE)).mono ?_
          rintro e w3 ⟨rfl, E3⟩
          go_wp2_with fail
          go_ret
          exact ⟨rfl, E3⟩
        have hk64 : isI64 ((k : Int) + 1) := by unfold isI64; omega
        have hpl := HPL.out ((k : Int) + 1) wr hE hk64
        obtain ⟨pe, pq⟩ := places_ok HCK.out (st := (k : Int) + 1) (by omega) hlt
        unfold RetPl at hpl
        rw [pe, pq, near_all] at hpl
        have HK64 := Lib.hid hk64
        clear pe pq hk64
        by_cases hks : (k : Int) + 1 = s
        case neg =>
          have bk1 : ((k : Int) + 1 != s) = true := by simpa using hks
          have bk2 : ((k : Int) + 1 == s) = false := by simpa using hks
          rw [if_neg hks, List.map_nil] at hpl
          clear hks
          go_wp2_with fail
          refine hpl.mono ?_
          rintro e w11 ⟨pv, rfl, hpv, E11'⟩
          have E11 := hE.trans E11'
          obtain ⟨pa, pc, rfl, _⟩ := hpv.form
          simp only [List.length_nil]
          go_wp2_with fail
          refine (HSE.out _ _ E11 HK64.out).mono ?_
          rintro e w12 ⟨sv, rfl, hsv, E12'⟩
          have E12 := E11.trans E12'
          obtain ⟨sa, sc, rfl, _⟩ := hsv.form
          simp only [List.length_nil]
          go_wp2_with fail
          refine (HNE.out _ _ E12 HK64.out).mono ?_
          rintro e w13 ⟨nv, rfl, hnv, E13'⟩
          have E13 := E12.trans E13'
          obtain ⟨na, nc, rfl, _⟩ := hnv.form
          simp only [List.length_nil]
          clear hpl hpv hsv hnv E11 E11' E12 E12' E13'
          go_wp2_with fail
          obtain ⟨wo, rfl⟩ : ∃ wo : World, wo = wr := ⟨_, rfl⟩
          go_loopw [13] (fun i wr => i = .int .i64 0 ∧ wr = w13) (fun i _ => 1)
          case atStart => exact ⟨rfl, rfl⟩
          case round =>
            obtain ⟨rfl, rfl⟩ := hrel
            go_wp2_with fail
            go_roundw
            case rel => exact ⟨k + 1, by omega, by go_num, E13⟩
            case measure => simp [intOf]; omega
        have bk1 : ((k : Int) + 1 != s) = false := by simpa using hks
        have bk2 : ((k : Int) + 1 == s) = true := by simpa using hks
        rw [if_pos hks, hks] at hpl
        have hNL : ((namesT p).map (placeOf (nearP p s) l s)).length = p.ins.length + p.flows.length := by rw [List.length_map, names_len]
        have hNAT : ∀ i nm, (namesT p)[i]? = some nm → ∃ x : PlD, ((namesT p).map (placeOf (nearP p s) l s))[i]? = some x ∧ x.far = false ∧ x.name = nm := fun i nm hi => by
          refine ⟨placeOf (nearP p s) l s nm, by rw [List.getElem?_map, hi]; rfl, ?_⟩
          exact near_far HN0.out (by rw [near_all, if_pos rfl]; exact List.mem_of_getElem? hi)
        have HNAT := Lib.hid hNAT
        have HNL := Lib.hid hNL
        have HKS := Lib.hid hks
        clear hNAT hNL
        generalize (namesT p).map (placeOf (nearP p s) l s) = PL at *
        rw [← hks] at hpl
        clear hks
        go_wp2_with fail
        refine hpl.mono ?_
        rintro e w11 ⟨pv, rfl, hpv, E11'⟩
        have E11 := hE.trans E11'
        obtain ⟨pa, pc, rfl, _⟩ := hpv.form
        rw [HNL.out]
        rw [HNL.out] at hpv
        have HPV := Lib.hid hpv
        go_wp2_with fail
        refine (HSE.out _ _ E11 HK64.out).mono ?_
        rintro e w12 ⟨sv, rfl, hsv, E12'⟩
        have E12 := E11.trans E12'
        obtain ⟨sa, sc, rfl, _⟩ := hsv.form
        simp only [List.length_nil]
        go_wp2_with fail
        refine (HNE.out _ _ E12 HK64.out).mono ?_
        rintro e w13 ⟨nv, rfl, hnv, E13'⟩
        have E13 := E12.trans E13'
        obtain ⟨na, nc, rfl, _⟩ := hnv.form
        simp only [List.length_nil]
        have HPV13 := Lib.hid (HPV.out.ext (E12'.trans E13'))
        have bl : (((p.ins.length + p.flows.length : Nat) : Int) != (p.ins.length : Int) + (p.flows.length : Int)) = false := by simp
        clear hpl hpv hsv hnv E11 E11' E12 E12' E13' HPV
        go_wp2_with fail
        obtain ⟨wo, rfl⟩ : ∃ wo : World, wo = wr := ⟨_, rfl⟩
        go_loopw [13] (fun i wr => ∃ j : Nat, j ≤ p.ins.length + p.flows.length ∧ i = .int .i64 j ∧ wr = w13) (fun i _ => p.ins.length + p.flows.length - (intOf i).toNat)
        case atStart => exact ⟨0, Nat.zero_le _, rfl, rfl⟩
        case round =>
          obtain ⟨j, hj, rfl, rfl⟩ := hrel
          by_cases hlt2 : j < p.ins.length + p.flows.length
          case neg =>
            have hjI : ¬ ((j : Int) < ((p.ins.length : Int) + (p.flows.length : Int))) := by omega
            go_wp2_with fail
            go_roundw
            case rel => exact ⟨k + 1, by omega, by go_num, E13⟩
            case measure => simp [intOf]; omega
          have hjI : ((j : Int) < ((p.ins.length : Int) + (p.flows.length : Int))) := by omega
          by_cases hji : j < p.ins.length
          case pos =>
            have hx := List.getElem?_eq_getElem hji
            have hjI2 : (j : Int) < (p.ins.length : Int) := by omega
            obtain ⟨x, hx1, hx2, hx3⟩ := HNAT.out j _ (site_name (site_in hx))
            obtain ⟨pg, rfl, _, _, pcell⟩ := HPV13.out.get hx1
            have p0 := pcell 0 (by omega)
            have p3 := pcell 3 (by omega)
            simp only [plC, List.getElem?_cons_zero, List.getElem?_cons_succ, hx2, hx3, Nat.add_zero] at p0 p3
            rcases HIN10.out.chg E13 (fun _ _ h => h) with ⟨_, h0⟩ | ⟨gi, cap, cur, he, hg1, hcur, hrow, hc1, hc2, hc3⟩
            · rw [h0] at hji; simp at hji
            simp only [Value.slice.injEq, true_and] at he
            obtain ⟨rfl, rfl⟩ := he
            rw [mixL_full] at hrow
            have hmx : (p.ins.map (nearI s))[j]? = some (nearI s p.ins[j]) := by rw [List.getElem?_map, hx]; rfl
            have t0 : wr.cell? ⟨gi, j * 3, none⟩ = some (.string p.ins[j].name) := (blk_cell hcur (j * 3 + 0)).trans (hrow j _ hmx 0 (by omega))
            generalize p.ins[j].name = nm at *
            have bnm : (nm.toList == nm.toList) = true := by simp
            have bnm2 : (nm.toList != nm.toList) = false := by simp
            clear hx hx1 hx2 hx3 pcell hrow hcur hmx
            go_wp2_with fail
            go_roundw
            case rel => exact ⟨j + 1, by omega, by go_num, by trivial⟩
            case measure => simp [intOf]; omega
          have hji2 : ¬ (j : Int) < (p.ins.length : Int) := by omega
          obtain ⟨m, rfl⟩ : ∃ m, j = p.ins.length + m := ⟨j - p.ins.length, by omega⟩
          have hm : m < p.flows.length := by omega
          have hmI : (m : Int) < (p.flows.length : Int) := by omega
          have hx := List.getElem?_eq_getElem hm
          obtain ⟨x, hx1, hx2, hx3⟩ := HNAT.out _ _ (site_name (site_fl hx))
          obtain ⟨pg, rfl, _, _, pcell⟩ := HPV13.out.get hx1
          have p0 := pcell 0 (by omega)
          have p3 := pcell 3 (by omega)
          simp only [plC, List.getElem?_cons_zero, List.getElem?_cons_succ, hx2, hx3, Nat.add_zero] at p0 p3
          rcases HFN10.out.chg E13 (fun _ _ h => h) with ⟨_, h0⟩ | ⟨gf, cap, cur, ps, he, hg1, hcur, hrow, hps, hpp, hc1, hc2, hc3⟩
          · rw [h0] at hm; simp at hm
          simp only [Value.slice.injEq, true_and] at he
          obtain ⟨rfl, rfl⟩ := he
          rw [mixL_full] at hps
          have hpl2 : ps.length = p.flows.length := by rw [← List.length_map (·.1), hps, List.length_map]
          have hnmf : (ps[m]'(by omega)).1.name = p.flows[m].name := by
            have h1 : (ps.map (·.1))[m]? = some (nearF s p.flows[m]) := by rw [hps, List.getElem?_map, hx]; rfl
            rw [List.getElem?_map, List.getElem?_eq_getElem (by omega)] at h1
            simp only [Option.map_some, Option.some.injEq] at h1
            rw [h1]; rfl
          have t0 : wr.cell? ⟨gf, m * 8, none⟩ = some (.string p.flows[m].name) := by
            rw [← hnmf]
            exact (blk_cell hcur (m * 8 + 0)).trans (hrow m _ (List.getElem?_eq_getElem (by omega)) 0 (by omega))
          clear hnmf
          generalize p.flows[m].name = nm at *
          have bnm : (nm.toList == nm.toList) = true := by simp
          have bnm2 : (nm.toList != nm.toList) = false := by simp
          have m1 : IntKind.i64.wrap ((p.ins.length : Int) + (m : Int) - (p.ins.length : Int)) = (m : Int) := by rw [IntKind.wrap_i64] <;> omega
          have m2 : (p.ins.length : Int) + (m : Int) - (p.ins.length : Int) = (m : Int) := by omega
          clear hx hx1 hx2 hx3 pcell hrow hcur hps hpp
          go_wp2_with fail
          go_roundw
          case rel => exact ⟨p.ins.length + m + 1, by omega, by go_num, by trivial⟩
          case measure => simp [intOf]; omega
end Go.Proofs.Ytjdficgejjkaoaa
namespace Go.Proofs.Ytjdficgejjkaoaa.rowCutsNear
open Go.ChangeShapes Go.WideShapes Go.ChangeAt Go.RowKit Go.ChangeMaps
set_option linter.unusedVariables false
theorem own : ownKnob Try.prog.godebug = none := by kernel_rfl
theorem laidOut : laidOutB Try.prog = true := by kernel_rfl
set_option maxHeartbeats 4000000 in
set_option maxRecDepth 100000 in
theorem lifted (os : Os) (started : os.Started) (H : Type) (enc : TypeId × Value → H) :
    ReturnsInHanded {} Try.checked os 8 .any (Rows.cutsNearSpec.pre6 enc Try.prog Try.f8 Rows.cutsNearRow.domain false) (Rows.cutsNearSpec.post enc Try.prog Try.f8 false true false false) := by
  refine returnsInHanded_of_change_sized (C := Try.checked) own started (by kernel_rfl) Try.func8
    (ChangeSpec.witness6 (enc := enc) (C := Try.checked) false ⟨#[], #[.agg #[.int .i64 0, .slice none 0 0, .slice none 0 0, .slice none 0 0], .int .u8 0], []⟩ 8 (by kernel_rfl) (by kernel_rfl) (by kernel_rfl) (by kernel_rfl)) ?_
  intro W base args ds gs before hval0 hW hcnd hsz0 _
  have hval : ∀ (j : Nat) t v, Try.f8.params[j]? = some t → args[j]? = some v → Value.okWide Try.prog W .any base t v := hval0
  have hsz : (DataW.weightsEach Try.prog (Try.f8.params.toList ++ Rows.cutsNearSpec.plain.varTypes Try.prog) (ds ++ gs)).all (· ≤ reachBytes) = true := hsz0
  have hW' := hW
  obtain ⟨p, q, hA0, hV, rfl, hfz, hnd⟩ := hW
  have hA : DataW.TrodAll enc Try.prog W 0 (fun _ => true) true Try.f8.params.toList args.toList ds p := hA0
  rw [Try.params8] at hA hval hsz
  obtain ⟨v0, vs0, d0, ds0, p0, q0, hargs, rfl, rfl, h0, r0⟩ := trodAll_cons hA
  obtain ⟨v1, vs1, d1, ds1, p1, q1, rfl, rfl, rfl, h1, r1⟩ := trodAll_cons r0
  obtain ⟨rfl, rfl, rfl⟩ := trodAll_nil r1
  obtain rfl : args = #[v0, v1] := by cases args; simp_all
  obtain ⟨rfl, rfl⟩ := trodVars_none hV
  have k0 := h0
  have lt0 : ∀ x ∈ p0, x.block < W.heap.size := by obtain ⟨m, hm⟩ := k0; exact DataW.trod_lt m _ _ _ hm
  have l0 : Lite Try.prog 26 d0 := fun n hn => by simpa using List.all_eq_true.1 hsz n (DataW.weights_mem_each (j := 0) (t := 26) (d := d0) rfl rfl n hn)
  obtain ⟨pd0, cs0, rfl, hx0⟩ := pr_open (agg_of Try.underlying26 (hval 0 26 v0 rfl rfl)) h0 l0
  obtain ⟨a1, rfl, rfl, rfl, w1⟩ := open_int Try.underlying5 (hval 1 5 v1 rfl rfl) h1
  clear hA0 hval0 hsz0
  refine (cutsNear_any pd0 cs0 a1 W hx0 (wf_u8 w1)).mono fun e W' ⟨he, ext⟩ => ?_
  subst he
  have bel := Ext.below ext
  exact ⟨_, rfl, _, _, _, [], _, [], hW', trodAll_mk1 (shut_bool Try.underlying4 _),
    (trodAll_cons_mk (Below.trod laidOut (by kernel_rfl) (of_decide_eq_true (by kernel_rfl)) k0 bel lt0) (trodAll_cons_mk (shut_int Try.underlying5 w1) trodAll_mk0)), rfl, bel.frame _, fun h => by cases h⟩
theorem over : Rows.cutsNearRow.holds Try.pinned (OpenSpec.ofChange Rows.cutsNearSpec) :=
  OpenClaim.holds_of_wide 8 Try.f8 rfl rfl rfl rfl rfl rfl rfl ⟨rfl, rfl, rfl, rfl, rfl⟩ rfl rfl rfl rfl rfl (by kernel_rfl) Try.func8 (by kernel_rfl)
    (of_decide_eq_true (by kernel_rfl)) (by unfold Func.isWrapper; first | (rw [if_pos (by decide +kernel)]; kernel_rfl) | (rw [if_neg (by decide +kernel)]; exact ⟨rfl, rfl⟩))
    (fun os started H enc _ => lifted os started H enc)
theorem proved : Rows.CutsNearSaid := over
#print axioms proved
end Go.Proofs.Ytjdficgejjkaoaa.rowCutsNear
