/- What is proved: for every input the law CutsMeet returns true and leaves its arguments as they were. No condition. -/
import Derived.Test.YtjdficgejjkaoaaLives15
import Derived.Test.YtjdficgejjkaoaaRowF2
import Derived.Test.YtjdficgejjkaoaaExOwn
import Derived.Lib.AppendZeros
import Derived.Deep.Cut
import Derived.Deep.RegionHeld3
import Derived.BigQuiet
import Derived.Deep.QuietTactic
import Derived.Test.YtjdficgejjkaoaaOpenP
import Derived.OpenShut
import Derived.ShutString
import Derived.ChangeOld
import Derived.ChangeMaps5
namespace Go.Proofs.Ytjdficgejjkaoaa
open Go.RowKit
set_option linter.unusedVariables false
set_option linter.unusedSimpArgs false

theorem lateA_no {p : PrD} {l : List Int} {n : Int} (h : LateA p l n) (hn : n ≠ 0) : l = [] ∧ ((namesP p = 0 ∧ n = 10) ∨ (namesP p ≠ 0 ∧ n = namesP p)) := by
  unfold LateA at h
  split at h
  · rename_i h0
    rcases h with ⟨h1, _⟩ | ⟨h1, h2, _⟩
    · exact absurd h1 hn
    · exact ⟨h2, .inl ⟨h0, h1⟩⟩
  · rename_i h0
    exact ⟨h.2, .inr ⟨h0, h.1⟩⟩
theorem lateA_yes {p : PrD} {l : List Int} (h : LateA p l 0) : namesP p = 0 ∧ Least p l := by
  unfold LateA at h
  split at h
  · rename_i h0
    rcases h with ⟨_, h⟩ | ⟨h1, _⟩
    · exact ⟨h0, h⟩
    · cases h1
  · rename_i h0
    exact absurd h.1.symm h0
theorem great14_any (p : PrD) (cs : Array Value) (w : World) (h : RdPr w 0 false p cs) : Calls Try.prog 9 #[.agg cs] w (RetB w) := by
  have hp := fun w' (e : Ext w w') => progSize_any p cs w' (h.ext e)
  have HP := Lib.hid hp
  obtain ⟨ai, ci, af, cf, ao, co, rfl⟩ := pr_form h
  clear hp h
  have e0 := (Chg.refl (fun _ => False) w).alloc (.cells #[.int .i64 p.st, .slice ai p.ins.length ci, .slice af p.flows.length cf, .slice ao p.outs.length co] 26)
  have b0 := heap_alloc_new w (.cells #[.int .i64 p.st, .slice ai p.ins.length ci, .slice af p.flows.length cf, .slice ao p.outs.length co] 26)
  go_enter Try.func9, Try.ntmps9
  go_wp2_with fail
  generalize (w.alloc (.cells #[.int .i64 p.st, .slice ai p.ins.length ci, .slice af p.flows.length cf, .slice ao p.outs.length co] 26)) = W0 at *
  have y1 : ∀ X, Ext W0 X → X.cell? ⟨w.heap.size, 1, none⟩ = some (.slice ai p.ins.length ci) := fun X hX => (blk_cell (Ext.heap hX b0) 1).trans rfl
  have y2 : ∀ X, Ext W0 X → X.cell? ⟨w.heap.size, 2, none⟩ = some (.slice af p.flows.length cf) := fun X hX => (blk_cell (Ext.heap hX b0) 2).trans rfl
  have y3 : ∀ X, Ext W0 X → X.cell? ⟨w.heap.size, 3, none⟩ = some (.slice ao p.outs.length co) := fun X hX => (blk_cell (Ext.heap hX b0) 3).trans rfl
  refine (HP.out _ e0).mono ?_
  rintro e w1 ⟨m, rfl, E1⟩
  go_wp2_with fail
  all_goals (go_ret; exact ⟨_, rfl, e0.trans E1⟩)
theorem chg_extN {S : Nat → Prop} {w w1 w2 : World} (h : Chg S w w1) (e : Ext w1 w2) : Chg S w w2 := h.trans (e.mono (fun _ _ h => h.elim))
/-- The first k turned, the others as they were. -/
def mixL {α : Type} (f : α → α) (k : Nat) (l : List α) : List α := (l.take k).map f ++ l.drop k
theorem mixL_zero {α : Type} (f : α → α) (l : List α) : mixL f 0 l = l := by simp [mixL]
theorem mixL_len {α : Type} (f : α → α) (k : Nat) (l : List α) : (mixL f k l).length = l.length := by
  simp [mixL]; omega
theorem mixL_full {α : Type} (f : α → α) (l : List α) : mixL f l.length l = l.map f := by simp [mixL]
theorem mixL_at {α : Type} {f : α → α} {k i : Nat} {l : List α} (h : k ≤ i) : (mixL f k l)[i]? = l[i]? := by
  unfold mixL
  by_cases hk : k ≤ l.length
  · rw [List.getElem?_append_right (by simp; omega), List.length_map, List.length_take, List.getElem?_drop, show k + (i - min k l.length) = i from by omega]
  · rw [List.getElem?_eq_none (by simp; omega), List.getElem?_eq_none (by omega)]
theorem mixL_low {α : Type} {f : α → α} {k i : Nat} {l : List α} (h : i < k) : (mixL f k l)[i]? = (l[i]?).map f := by
  unfold mixL
  by_cases hi : i < l.length
  · rw [List.getElem?_append_left (by simp; omega), List.getElem?_map, List.getElem?_take, if_pos h]
  · rw [List.getElem?_eq_none (by simp; omega), List.getElem?_eq_none (by omega)]; rfl
theorem mixL_step {α : Type} {f : α → α} {k : Nat} {l : List α} {x : α} (h : l[k]? = some x) : (mixL f k l).set k (f x) = mixL f (k + 1) l := by
  have hk := (List.getElem?_eq_some_iff.1 h).1
  apply List.ext_getElem?
  intro i
  rcases Nat.lt_trichotomy i k with hi | rfl | hi
  · rw [List.getElem?_set_ne (by omega), mixL_low hi, mixL_low (by omega)]
  · rw [List.getElem?_set_self (by rw [mixL_len]; exact hk), mixL_low (by omega), h]; rfl
  · rw [List.getElem?_set_ne (by omega), mixL_at (by omega), mixL_at (by omega)]
/-- What comes from without, in a row of one's own: the first k turned. -/
def InN (W : World) (base k : Nat) (f : InD → InD) (l : List InD) (v : Value) : Prop := (v = .slice none 0 0 ∧ l = []) ∨ ∃ (g cap : Nat) (cur : Array Value), v = .slice (some ⟨g, 0, none⟩) l.length cap ∧ base ≤ g ∧ W.heap[g]? = some (.cells cur 59 (0, 0)) ∧ RowOf inC 3 cur (mixL f k l) ∧ l.length ≤ cap ∧ cap ≤ maxLen ∧ l.length * 3 ≤ cur.size
/-- Flows, in a row of one's own: the first k turned; their parts lie in an elder world. -/
def FlN (w0 W : World) (base k : Nat) (f : FlD → FlD) (l : List FlD) (v : Value) : Prop := (v = .slice none 0 0 ∧ l = []) ∨ ∃ (g cap : Nat) (cur : Array Value) (ps : List (FlD × Value)), v = .slice (some ⟨g, 0, none⟩) l.length cap ∧ base ≤ g ∧ W.heap[g]? = some (.cells cur 55 (0, 0)) ∧ RowOf flP 8 cur ps ∧
  ps.map (·.1) = mixL f k l ∧ (∀ q, q ∈ ps → RdExV w0 0 false q.1.body.args q.2) ∧ l.length ≤ cap ∧ cap ≤ maxLen ∧ l.length * 8 ≤ cur.size
theorem InN.chg {W W' : World} {base k : Nat} {f : InD → InD} {l : List InD} {v : Value} {S : Nat → Prop} (h : InN W base k f l v) (hc : Chg S W W') (hS : ∀ g, v.ownBlock = some g → ¬ S g) : InN W' base k f l v := by
  rcases h with h | ⟨g, cap, cur, h1, h2, h3, h4⟩
  · exact .inl h
  · exact .inr ⟨g, cap, cur, h1, h2, hc.heap h3 (hS g (by rw [h1]; rfl)), h4⟩
theorem FlN.chg {w0 W W' : World} {base k : Nat} {f : FlD → FlD} {l : List FlD} {v : Value} {S : Nat → Prop} (h : FlN w0 W base k f l v) (hc : Chg S W W') (hS : ∀ g, v.ownBlock = some g → ¬ S g) : FlN w0 W' base k f l v := by
  rcases h with h | ⟨g, cap, cur, ps, h1, h2, h3, h4⟩
  · exact .inl h
  · exact .inr ⟨g, cap, cur, ps, h1, h2, hc.heap h3 (hS g (by rw [h1]; rfl)), h4⟩
theorem InN.form {W : World} {base k : Nat} {f : InD → InD} {l : List InD} {v : Value} (h : InN W base k f l v) : ∃ a cap, v = .slice a l.length cap := by
  rcases h with ⟨h0, rfl⟩ | ⟨g, cap, cur, h1, _⟩
  · exact ⟨none, 0, h0⟩
  · exact ⟨_, _, h1⟩
theorem FlN.form {w0 W : World} {base k : Nat} {f : FlD → FlD} {l : List FlD} {v : Value} (h : FlN w0 W base k f l v) : ∃ a cap, v = .slice a l.length cap := by
  rcases h with ⟨h0, rfl⟩ | ⟨g, cap, cur, ps, h1, _⟩
  · exact ⟨none, 0, h0⟩
  · exact ⟨_, _, h1⟩
theorem InN.lt {W : World} {base k : Nat} {f : InD → InD} {l : List InD} {v : Value} (h : InN W base k f l v) : ∀ g, v.ownBlock = some g → base ≤ g ∧ g < W.heap.size := by
  rcases h with ⟨rfl, _⟩ | ⟨g, cap, cur, rfl, h2, h3, _⟩
  · intro g hg; cases hg
  · intro g' hg
    simp only [Value.ownBlock, Option.some.injEq] at hg
    subst hg
    exact ⟨h2, lt_of_block h3⟩
theorem FlN.lt {w0 W : World} {base k : Nat} {f : FlD → FlD} {l : List FlD} {v : Value} (h : FlN w0 W base k f l v) : ∀ g, v.ownBlock = some g → base ≤ g ∧ g < W.heap.size := by
  rcases h with ⟨rfl, _⟩ | ⟨g, cap, cur, ps, rfl, h2, h3, _⟩
  · intro g hg; cases hg
  · intro g' hg
    simp only [Value.ownBlock, Option.some.injEq] at hg
    subst hg
    exact ⟨h2, lt_of_block h3⟩
theorem InN.of {W : World} {base : Nat} {f : InD → InD} {l : List InD} {v : Value} (h : W.ownsRow base 59 3 v l.length (l.flatMap inC)) : InN W base 0 f l v := by
  have h0 := h
  rcases h.2 with ⟨h1, h2⟩ | ⟨g, cap, cur, h1, h2, _⟩
  · exact .inl ⟨h1, List.length_eq_zero_iff.1 h2⟩
  · subst h1
    obtain ⟨cur, a1, a2, a3, a4, a5, a6⟩ := RowOf.own (r := []) inC_len (by simpa using h0)
    have := Nat.mul_le_mul_right 3 a4
    exact .inr ⟨g, cap, cur, rfl, a6, a1, by rw [mixL_zero]; exact a3, a4, a5, by omega⟩
theorem FlN.of {w0 W : World} {base : Nat} {f : FlD → FlD} {l : List FlD} {ps : List (FlD × Value)} {v : Value} (hps : ps.map (·.1) = l) (hp : ∀ q, q ∈ ps → RdExV w0 0 false q.1.body.args q.2) (h : W.ownsRow base 55 8 v l.length (ps.flatMap flP)) : FlN w0 W base 0 f l v := by
  have h0 := h
  rcases h.2 with ⟨h1, h2⟩ | ⟨g, cap, cur, h1, h2, _⟩
  · exact .inl ⟨h1, List.length_eq_zero_iff.1 h2⟩
  · subst h1
    obtain ⟨cur, a1, a2, a3, a4, a5, a6⟩ := RowOf.own (r := []) flP_len (by simpa using h0)
    have := Nat.mul_le_mul_right 8 a4
    exact .inr ⟨g, cap, cur, ps, rfl, a6, a1, a3, by rw [mixL_zero]; exact hps, hp, a4, a5, by omega⟩
theorem InN.rd {W : World} {base : Nat} {s : Int} {l : List InD} {v : Value} (h : InN W base l.length (nearI s) l v) (hs : isI64 s) (hl : ∀ (i : Nat) (x : InD), l[i]? = some x → x.name.size ≤ maxLen ∧ isU8 x.ty) (hf : fitsR l.length 32) : RdInV W 0 false (l.map (nearI s)) v := by
  rcases h with ⟨rfl, rfl⟩ | ⟨g, cap, cur, rfl, _, h3, h4, h5, h6, h7⟩
  · exact ⟨none, 0, rfl, hf, Nat.zero_le _, Nat.zero_le _, fun i x hx => by simp at hx, fun h => by cases h⟩
  · rw [mixL_full] at h4
    have := h4.rdIn h3 (fun x hx => by
      obtain ⟨y, hy, rfl⟩ := List.mem_map.1 hx
      obtain ⟨i, hi, rfl⟩ := List.getElem_of_mem hy
      obtain ⟨a, b⟩ := hl i _ (List.getElem?_eq_getElem hi)
      exact ⟨a, b, hs⟩) (by rw [List.length_map]; exact h5) h6 (by rw [List.length_map]; exact hf)
    rw [List.length_map] at this
    exact this
theorem FlN.rd {w0 W : World} {base : Nat} {s : Int} {l : List FlD} {v : Value} (h : FlN w0 W base l.length (nearF s) l v) (hE : Ext w0 W) (hs : isI64 s) (hl : ∀ (i : Nat) (x : FlD), l[i]? = some x → FlFine x) (hf : fitsR l.length 96) : RdFlV W 0 false (l.map (nearF s)) v := by
  rcases h with ⟨rfl, rfl⟩ | ⟨g, cap, cur, ps, rfl, _, h3, h4, h8, h9, h5, h6, h7⟩
  · exact ⟨none, 0, rfl, hf, Nat.zero_le _, Nat.zero_le _, fun i x hx => by simp at hx, fun h => by cases h⟩
  · rw [mixL_full] at h8
    have hpl : ps.length = l.length := by rw [← List.length_map (·.1), h8, List.length_map]
    have := h4.rdFl h3 hE (fun q hq => by
      refine ⟨?_, h9 q hq⟩
      have hm : q.1 ∈ l.map (nearF s) := by rw [← h8]; exact List.mem_map.2 ⟨q, hq, rfl⟩
      obtain ⟨y, hy, e⟩ := List.mem_map.1 hm
      obtain ⟨i, hi, rfl⟩ := List.getElem_of_mem hy
      obtain ⟨a1, a2, a3, a4, a5, a6, a7⟩ := hl i _ (List.getElem?_eq_getElem hi)
      rw [← e]
      exact ⟨a1, a2, hs, a4, a5, a6, a7⟩) (by omega) h6 (by rw [hpl]; exact hf)
    rw [h8, hpl] at this
    exact this
theorem append_none {t e : TypeId} {i : TypeInfo} (ht : Try.prog.underlying t = some (.slice e)) (hi : Try.prog.info? e = some i) (a : Option Addr) (cap : Nat) (ty : TypeId) (w : World) : (Builtin.append_ #[t, t] ty #[.slice none 0 0, .slice a 0 cap]).run Try.prog w = .ok (.slice none 0 0) w := by
  cases a <;> simp [Builtin.append_, run_underlying ht, sizeOf, typeInfo, hi, Builtin.lenOf, Builtin.firstCells, storeCells, loadCells, loadCellsFrom]
theorem RdInV.flat {w : World} {lo : Nat} {t : Bool} {l : List InD} {b o cap n : Nat} (h : RdInV w lo t l (.slice (some ⟨b, o, none⟩) n cap)) : ∀ j u, (l.flatMap inC)[j]? = some u → w.cell? ((⟨b, o, none⟩ : Addr).add j) = some u := by
  intro j u hj
  have hlt : j < (l.flatMap inC).length := (List.getElem?_eq_some_iff.1 hj).1
  rw [flat_len inC_len] at hlt
  have hi : j / 3 < l.length := by omega
  have hp := List.getElem?_eq_getElem hi
  have h1 := flat_at inC_len [] hp (j := j % 3) (by omega)
  rw [List.append_nil, show j / 3 * 3 + j % 3 = j from by omega, hj] at h1
  obtain ⟨_, _, e, _, _, _, hr, _⟩ := h
  simp only [Value.slice.injEq] at e
  obtain ⟨rfl, _, _⟩ := e
  obtain ⟨_, _, _, b', o', ha, _, _, c0, c1, c2⟩ := hr _ _ hp
  simp only [Option.some.injEq, Addr.mk.injEq, and_true] at ha
  obtain ⟨rfl, rfl⟩ := ha
  have e2 : (⟨b, o, none⟩ : Addr).add j = ⟨b, o + j, none⟩ := by
    unfold Addr.add; split
    · rename_i h; subst h; rfl
    · rfl
  rw [e2, h1]
  have hm : j % 3 = 0 ∨ j % 3 = 1 ∨ j % 3 = 2 := by omega
  rcases hm with hm | hm | hm
  · rw [show o + j = o + j / 3 * 3 from by omega, c0, hm]; rfl
  · rw [show o + j = o + j / 3 * 3 + 1 from by omega, c1, hm]; rfl
  · rw [show o + j = o + j / 3 * 3 + 2 from by omega, c2, hm]; rfl
theorem inC_one {l : List InD} : ∀ u ∈ l.flatMap inC, u.oneCell' = true := by
  intro u hu
  obtain ⟨x, _, hu⟩ := List.mem_flatMap.1 hu
  simp only [inC, List.mem_cons, List.not_mem_nil, or_false] at hu
  rcases hu with rfl | rfl | rfl <;> rfl
/-- Flows that lie in memory, as pairs, cell by cell. -/
theorem RdFlV.flat {w : World} {lo : Nat} {t : Bool} {l : List FlD} {b o cap n : Nat} (h : RdFlV w lo t l (.slice (some ⟨b, o, none⟩) n cap)) : ∃ ps : List (FlD × Value), ps.map (·.1) = l ∧ (∀ q, q ∈ ps → RdExV w lo t q.1.body.args q.2) ∧ ∀ j u, (ps.flatMap flP)[j]? = some u → w.cell? ((⟨b, o, none⟩ : Addr).add j) = some u := by
  obtain ⟨_, _, e, _, _, _, hr, _⟩ := h
  simp only [Value.slice.injEq] at e
  obtain ⟨rfl, _, _⟩ := e
  have key : ∀ (m : List FlD) (k : Nat), (∀ i x, m[i]? = some x → l[k + i]? = some x) → ∃ ps : List (FlD × Value), ps.map (·.1) = m ∧ (∀ q, q ∈ ps → RdExV w lo t q.1.body.args q.2) ∧ ∀ (i : Nat) (q : FlD × Value), ps[i]? = some q → ∀ c, c < 8 → w.cell? ⟨b, o + (k + i) * 8 + c, none⟩ = (flP q)[c]? := by
    intro m
    induction m with
    | nil => intro k _; exact ⟨[], rfl, fun q hq => by simp at hq, fun i q hq => by simp at hq⟩
    | cons y r ih =>
      intro k hm
      obtain ⟨ps, h1, h2, h3⟩ := ih (k + 1) (fun i x hx => by rw [show k + 1 + i = k + (i + 1) from by omega]; exact hm (i + 1) x (by simpa using hx))
      obtain ⟨_, _, _, _, b', o', ha, _, _, c0, c1, c2, c3, _, _, _, v, hv, c4, c5, c6, c7⟩ := hr (k + 0) y (hm 0 y rfl)
      simp only [Option.some.injEq, Addr.mk.injEq, and_true] at ha
      obtain ⟨rfl, rfl⟩ := ha
      refine ⟨(y, v) :: ps, by simp [h1], fun q hq => ?_, fun i q hq c hc => ?_⟩
      · rcases List.mem_cons.1 hq with rfl | hq
        · exact hv
        · exact h2 q hq
      · cases i with
        | zero =>
          simp only [List.getElem?_cons_zero, Option.some.injEq] at hq
          subst hq
          match c, hc with
          | 0, _ => exact c0
          | 1, _ => exact c1
          | 2, _ => exact c2
          | 3, _ => exact c3
          | 4, _ => exact c4
          | 5, _ => exact c5
          | 6, _ => exact c6
          | 7, _ => exact c7
          | c + 8, hc => omega
        | succ i =>
          have := h3 i q (by simpa using hq) c hc
          rw [show k + 1 + i = k + (i + 1) from by omega] at this
          exact this
  obtain ⟨ps, h1, h2, h3⟩ := key l 0 (fun i x hx => by rw [Nat.zero_add]; exact hx)
  refine ⟨ps, h1, h2, fun j u hj => ?_⟩
  have hlt : j < (ps.flatMap flP).length := (List.getElem?_eq_some_iff.1 hj).1
  rw [flat_len flP_len] at hlt
  have hi : j / 8 < ps.length := by omega
  have hp := List.getElem?_eq_getElem hi
  have h4 := flat_at flP_len [] hp (j := j % 8) (by omega)
  rw [List.append_nil, show j / 8 * 8 + j % 8 = j from by omega, hj] at h4
  have h5 := h3 _ _ hp (j % 8) (by omega)
  rw [Nat.zero_add, show o + j / 8 * 8 + j % 8 = o + j from by omega, ← h4] at h5
  have e2 : (⟨b, o, none⟩ : Addr).add j = ⟨b, o + j, none⟩ := by
    unfold Addr.add; split
    · rename_i h; subst h; rfl
    · rfl
  rw [e2]
  exact h5
theorem flP_one {w : World} {lo : Nat} {t : Bool} {ps : List (FlD × Value)} (h : ∀ q, q ∈ ps → RdExV w lo t q.1.body.args q.2) : ∀ u ∈ ps.flatMap flP, u.oneCell' = true := by
  intro u hu
  obtain ⟨q, hq, hu⟩ := List.mem_flatMap.1 hu
  have := slice_one (h q hq)
  simp only [flP, flC, List.mem_cons, List.not_mem_nil, or_false] at hu
  rcases hu with rfl | rfl | rfl | rfl | rfl | rfl | rfl | rfl
  · rfl
  · rfl
  · rfl
  · rfl
  · rfl
  · rfl
  · rfl
  · exact this
end Go.Proofs.Ytjdficgejjkaoaa
namespace Go.Proofs.Ytjdficgejjkaoaa
open Go.RowKit
set_option linter.unusedVariables false
set_option linter.unusedSimpArgs false

theorem StV.rows {w : World} {base : Nat} {l : List ByteArray} {v : Value} (h : StV w base l v) : ∀ g, v.ownBlock = some g → base ≤ g := by
  rcases h with ⟨rfl, _⟩ | ⟨g, cap, cur, rfl, h2, _⟩
  · intro g hg; cases hg
  · intro g' hg
    simp only [Value.ownBlock, Option.some.injEq] at hg
    subst hg
    exact h2
theorem needL_len {p : PrD} (hp : progP p = true) (n : Nat) : (needL p n).length ≤ n * 1536 := by
  induction n with
  | zero => simp [needL]
  | succ n ih =>
    rw [needL_snoc, List.length_append]
    have := needs_len hp ((n : Int) + 1)
    omega
/-- The members, as they come. -/
def SameM (L : List ByteArray) (R : List ByteArray) : Prop := ∀ x, x ∈ L ↔ x ∈ R
theorem SameM.add {L R : List ByteArray} {s : ByteArray} (h : SameM L R) : SameM (addN L s) (R ++ [s]) := by
  intro x
  unfold addN
  rw [List.mem_append, List.mem_singleton, ← h x]
  split
  · rename_i hm
    constructor
    · exact .inl
    · rintro (h | rfl)
      · exact h
      · exact any_mem.1 hm
  · rw [List.mem_append, List.mem_singleton]
/-- What a place's name means. -/
theorem meet_place {p : PrD} (h : namesP p = 0) {l : List Int} {s : Int} {nm : ByteArray} (hm : nm ∈ allN p s) :
    findP nm p.flows p.ins = (stOf p nm, tyOf p nm, flOf p nm, true) ∧ (placeOf p l s nm).name = nm ∧ (placeOf p l s nm).ty = tyOf p nm ∧ (placeOf p l s nm).far = ((needsP p s).any fun q => decide (q = nm)) ∧
    ((placeOf p l s nm).far = (stOf p nm != s)) ∧ ((placeOf p l s nm).far = true → (placeOf p l s nm).frm = stOf p nm) := by
  have hth := all_there h hm
  have hfar := all_far h hm
  refine ⟨by have : (findP nm p.flows p.ins).2.2.2 = true := hth; unfold stOf tyOf flOf; rw [← this], ?_⟩
  by_cases hs : stOf p nm = s
  · rw [place_near hs]
    have hn : ((needsP p s).any fun q => decide (q = nm)) = false := by
      cases hb : ((needsP p s).any fun q => decide (q = nm))
      · rfl
      · exact absurd hs (hfar.1 (any_mem.1 hb))
    exact ⟨rfl, rfl, hn.symm, by simp [hs], fun h => by cases h⟩
  · rw [place_far hs]
    have hn : ((needsP p s).any fun q => decide (q = nm)) = true := any_mem.2 (hfar.2 hs)
    exact ⟨rfl, rfl, hn.symm, by simp [hs], fun _ => rfl⟩
theorem has_same (l : List ByteArray) (base : Nat) (v : Value) (s : ByteArray) (w : World) (h : StV w base l v) (hn : l.length ≤ 1000000) : Calls Try.prog 29 #[v, .string s] w fun e w' => e = .returned (.bool (l.any fun q => decide (q = s))) ∧ w' = w := by
  have H := Lib.hid h
  obtain ⟨a, cap, rfl, _⟩ := h.form
  clear h
  generalize hA : (l.any fun q => decide (q = s)) = A
  have HA := Lib.hid hA
  clear hA
  go_enter Try.func29, Try.ntmps29
  go_wp2_with fail
  go_loop [5] (fun i => ∃ k : Nat, k ≤ l.length ∧ i = .int .i64 k ∧ ∀ j t, j < k → l[j]? = some t → t ≠ s) (fun i => l.length - (intOf i).toNat)
  case atStart => exact ⟨0, Nat.zero_le _, rfl, fun j t hj => absurd hj (Nat.not_lt_zero _)⟩
  case round =>
    obtain ⟨k, hk, rfl, hall⟩ := hrel
    have HALL := Lib.hid hall
    clear hall
    by_cases hlt : k < l.length
    · have hx := List.getElem?_eq_getElem hlt
      have q1 : (k : Int) < (l.length : Int) := by omega
      obtain ⟨g, rfl, _, _, c0⟩ := H.out.get hx
      have HX := Lib.hid hx
      generalize l[k] = t at *
      clear hx
      cases hb : (t.toList == s.toList)
      · have HL2 := Lib.hid (fun j u (hj : j < k + 1) (hu : l[j]? = some u) => (by
          by_cases hjk : j < k
          · exact HALL.out j u hjk hu
          · obtain rfl : j = k := by omega
            rw [HX.out] at hu
            obtain rfl := Option.some.inj hu
            exact str_ne hb : u ≠ s))
        go_wp2_with fail
        go_round
        case rel => exact ⟨k + 1, by omega, by go_num, HL2.out⟩
        case measure => simp [intOf]; omega
      · have HT : Hid (A = true) := by
          show _ = _
          rw [← HA.out, List.any_eq_true]
          exact ⟨t, List.mem_of_getElem? HX.out, by simpa using str_eq.1 hb⟩
        go_wp2_with fail
        go_ret
        exact ⟨by rw [HT.out]; rfl, rfl⟩
    · obtain rfl : k = l.length := by omega
      have HT : Hid (A = false) := by
        show _ = _
        rw [← HA.out, List.any_eq_false]
        intro t ht
        obtain ⟨j, hj, rfl⟩ := List.getElem_of_mem ht
        simpa using HALL.out j _ hj (List.getElem?_eq_getElem hj)
      go_wp2_with fail
      go_ret
      exact ⟨by rw [HT.out]; rfl, rfl⟩
set_option maxRecDepth 100000 in
set_option maxHeartbeats 8000000 in
theorem cutsMeet_any (p : PrD) (cs : Array Value) (w : World) (h : RdPr w 0 false p cs) : Calls Try.prog 7 #[.agg cs] w (RetT w) := by
  have HP := Lib.hid h
  obtain ⟨ai, ci, af, cf, ao, co, rfl⟩ := pr_form h
  have hst64 : isI64 p.st := by obtain ⟨_, _, _, _, h, _⟩ := h; exact h
  clear h
  have HLV := Lib.hid lives15_any
  have e0 := (Chg.refl (fun _ => False) w).alloc (.cells #[.int .i64 p.st, .slice ai p.ins.length ci, .slice af p.flows.length cf, .slice ao p.outs.length co] 26)
  have b0 := heap_alloc_new w (.cells #[.int .i64 p.st, .slice ai p.ins.length ci, .slice af p.flows.length cf, .slice ao p.outs.length co] 26)
  go_enter Try.func7, Try.ntmps7
  go_upto_region 1 with (fail)
  generalize (w.alloc (.cells #[.int .i64 p.st, .slice ai p.ins.length ci, .slice af p.flows.length cf, .slice ao p.outs.length co] 26)) = W0 at *
  have y0 : ∀ X, Ext W0 X → X.cell? ⟨w.heap.size, 0, none⟩ = some (.int .i64 p.st) := fun X hX => (blk_cell (Ext.heap hX b0) 0).trans rfl
  have y1 : ∀ X, Ext W0 X → X.cell? ⟨w.heap.size, 1, none⟩ = some (.slice ai p.ins.length ci) := fun X hX => (blk_cell (Ext.heap hX b0) 1).trans rfl
  have y2 : ∀ X, Ext W0 X → X.cell? ⟨w.heap.size, 2, none⟩ = some (.slice af p.flows.length cf) := fun X hX => (blk_cell (Ext.heap hX b0) 2).trans rfl
  have y3 : ∀ X, Ext W0 X → X.cell? ⟨w.heap.size, 3, none⟩ = some (.slice ao p.outs.length co) := fun X hX => (blk_cell (Ext.heap hX b0) 3).trans rfl
  have er : Ext W0 W0 := Chg.refl _ _
  have HEND : Hid (∀ (X : World), Ext w X → Calls Try.prog 24 #[] X fun e w' => e = .returned (.bool true) ∧ Ext w w') := by
    show ∀ X, _ → _
    intro X hX
    exact (HLV.out X).mono (fun e w' h => ⟨h.1, hX.trans h.2⟩)
  have HG := Lib.hid (great14_any p _ W0 (HP.out.ext e0))
  have HB0 := Lib.hid b0
  clear HLV b0
  go_wp2_with fail
  refine HG.out.mono ?_
  rintro e w1 ⟨gb, rfl, E1⟩
  have F1 := e0.trans E1
  clear HG
  cases gb
  case true =>
    go_wp2_with fail
    refine (HEND.out _ F1).mono ?_
    rintro e w3 ⟨rfl, E3⟩
    go_wp2_with fail
    go_ret
    exact ⟨rfl, E3⟩
  have HOF := Lib.hid (lateOf_any p _ w1 (HP.out.ext F1))
  go_wp2_with fail
  refine HOF.out.mono ?_
  rintro e w2 ⟨l, v, n, hla, rfl, hv, E2'⟩
  have E2 := E1.trans E2'
  have F2 := e0.trans E2
  clear HOF
  by_cases hn : n = 0
  case neg =>
    have bn : (n != 0) = true := by simp [hn]
    obtain ⟨va, vc, rfl⟩ : ∃ va vc, v = .slice va 0 vc := by
      rcases hv with ⟨h, _⟩ | ⟨_, h⟩
      · exact absurd h hn
      · exact ⟨none, 0, h⟩
    clear hla hv hn
    go_wp2_with fail
    refine (HEND.out _ F2).mono ?_
    rintro e w3 ⟨rfl, E3⟩
    go_wp2_with fail
    go_ret
    exact ⟨rfl, E3⟩
  subst hn
  obtain ⟨g, rfl, hg, hgb⟩ : LsV w2 w1.heap.size l v := by
    rcases hv with ⟨_, h⟩ | ⟨h, _⟩
    · exact h
    · exact absurd rfl h
  obtain ⟨hn0, hls⟩ := lateA_yes hla
  have hck : lateChk p l = true := lateChk_iff.2 ⟨hn0, hls.1⟩
  have HCK := Lib.hid hck
  have HN0 := Lib.hid hn0
  have HPR := Lib.hid (names_prog hn0)
  have hlen : l.length ≤ 1000000 := by
    have h1 := hls.1.1
    have h2 := (prog_ok (names_prog hn0)).2.1
    omega
  obtain ⟨hp1, hp8, _⟩ := (progP_parts.1 (names_prog hn0)).1
  have HRL := Lib.hid (fun (X : World) (hX : X.heap[g]? = w2.heap[g]?) => ints_rd (hX.trans hgb) hls.1.2.1 hlen)
  have hmm := @run_makeMap Try.prog
  have e3 := (Chg.refl (fun _ => False) w2).alloc (.map #[] 0)
  have hM := MkV.made w2
  have E3 := E2.trans e3
  have F3 := e0.trans E3
  have hgM := lt_of_block hgb
  have hPM : w.heap.size < w2.heap.size := lt_of_block (Ext.heap E2 HB0.out)
  have b3 := Ext.heap E3 HB0.out
  have hgV : (w2.alloc (.map #[] 0)).heap[g]? = w2.heap[g]? := e3.block g hgM (fun h => h)
  clear hv hla hn0 hls hck hg E2'
  go_upto_region 8 with (fail)
  generalize hV : w2.alloc (.map #[] 0) = V at *
  generalize hMs : w2.heap.size = M at *
  have HW2 := Lib.hid (show w2.heap.size = M from hMs)
  replace y0 : ∀ X, Chg (fun q => q = M) V X → X.cell? ⟨w.heap.size, 0, none⟩ = some (.int .i64 p.st) := fun X hX => (blk_cell (hX.heap b3 (by omega)) 0).trans rfl
  replace y1 : ∀ X, Chg (fun q => q = M) V X → X.cell? ⟨w.heap.size, 1, none⟩ = some (.slice ai p.ins.length ci) := fun X hX => (blk_cell (hX.heap b3 (by omega)) 1).trans rfl
  replace y2 : ∀ X, Chg (fun q => q = M) V X → X.cell? ⟨w.heap.size, 2, none⟩ = some (.slice af p.flows.length cf) := fun X hX => (blk_cell (hX.heap b3 (by omega)) 2).trans rfl
  replace y3 : ∀ X, Chg (fun q => q = M) V X → X.cell? ⟨w.heap.size, 3, none⟩ = some (.slice ao p.outs.length co) := fun X hX => (blk_cell (hX.heap b3 (by omega)) 3).trans rfl
  have erM : Chg (fun q => q = M) V V := Chg.refl _ _
  have ew : ∀ X, Chg (fun q => q = M) V X → Ext w X := fun X hX => ⟨hX.os.trans F3.os, hX.tape.trans F3.tape, hX.output.trans F3.output, Nat.le_trans F3.size hX.size, fun b hb _ => (hX.block b (by have := F3.size; omega) (fun h => by omega)).trans (F3.block b hb (fun h => h))⟩
  have HRX := Lib.hid (fun (X : World) (hX : Chg (fun q => q = M) V X) => HRL.out X ((hX.block g (by have := e3.size; omega) (by omega)).trans hgV))
  have HPL := Lib.hid (fun (t : Int) (X : World) (hX : Chg (fun q => q = M) V X) (ht : isI64 t) => places_any p _ l _ t X (HP.out.ext (ew X hX)) (HRX.out X hX) ht)
  have HSE := Lib.hid (fun (t : Int) (X : World) (hX : Chg (fun q => q = M) V X) (ht : isI64 t) => sends_any p _ t X (HP.out.ext (ew X hX)) ht)
  have HNE := Lib.hid (fun (t : Int) (X : World) (hX : Chg (fun q => q = M) V X) (ht : isI64 t) => needs_any p _ t X (HP.out.ext (ew X hX)) ht)
  have HFI := Lib.hid (fun (nm : ByteArray) (X : World) (hX : Chg (fun q => q = M) V X) => find_any p nm _ X (HP.out.ext (ew X hX)))
  have HEW := Lib.hid ew
  have HM0 := Lib.hid hM
  clear hV hMs hM er hmm e3 E3 E2 E1 F1 F2 F3 b3 hgV HRL HRX ew e0
  go_wp2_with fail
  go_loopw [5, 7] (fun t i wr => ∃ (k n : Nat) (L : List ByteArray), (k : Int) ≤ p.st ∧ i = .int .i64 ((k : Int) + 1) ∧ t = .int .i64 ((sentL p k).length : Nat) ∧ MkV wr M n (fun _ => 0) L ∧ SameM L (needL p k) ∧ n ≤ k * 1536 ∧ (sentL p k).length ≤ k * 192 ∧ Chg (fun q => q = M) V wr) (fun _ i _ => 9 - (intOf i).toNat)
  case atStart => exact ⟨0, 0, [], by omega, rfl, rfl, HM0.out, fun x => by simp [needL], Nat.zero_le _, by simp [sentL], erM⟩
  case round =>
    clear HM0
    obtain ⟨k, n, L, hk, rfl, rfl, hmk, hsame, hnk, hsl, hC⟩ := hrel
    have HMK := Lib.hid hmk
    have HSM := Lib.hid hsame
    clear hmk hsame
    by_cases hlt : (k : Int) + 1 ≤ p.st
    case neg =>
      have hke : p.st.toNat = k := by omega
      have hL := HMK.out
      have hnd : L.Nodup := by obtain ⟨_, _, _, h, _⟩ := hL; exact h
      have hsn := sent_nodup HN0.out
      rw [hke] at hsn
      have hsl2 : (sentL p k).length = L.length := same_len hsn hnd (fun x => by
        have h1 := sent_need HN0.out x
        rw [hke] at h1
        rw [h1]
        exact (HSM.out x).symm)
      have hL0 := hL
      rw [hsl2]
      have beq : ((L.length : Int) == (L.length : Int)) = true := by simp
      have HE := HEW.out _ hC
      clear hke hsn hsl2 hnd hL hsl
      have hlenM := hL0.len 3
      clear hL0
      go_wp2_with fail
      refine (HEND.out _ HE).mono ?_
      rintro e w3 ⟨rfl, E3⟩
      go_wp2_with fail
      go_ret
      exact ⟨rfl, E3⟩
    have hk64 : isI64 ((k : Int) + 1) := by unfold isI64; omega
    have HK64 := Lib.hid hk64
    have hse := HSE.out ((k : Int) + 1) wr hC hk64
    have hslen := sends_len HPR.out ((k : Int) + 1)
    have hst := sentL_snoc p k
    have HST : Hid ((sentL p (k + 1)).length = (sentL p k).length + (sendsP p ((k : Int) + 1)).length) := by show _ = _; rw [hst, List.length_append]
    generalize hss : sendsP p ((k : Int) + 1) = SS at *
    clear hst hss hk64
    generalize hsk : (sentL p k).length = sk at *
    clear hsk
    go_wp2_with fail
    refine hse.mono ?_
    rintro e w4 ⟨sv, rfl, hsv, E4⟩
    obtain ⟨sa, sc, rfl, _⟩ := hsv.form
    have C4 := chg_extN hC E4
    clear hse hsv
    have hne := HNE.out ((k : Int) + 1) w4 C4 HK64.out
    have hnlen := needs_len HPR.out ((k : Int) + 1)
    have hAN : allN p ((k : Int) + 1) = ownN p ((k : Int) + 1) ++ needsP p ((k : Int) + 1) := rfl
    have hNLS := needL_snoc p k
    have HMP := Lib.hid (fun nm (hm : nm ∈ allN p ((k : Int) + 1)) => meet_place HN0.out (l := l) hm)
    have HAD := Lib.hid (all_nodup HN0.out ((k : Int) + 1))
    have HNST := Lib.hid (fun nm (hm : nm ∈ needsP p ((k : Int) + 1)) => (by
      obtain ⟨t, t1, t2, _, t4, _⟩ := (needs_mem HN0.out).1 hm
      rw [own_st (names_okN HN0.out) t4]
      unfold isI64; omega : isI64 (stOf p nm)))
    have HNS := Lib.hid (fun nm (hm : nm ∈ needsP p ((k : Int) + 1)) => need_sent HN0.out hm)
    have HNIN := Lib.hid (fun nm (hm : nm ∈ needsP p ((k : Int) + 1)) => (by rw [hAN]; exact List.mem_append.2 (.inr hm) : nm ∈ allN p ((k : Int) + 1)))
    have hle : (needsP p ((k : Int) + 1)).length ≤ (allN p ((k : Int) + 1)).length := by rw [hAN, List.length_append]; omega
    have halen := all_len HPR.out ((k : Int) + 1)
    have HSZ := Lib.hid (fun s (hs : s ∈ allN p ((k : Int) + 1)) => all_size HN0.out hs)
    obtain ⟨pe, pq⟩ := places_ok HCK.out (st := (k : Int) + 1) (by omega) hlt
    have HPL2 := Lib.hid (fun (X : World) (hX : Chg (fun q => q = M) V X) => by
      have := HPL.out ((k : Int) + 1) X hX HK64.out
      unfold RetPl at this
      rewrite [pe, pq] at this
      exact this)
    have HNLS := Lib.hid hNLS
    generalize allN p ((k : Int) + 1) = AN at *
    generalize needsP p ((k : Int) + 1) = ND at *
    clear pe pq hAN hNLS
    go_wp2_with fail
    refine hne.mono ?_
    rintro e w5 ⟨nv, rfl, hnv, E5⟩
    obtain ⟨na, nc, rfl, _⟩ := hnv.form
    have C5 := chg_extN C4 E5
    have HNV := Lib.hid hnv
    have hMw4 : M < w4.heap.size := by have := HMK.out.lt; have := E4.size; omega
    have HNM := Lib.hid (fun g (hg : (Value.slice na ND.length nc).ownBlock = some g) => (by have := hnv.rows g hg; omega : g ≠ M))
    clear hne hnv
    have hpl := HPL2.out w5 C5
    have hPLL : (AN.map (placeOf p l ((k : Int) + 1))).length = AN.length := List.length_map _
    have HPAT := Lib.hid (fun i nm (hi : AN[i]? = some nm) => (by rw [List.getElem?_map, hi]; rfl : (AN.map (placeOf p l ((k : Int) + 1)))[i]? = some (placeOf p l ((k : Int) + 1) nm)))
    generalize AN.map (placeOf p l ((k : Int) + 1)) = PL at *
    go_wp2_with fail
    refine hpl.mono ?_
    rintro e w6 ⟨pv, rfl, hpv, E6⟩
    obtain ⟨pa, pc, rfl, _⟩ := hpv.form
    rw [hPLL] at hpv ⊢
    have C6 := chg_extN C5 E6
    have HPV := Lib.hid hpv
    have HNV6 := Lib.hid (HNV.out.ext E6)
    have HMK6 := Lib.hid (HMK.out.chg ((E4.trans E5).trans E6) (fun h => h))
    have bnl : ¬ ((AN.length : Int) < (ND.length : Int)) := by omega
    have bnl2 : ¬ (AN.length < ND.length) := by omega
    have bnl3 : decide (AN.length < ND.length) = false := decide_eq_false bnl2
    clear hpl hpv HNV HPL2 E4 E5 E6 C4 C5 hC hPLL HMK
    go_wp2_with fail
    obtain ⟨wo, rfl⟩ : ∃ wo : World, wo = wr := ⟨_, rfl⟩
    go_loopw [11] (fun iv wr => ∃ i : Nat, i ≤ AN.length ∧ iv = .int .i64 i ∧ Ext w6 wr) (fun iv _ => AN.length - (intOf iv).toNat)
    case atStart => exact ⟨0, Nat.zero_le _, rfl, Chg.refl _ _⟩
    case round =>
      obtain ⟨i, hi, rfl, hE⟩ := hrel
      have CE := chg_extN C6 hE
      by_cases hil : i < AN.length
      case pos =>
        have hx := List.getElem?_eq_getElem hil
        have hiI : (i : Int) < (AN.length : Int) := by omega
        have hmem := List.getElem_mem hil
        obtain ⟨hfd, q0, q1, q2, q3, q4⟩ := HMP.out _ hmem
        obtain ⟨pg, rfl, _, _, pcell⟩ := (HPV.out.ext hE).get (HPAT.out i _ hx)
        have p0 := pcell 0 (by omega)
        have p1 := pcell 1 (by omega)
        have p3 := pcell 3 (by omega)
        have p4 := pcell 4 (by omega)
        simp only [plC, List.getElem?_cons_zero, List.getElem?_cons_succ, q0, q1, Nat.add_zero] at p0 p1 p3 p4
        have HX := Lib.hid hx
        generalize AN[i] = nm at *
        generalize placeOf p l ((k : Int) + 1) nm = pd at *
        have hf1 := HFI.out nm
        unfold RetFind fourV at hf1
        rw [hfd] at hf1
        have HF1 := Lib.hid hf1
        have hha := has_same ND w4.heap.size (.slice na ND.length nc) nm
        generalize stOf p nm = fs at *
        generalize tyOf p nm = ty at *
        generalize flOf p nm = fi at *
        generalize hfar : pd.far = far at *
        generalize pd.frm = frm at *
        rw [← q2] at hha
        have HHA := Lib.hid (fun (X : World) (hX : Ext w6 X) => hha X (HNV6.out.ext hX) (by omega))
        have b1 : (ty != ty) = false := by simp
        have b2 : (fs != (k : Int) + 1) = far := q3.symm
        have b3 : (far != far) = false := by simp
        have b4 : far = true → (frm != fs) = false := fun h => by rw [q4 h]; simp
        have r0 : ∀ X, Ext wr X → X.cell? ⟨pg, i * 6, none⟩ = some (.string nm) := fun X hX => Ext.cell hX p0
        have r1 : ∀ X, Ext wr X → X.cell? ⟨pg, i * 6 + 1, none⟩ = some (.int .u8 ty) := fun X hX => Ext.cell hX p1
        have r3 : ∀ X, Ext wr X → X.cell? ⟨pg, i * 6 + 3, none⟩ = some (.bool far) := fun X hX => Ext.cell hX p3
        have r4 : ∀ X, Ext wr X → X.cell? ⟨pg, i * 6 + 4, none⟩ = some (.int .i64 frm) := fun X hX => Ext.cell hX p4
        have z0 : ∀ X, Ext wr X → X.cell? ⟨w.heap.size, 0, none⟩ = some (.int .i64 p.st) := fun X hX => y0 X (chg_extN CE hX)
        have z1 : ∀ X, Ext wr X → X.cell? ⟨w.heap.size, 1, none⟩ = some (.slice ai p.ins.length ci) := fun X hX => y1 X (chg_extN CE hX)
        have z2 : ∀ X, Ext wr X → X.cell? ⟨w.heap.size, 2, none⟩ = some (.slice af p.flows.length cf) := fun X hX => y2 X (chg_extN CE hX)
        have z3 : ∀ X, Ext wr X → X.cell? ⟨w.heap.size, 3, none⟩ = some (.slice ao p.outs.length co) := fun X hX => y3 X (chg_extN CE hX)
        have G0 : Ext wr wr.drew := (Chg.refl _ _).drew
        have ed : ∀ X, Ext wr X → Ext wr X.drew := fun X hX => hX.drew
        have HB4 := Lib.hid b4
        clear hx hmem hfd q0 q1 q2 q3 q4 pcell hf1 hha p0 p1 p3 p4 hfar b4
        go_upto_region 19 with (fail)
        go_region_held3 (fun X => Ext wr X) (first | assumption)
          (first
            | (go_at_call 28; refine (HF1.out _ (chg_extN CE G0)).mono ?_; rintro e w7 ⟨rfl, E7⟩; have G1 := G0.trans E7))
        have G2 := ed _ G1
        clear G0 E7 z0 z1 z2 z3 HF1
        go_upto_region 20 with (fail)
        have c0 := r0 _ G1
        have c1 := r1 _ G1
        have c3 := r3 _ G1
        have c4 := r4 _ G1
        have hq : ∀ n, Calls Try.prog 29 #[.slice na ND.length nc, .string nm] (w7.drewN n) fun e w' => e = .returned (.bool far) ∧ w' = w7.drewN n := fun n => HHA.out _ ((hE.trans G1).drewN n)
        have HQ := Lib.hid hq
        clear hq HHA
        cases far
        all_goals (
          simp only [Bool.false_eq_true, false_implies, forall_const] at HB4
          have hb4 := HB4.out
          go_quiet ((go_at_call 29; exact Calls.quiet_of_same (HQ.out _)))
          generalize hw8 : w7.drewN nq = w8 at *
          have G3 : Ext wr w8 := by rw [← hw8]; exact G1.drewN nq
          clear hw8 c0 c1 c3 c4
          all_goals (
            clear r1 r3 r4 b1 b2 b3 HB4 hb4 HQ G1 G2
            go_wp2_with fail
            obtain ⟨wp, rfl⟩ : ∃ wp : World, wp = wr := ⟨_, rfl⟩
            go_loopw [16] (fun iv wr => ∃ m : Nat, m ≤ i ∧ iv = .int .i64 m ∧ Ext w8 wr) (fun iv _ => i - (intOf iv).toNat)
            case atStart => exact ⟨0, Nat.zero_le _, rfl, Chg.refl _ _⟩
            case round =>
              obtain ⟨m, hmi, rfl, hE2⟩ := hrel
              by_cases hml : m < i
              case neg =>
                obtain rfl : m = i := by omega
                have E9 := hE.trans (G3.trans hE2)
                go_wp2_with fail
                go_roundw
                case rel => exact ⟨m + 1, by omega, by go_num, E9⟩
                case measure => simp [intOf]; omega
              have hmI : (m : Int) < (i : Int) := by omega
              have hmA : (m : Int) < (AN.length : Int) := by omega
              have hx2 := List.getElem?_eq_getElem (show m < AN.length by omega)
              obtain ⟨_, q0, _⟩ := HMP.out _ (List.getElem_mem (show m < AN.length by omega))
              obtain ⟨_, eg, _, _, pcell⟩ := (HPV.out.ext (hE.trans (G3.trans hE2))).get (HPAT.out m _ hx2)
              simp only [Option.some.injEq, Addr.mk.injEq, and_true] at eg
              subst eg
              have p0 := pcell 0 (by omega)
              simp only [plC, List.getElem?_cons_zero, q0, Nat.add_zero] at p0
              have hne : AN[m] ≠ nm := fun e => by
                have := (List.getElem?_inj (show m < AN.length by omega) HAD.out).1 (show AN[m]? = AN[i]? by rw [HX.out, ← e]; exact hx2)
                omega
              generalize AN[m] = nm2 at *
              have bnm : (nm2.toList == nm.toList) = false := by
                cases hb : (nm2.toList == nm.toList)
                · rfl
                · exact absurd (str_eq.1 hb) hne
              have p1 := r0 _ (G3.trans hE2)
              clear pcell q0 hx2 hne
              go_upto_region 25 with (fail)
              go_quiet (fail)
              have E9 := hE2.drewN nq
              go_wp2_with fail
              go_roundw
              case rel => exact ⟨m + 1, by omega, by go_num, E9⟩
              case measure => simp [intOf]; omega))
      obtain rfl : i = AN.length := by omega
      have HMK7 := Lib.hid (HMK6.out.chg hE (fun h => h))
      have HNV7 := Lib.hid (HNV6.out.ext hE)
      clear HMK6 HNV6 HPV HPAT HAD C6 hE
      go_wp2_with fail
      obtain ⟨wo2, rfl⟩ : ∃ wo2 : World, wo2 = wr := ⟨_, rfl⟩
      go_loopw [17] (fun jv wr => ∃ (j n2 : Nat) (L2 : List ByteArray), j ≤ ND.length ∧ jv = .int .i64 j ∧ MkV wr M n2 (fun _ => 0) L2 ∧ SameM L2 (needL p k ++ ND.take j) ∧ n2 ≤ n + j ∧ Chg (fun q => q = M) wo2 wr) (fun jv _ => ND.length - (intOf jv).toNat)
      case atStart => exact ⟨0, n, L, Nat.zero_le _, rfl, HMK7.out, by rw [List.take_zero, List.append_nil]; exact HSM.out, by omega, Chg.refl _ _⟩
      case round =>
        clear HMK7
        obtain ⟨j, n2, L2, hj, rfl, hmk, hsame, hn2, hC⟩ := hrel
        have CW := CE.trans hC
        have HMK := Lib.hid hmk
        have HSA := Lib.hid hsame
        clear hmk hsame
        by_cases hjl : j < ND.length
        case neg =>
          obtain rfl : j = ND.length := by omega
          have hs3 := HSA.out
          rw [List.take_length, ← HNLS.out] at hs3
          have HS3 := Lib.hid hs3
          have HTT : Hid ((Value.int .i64 ((sk : Int) + (SS.length : Int))) = .int .i64 (((sentL p (k + 1)).length : Nat) : Int)) := by show _ = _; rw [HST.out]; congr 1
          have hls : (sentL p (k + 1)).length ≤ (k + 1) * 192 := by rw [HST.out]; omega
          have HLS := Lib.hid hls
          clear hs3 hls
          go_wp2_with fail
          go_roundw
          case rel => exact ⟨k + 1, n2, L2, by omega, by go_num, HTT.out, HMK.out, HS3.out, by omega, HLS.out, CW⟩
          case measure => simp [intOf]; omega
        have hx := List.getElem?_eq_getElem hjl
        have hjI : (j : Int) < (ND.length : Int) := by omega
        have hmem := List.getElem_mem hjl
        have hmemA := HNIN.out _ hmem
        obtain ⟨hfd, _⟩ := HMP.out _ hmemA
        have hns := HNS.out _ hmem
        have hs64 := HNST.out _ hmem
        have hsz2 := HSZ.out _ hmemA
        obtain ⟨gn, rfl, _, _, c0⟩ := (HNV7.out.chg hC (fun g hg e => HNM.out g hg e)).get hx
        have htk : ND.take (j + 1) = ND.take j ++ [ND[j]] := by rw [List.take_add_one, hx]; rfl
        generalize ND[j] = nm at *
        have hss2 := sends_len HPR.out (stOf p nm)
        have HSE2 := Lib.hid (fun (X : World) (hX : Chg (fun q => q = M) V X) => HSE.out (stOf p nm) X hX hs64)
        have hany : ((sendsP p (stOf p nm)).any fun q => decide (q = nm)) = true := any_mem.2 hns
        have HHA := Lib.hid (fun (X : World) (base : Nat) (u : Value) (h : StV X base (sendsP p (stOf p nm)) u) => by
          have := has_same (sendsP p (stOf p nm)) base u nm X h (by omega)
          rewrite [hany] at this
          exact this)
        have hf1 := HFI.out nm
        unfold RetFind fourV at hf1
        rw [hfd] at hf1
        have HF1 := Lib.hid hf1
        generalize sendsP p (stOf p nm) = S2 at *
        generalize stOf p nm = fs at *
        generalize tyOf p nm = ty at *
        generalize flOf p nm = fi at *
        have HTK := Lib.hid htk
        have r0 : ∀ X, Ext wr X → X.cell? ⟨gn, j, none⟩ = some (.string nm) := fun X hX => Ext.cell hX c0
        have z0 : ∀ X, Ext wr X → X.cell? ⟨w.heap.size, 0, none⟩ = some (.int .i64 p.st) := fun X hX => y0 X (chg_extN CW hX)
        have z1 : ∀ X, Ext wr X → X.cell? ⟨w.heap.size, 1, none⟩ = some (.slice ai p.ins.length ci) := fun X hX => y1 X (chg_extN CW hX)
        have z2 : ∀ X, Ext wr X → X.cell? ⟨w.heap.size, 2, none⟩ = some (.slice af p.flows.length cf) := fun X hX => y2 X (chg_extN CW hX)
        have z3 : ∀ X, Ext wr X → X.cell? ⟨w.heap.size, 3, none⟩ = some (.slice ao p.outs.length co) := fun X hX => y3 X (chg_extN CW hX)
        have G0 : Ext wr wr.drew := (Chg.refl _ _).drew
        have ed : ∀ X, Ext wr X → Ext wr X.drew := fun X hX => hX.drew
        clear hx hmem hmemA hfd hns hs64 htk hany hf1 c0
        go_upto_region 30 with (fail)
        go_region_held3 (fun X => Ext wr X) (first | assumption)
          (first
            | (go_at_call 28; refine (HF1.out _ (chg_extN CW G0)).mono ?_; rintro e w7 ⟨rfl, E7⟩; have G1 := G0.trans E7))
        have G2 := ed _ G1
        clear E7 HF1 G0
        go_upto_region 31 with (fail)
        go_region_held3 (fun X => Ext wr X) (first | assumption)
          (first
            | (have _ := G3; go_at_call 29; refine (HHA.out _ _ _ HU8.out).mono ?_; rintro e w9 ⟨rfl, rfl⟩; have G4 := G3)
            | (have _ := G2; go_at_call 25; refine (HSE2.out _ (chg_extN CW G2)).mono ?_; rintro e w8 ⟨u8, rfl, hu8, E8⟩; obtain ⟨a8, c8, rfl, _⟩ := hu8.form; have G3 := G2.trans E8; have HU8 := Lib.hid hu8))
        have r9 := r0 _ G4
        obtain ⟨w', hput, hmk', hC'⟩ := (HMK.out.chg G4 (fun h => h)).put (s := nm) (by unfold maxLen; omega) (by unfold maxLen; omega) (z := 1) (by unfold isI64; omega)
        have hsa2 := HSA.out.add (s := nm)
        rw [List.append_assoc, ← HTK.out] at hsa2
        have C9 := (chg_extN hC G4).trans hC'
        have HM9 := Lib.hid hmk'
        have HS9 := Lib.hid hsa2
        clear G1 G2 G3 G4 E8 hu8 HU8 HHA HSE2 z0 z1 z2 z3 r0 hmk' hC' hsa2 ed
        go_wp2_with fail
        go_roundw
        case rel => exact ⟨j + 1, n2 + 1, _, by omega, by go_num, HM9.out, HS9.out, by omega, C9⟩
        case measure => simp [intOf]; omega
end Go.Proofs.Ytjdficgejjkaoaa
namespace Go.Proofs.Ytjdficgejjkaoaa.rowCutsMeet
open Go.ChangeShapes Go.WideShapes Go.ChangeAt Go.RowKit Go.ChangeMaps
set_option linter.unusedVariables false
theorem own : ownKnob Try.prog.godebug = none := by kernel_rfl
theorem laidOut : laidOutB Try.prog = true := by kernel_rfl
set_option maxHeartbeats 4000000 in
set_option maxRecDepth 100000 in
theorem lifted (os : Os) (started : os.Started) (H : Type) (enc : TypeId × Value → H) :
    ReturnsInHanded {} Try.checked os 7 .any (Rows.cutsMeetSpec.pre6 enc Try.prog Try.f7 Rows.cutsMeetRow.domain false) (Rows.cutsMeetSpec.post enc Try.prog Try.f7 false true false false) := by
  refine returnsInHanded_of_change_sized (C := Try.checked) own started (by kernel_rfl) Try.func7
    (ChangeSpec.witness6 (enc := enc) (C := Try.checked) false ⟨#[], #[.agg #[.int .i64 0, .slice none 0 0, .slice none 0 0, .slice none 0 0]], []⟩ 8 (by kernel_rfl) (by kernel_rfl) (by kernel_rfl) (by kernel_rfl)) ?_
  intro W base args ds gs before hval0 hW hcnd hsz0 _
  have hval : ∀ (j : Nat) t v, Try.f7.params[j]? = some t → args[j]? = some v → Value.okWide Try.prog W .any base t v := hval0
  have hsz : (DataW.weightsEach Try.prog (Try.f7.params.toList ++ Rows.cutsMeetSpec.plain.varTypes Try.prog) (ds ++ gs)).all (· ≤ reachBytes) = true := hsz0
  have hW' := hW
  obtain ⟨p, q, hA0, hV, rfl, hfz, hnd⟩ := hW
  have hA : DataW.TrodAll enc Try.prog W 0 (fun _ => true) true Try.f7.params.toList args.toList ds p := hA0
  rw [Try.params7] at hA hval hsz
  obtain ⟨v0, vs0, d0, ds0, p0, q0, hargs, rfl, rfl, h0, r0⟩ := trodAll_cons hA
  obtain ⟨rfl, rfl, rfl⟩ := trodAll_nil r0
  obtain rfl : args = #[v0] := by cases args; simp_all
  obtain ⟨rfl, rfl⟩ := trodVars_none hV
  have k0 := h0
  have lt0 : ∀ x ∈ p0, x.block < W.heap.size := by obtain ⟨m, hm⟩ := k0; exact DataW.trod_lt m _ _ _ hm
  have l0 : Lite Try.prog 26 d0 := fun n hn => by simpa using List.all_eq_true.1 hsz n (DataW.weights_mem_each (j := 0) (t := 26) (d := d0) rfl rfl n hn)
  obtain ⟨pd0, cs0, rfl, hx0⟩ := pr_open (agg_of Try.underlying26 (hval 0 26 v0 rfl rfl)) h0 l0
  clear hA0 hval0 hsz0
  refine (cutsMeet_any pd0 cs0 W hx0).mono fun e W' ⟨he, ext⟩ => ?_
  subst he
  have bel := Ext.below ext
  exact ⟨_, rfl, _, _, _, [], _, [], hW', trodAll_mk1 (shut_bool Try.underlying4 _),
    (trodAll_cons_mk (Below.trod laidOut (by kernel_rfl) (of_decide_eq_true (by kernel_rfl)) k0 bel lt0) trodAll_mk0), rfl, bel.frame _, fun h => by cases h⟩
theorem over : Rows.cutsMeetRow.holds Try.pinned (OpenSpec.ofChange Rows.cutsMeetSpec) :=
  OpenClaim.holds_of_wide 7 Try.f7 rfl rfl rfl rfl rfl rfl rfl ⟨rfl, rfl, rfl, rfl, rfl⟩ rfl rfl rfl rfl rfl (by kernel_rfl) Try.func7 (by kernel_rfl)
    (of_decide_eq_true (by kernel_rfl)) (by unfold Func.isWrapper; first | (rw [if_pos (by decide +kernel)]; kernel_rfl) | (rw [if_neg (by decide +kernel)]; exact ⟨rfl, rfl⟩))
    (fun os started H enc _ => lifted os started H enc)
theorem proved : Rows.CutsMeetSaid := over
#print axioms proved
end Go.Proofs.Ytjdficgejjkaoaa.rowCutsMeet
