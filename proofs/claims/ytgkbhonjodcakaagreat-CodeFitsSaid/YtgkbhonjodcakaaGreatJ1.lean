/- What stands in this text: Parts, Chk, RefSz, Gth, Set, StrMap, ThingsC. -/
import Derived.Test.YtgkbhonjodcakaaGreatJ0
import Derived.Deep.RegionHeld3
import Derived.RangeFuncNested
import Derived.Maps.AppendAt
import Derived.Maps.Own
import Derived.Maps.Views
import Derived.Maps.OwnOps
import Derived.DeepKeys4
import Derived.Maps.OwnSet
namespace Go.Proofs.YtgkbhonjodcakaaGreat
open Go.RowKit
set_option linter.unusedVariables false

/-- A form: what it is of, its rank, its kind, its text. -/
structure FmD where
  op : Int
  rank : Int
  kind : Int
  text : ByteArray
def fmC (f : FmD) : List Value := [.int .u8 f.op, .int .i64 f.rank, .int .u8 f.kind, .string f.text]
/-- A list of forms in memory. -/
def RdFm (w : World) (l : List FmD) (v : Value) : Prop := ∃ b, v = .slice (some ⟨b, 0, none⟩) l.length l.length ∧ l.length ≤ 20 ∧ ∀ i x, l[i]? = some x →
  w.cell? ⟨b, i * 4, none⟩ = some (.int .u8 x.op) ∧ w.cell? ⟨b, i * 4 + 1, none⟩ = some (.int .i64 x.rank) ∧ w.cell? ⟨b, i * 4 + 2, none⟩ = some (.int .u8 x.kind) ∧ w.cell? ⟨b, i * 4 + 3, none⟩ = some (.string x.text)
theorem RdFm.ext {w w1 : World} {l : List FmD} {v : Value} (h : RdFm w l v) (he : Ext w w1) : RdFm w1 l v := by
  obtain ⟨b, rfl, hl, hr⟩ := h
  refine ⟨b, rfl, hl, fun i x hx => ?_⟩
  obtain ⟨h0, h1, h2, h3⟩ := hr i x hx
  exact ⟨he.cell h0, he.cell h1, he.cell h2, he.cell h3⟩
def pairsD : List FmD := [⟨18, 0, 3, ⟨#[45, 62]⟩⟩, ⟨16, 1, 1, ⟨#[111, 114]⟩⟩, ⟨15, 2, 1, ⟨#[97, 110, 100]⟩⟩, ⟨11, 3, 3, ⟨#[61, 61]⟩⟩, ⟨12, 3, 3, ⟨#[33, 61]⟩⟩, ⟨13, 3, 3, ⟨#[60]⟩⟩, ⟨14, 3, 3, ⟨#[60, 61]⟩⟩, ⟨6, 4, 3, ⟨#[43]⟩⟩, ⟨7, 4, 3, ⟨#[45]⟩⟩, ⟨8, 5, 3, ⟨#[42]⟩⟩, ⟨9, 5, 3, ⟨#[47]⟩⟩, ⟨10, 5, 3, ⟨#[37]⟩⟩]
def prefixesD : List FmD := [⟨4, 6, 3, ⟨#[45]⟩⟩, ⟨5, 6, 1, ⟨#[110, 111, 116]⟩⟩, ⟨19, 6, 1, ⟨#[112, 114, 101]⟩⟩]
theorem fm_rd {l : List FmD} (hl : l.length ≤ 20) {cs : Array Value} (hcs : cs = (l.flatMap fmC).toArray) (w : World) : RdFm (w.alloc (.cells cs 248)) l (.slice (some ⟨w.heap.size, 0, none⟩) l.length l.length) := by
  subst hcs
  refine ⟨w.heap.size, rfl, hl, fun i x hx => ?_⟩
  have key : ∀ (l : List FmD) i x, l[i]? = some x → ∀ j, j < 4 → (l.flatMap fmC)[i * 4 + j]? = (fmC x)[j]? := by
    intro l
    induction l with
    | nil => intro i x hx; simp at hx
    | cons y r ih =>
      intro i x hx j hj
      cases i with
      | zero =>
        simp only [List.getElem?_cons_zero, Option.some.injEq] at hx
        subst hx
        rw [List.flatMap_cons, List.getElem?_append_left (by simp [fmC]; omega)]
        simp
      | succ i =>
        simp only [List.getElem?_cons_succ] at hx
        rw [List.flatMap_cons, List.getElem?_append_right (by simp [fmC]; omega), show (i + 1) * 4 + j - (fmC y).length = i * 4 + j from by simp [fmC]; omega]
        exact ih i x hx j hj
  have k0 := key l i x hx 0 (by omega)
  have k1 := key l i x hx 1 (by omega)
  have k2 := key l i x hx 2 (by omega)
  have k3 := key l i x hx 3 (by omega)
  refine ⟨?_, ?_, ?_, ?_⟩
  · rw [World.cell?_alloc_at _ _ _ _ rfl]; simpa [fmC] using k0
  · rw [World.cell?_alloc_at _ _ _ _ rfl]; simpa [fmC] using k1
  · rw [World.cell?_alloc_at _ _ _ _ rfl]; simpa [fmC] using k2
  · rw [World.cell?_alloc_at _ _ _ _ rfl]; simpa [fmC] using k3
def RetFm (l : List FmD) (w : World) (e : Ending) (w' : World) : Prop := (∃ v, e = .returned v ∧ RdFm w' l v) ∧ Ext w w'
set_option maxHeartbeats 4000000 in
set_option maxRecDepth 100000 in
theorem pairs_one (w : World) : Calls Tryz.prog 167 #[] w (RetFm pairsD w) := by
  go_enter Tryz.func167, Tryz.ntmps167
  go_wp2_with fail
  go_ret
  exact ⟨⟨_, rfl, fm_rd (l := pairsD) (by decide) rfl w⟩, (Chg.refl _ _).alloc _⟩
theorem prefixes_one (w : World) : Calls Tryz.prog 168 #[] w (RetFm prefixesD w) := by
  go_enter Tryz.func168, Tryz.ntmps168
  go_wp2_with fail
  go_ret
  exact ⟨⟨_, rfl, fm_rd (l := prefixesD) (by decide) rfl w⟩, (Chg.refl _ _).alloc _⟩
def hasOp (l : List FmD) (op : Int) : Bool := l.any fun f => decide (f.op = op)
/-- What find answers: some form's cells, and whether it is there. -/
def RetFf (l : List FmD) (op : Int) (w : World) (e : Ending) (w' : World) : Prop := (∃ f : FmD, e = .returned (.tuple #[.agg (fmC f).toArray, .bool (hasOp l op)])) ∧ Ext w w'
set_option maxHeartbeats 1000000 in
theorem ffind_any (l : List FmD) (v : Value) (op : Int) (w : World) (h : RdFm w l v) : Calls Tryz.prog 166 #[v, .int .u8 op] w (RetFf l op w) := by
  have hv := h
  obtain ⟨b, rfl, hl, hr⟩ := h
  clear hr
  go_enter Tryz.func166, Tryz.ntmps166
  go_wp2_with fail
  have E0 : Ext w (w.alloc (.cells #[.int .u8 0, .int .i64 0, .int .u8 0, .string ⟨#[]⟩] 248)) := (Chg.refl _ _).alloc _
  have B0 := heap_alloc_new w (.cells #[.int .u8 0, .int .i64 0, .int .u8 0, .string ⟨#[]⟩] 248)
  generalize (w.alloc (.cells #[.int .u8 0, .int .i64 0, .int .u8 0, .string ⟨#[]⟩] 248)) = W0 at *
  go_loopw [10] (fun i wr => ∃ k : Nat, k ≤ l.length ∧ i = .int .i64 k ∧ hasOp l op = hasOp (l.drop k) op ∧ Ext W0 wr) (fun i _ => l.length - (intOf i).toNat)
  case atStart => exact ⟨0, Nat.zero_le _, rfl, rfl, Chg.refl _ _⟩
  case round =>
    obtain ⟨k, hk, rfl, hH, hE⟩ := hrel
    have HH := Lib.hid hH
    clear hH
    have B1 := Ext.heap hE B0
    have hlt0 := lt_of_block B0
    by_cases hlt : k < l.length
    · have hx := List.getElem?_eq_getElem hlt
      obtain ⟨b', e, _, hr⟩ := hv.ext (E0.trans hE)
      simp only [Value.slice.injEq, Option.some.injEq, Addr.mk.injEq, and_true] at e
      subst e
      obtain ⟨c0, c1, c2, c3⟩ := hr k _ hx
      have q1 : (k : Int) < (l.length : Int) := by omega
      have hstep : hasOp (l.drop k) op = (decide (l[k].op = op) || hasOp (l.drop (k + 1)) op) := by
        rw [List.drop_eq_getElem_cons hlt]; rfl
      generalize l[k] = x at *
      have HS := Lib.hid hstep
      clear hstep hr hx
      have B2 : (wr.alloc (.cells #[.int .u8 x.op, .int .i64 x.rank, .int .u8 x.kind, .string x.text] 248)).heap[w.heap.size]? = some (.cells #[.int .u8 0, .int .i64 0, .int .u8 0, .string ⟨#[]⟩] 248 (0, 0)) := Ext.heap ((Chg.refl _ _).alloc _) B1
      have hE2 : Ext W0 (wr.alloc (.cells #[.int .u8 x.op, .int .i64 x.rank, .int .u8 x.kind, .string x.text] 248)) := hE.alloc _
      have y0 := blk_cell B2 0
      have y1 := blk_cell B2 1
      have y2 := blk_cell B2 2
      have y3 := blk_cell B2 3
      have g0 := blk_free B2 0
      have g1 := blk_free B2 1
      have g2 := blk_free B2 2
      have g3 := blk_free B2 3
      simp only [List.getElem?_toArray, List.getElem?_cons_zero, List.getElem?_cons_succ] at y0 y1 y2 y3
      clear B0 B1 hE
      go_wp2_with fail
      · have hxo : x.op = op := by simpa using ‹(x.op == op) = true›
        refine bodyPost_ret (v := .tuple #[.agg (fmC x).toArray, .bool true]) ?_ rfl ⟨⟨x, ?_⟩, ?_⟩
        · simp [results, Tryz.results166, go_sem, y0, y1, y2, y3, fmC]
        · rw [HH.out, HS.out]; simp [hxo]
        · exact Ext.then (E0.trans hE2) (chg_sets4 _ _ _ _ _ _) (fun b hb => by omega)
      · have hxo : ¬ x.op = op := by simpa using ‹(x.op == op) = false›
        go_roundw
        case rel => exact ⟨k + 1, by omega, by go_num, by rw [HH.out, HS.out]; simp [hxo], hE2⟩
        case measure => simp [intOf]; omega
    · obtain rfl : k = l.length := by omega
      have hne : hasOp (l.drop l.length) op = false := by rw [List.drop_length]; rfl
      have HN := Lib.hid hne
      clear hne B0
      have y0 := blk_cell B1 0
      have y1 := blk_cell B1 1
      have y2 := blk_cell B1 2
      have y3 := blk_cell B1 3
      have g0 := blk_free B1 0
      have g1 := blk_free B1 1
      have g2 := blk_free B1 2
      have g3 := blk_free B1 3
      simp only [List.getElem?_toArray, List.getElem?_cons_zero, List.getElem?_cons_succ] at y0 y1 y2 y3
      go_wp2_with fail
      refine bodyPost_ret (v := .tuple #[.agg (fmC ⟨0, 7, 0, ⟨#[]⟩⟩).toArray, .bool false]) ?_ rfl ⟨⟨⟨0, 7, 0, ⟨#[]⟩⟩, ?_⟩, ?_⟩
      · simp [results, Tryz.results166, go_sem, y0, y1, y2, y3, fmC]
      · rw [HH.out, HN.out]
      · exact Ext.then (E0.trans hE) (chg_sets4 _ _ _ _ _ _) (fun b hb => by omega)
/-- How many parts an operator has; below 0: it is none. -/
def partsP (op : Int) : Int := if op = 1 ∨ op = 2 ∨ op = 3 then 0 else if op = 17 then 3 else if hasOp pairsD op = true then 2 else if hasOp prefixesD op = true then 1 else -1
def RetPa (op : Int) (w : World) (e : Ending) (w' : World) : Prop := e = .returned (.int .i64 (partsP op)) ∧ Ext w w'
set_option maxHeartbeats 1000000 in
theorem parts_one (op : Int) (w : World) : Calls Tryz.prog 133 #[.int .u8 op] w (RetPa op w) := by
  by_cases h1 : op = 1
  · subst h1
    go_enter Tryz.func133, Tryz.ntmps133
    go_wp2_with fail
    go_ret
    exact ⟨rfl, Chg.refl _ _⟩
  by_cases h2 : op = 2
  · subst h2
    go_enter Tryz.func133, Tryz.ntmps133
    go_wp2_with fail
    go_ret
    exact ⟨rfl, Chg.refl _ _⟩
  by_cases h3 : op = 3
  · subst h3
    go_enter Tryz.func133, Tryz.ntmps133
    go_wp2_with fail
    go_ret
    exact ⟨rfl, Chg.refl _ _⟩
  by_cases h17 : op = 17
  · subst h17
    go_enter Tryz.func133, Tryz.ntmps133
    go_wp2_with fail
    go_ret
    exact ⟨rfl, Chg.refl _ _⟩
  have b1 : (op == 1) = false := by simpa using h1
  have b2 : (op == 2) = false := by simpa using h2
  have b3 : (op == 3) = false := by simpa using h3
  have b17 : (op == 17) = false := by simpa using h17
  have hP : partsP op = if hasOp pairsD op = true then 2 else if hasOp prefixesD op = true then 1 else -1 := by
    simp [partsP, h1, h2, h3, h17]
  have HP := Lib.hid hP
  clear hP h1 h2 h3 h17
  go_enter Tryz.func133, Tryz.ntmps133
  go_wp2_with fail
  refine (pairs_one _).mono ?_
  rintro e w1 ⟨⟨v, rfl, hv⟩, E1⟩
  go_wp2_with fail
  refine (ffind_any _ v op _ hv).mono ?_
  rintro e w2 ⟨⟨f, rfl⟩, E2⟩
  have E := E1.trans E2
  have HB := Lib.hid (show hasOp pairsD op = hasOp pairsD op from rfl)
  cases hb : hasOp pairsD op
  · unfold fmC
    go_wp2_with fail
    refine (prefixes_one _).mono ?_
    rintro e w3 ⟨⟨v, rfl, hv⟩, E3⟩
    go_wp2_with fail
    refine (ffind_any _ v op _ hv).mono ?_
    rintro e w4 ⟨⟨f, rfl⟩, E4⟩
    have E' := E.trans (((Chg.refl _ _).alloc _ : Ext w2 _).trans (E3.trans E4))
    cases hc : hasOp prefixesD op
    · unfold fmC
      go_wp2_with fail
      go_ret
      exact ⟨by rw [HP.out, hb, hc]; rfl, E'.alloc _⟩
    · unfold fmC
      go_wp2_with fail
      go_ret
      exact ⟨by rw [HP.out, hb, hc]; rfl, E'.alloc _⟩
  · unfold fmC
    go_wp2_with fail
    go_ret
    exact ⟨by rw [HP.out, hb]; rfl, E.alloc _⟩
end Go.Proofs.YtgkbhonjodcakaaGreat
namespace Go.Proofs.YtgkbhonjodcakaaGreat
open Go.RowKit
set_option linter.unusedVariables false

mutual
/-- How many parts it has. -/
def nodesE : Ex → Nat
  | .mk _ _ _ l => 1 + nodesL l
def nodesL : List Ex → Nat
  | [] => 0
  | x :: r => nodesE x + nodesL r
end
/-- What stands beside the parts is fine. -/
def headP (op n : Int) (nm : ByteArray) : Bool :=
  if op = 1 then decide (0 ≤ n) && nm.toList.isEmpty else if op = 2 then (decide (n = 0) || decide (n = 1)) && nm.toList.isEmpty else if op = 3 then decide (n = 0) && nameP nm else decide (n = 0) && nm.toList.isEmpty
mutual
/-- It may be, so deep. -/
def wfE : Nat → Ex → Bool
  | 0, .mk _ _ _ _ => false
  | d + 1, .mk op n nm l => decide (partsP op = (l.length : Int)) && headP op n nm && wfL d l
def wfL : Nat → List Ex → Bool
  | _, [] => true
  | d, x :: r => wfE d x && wfL d r
end
/-- The plain answer: it may be, so deep, with so many parts. -/
def okE (d : Nat) (m : Int) (x : Ex) : Bool := wfE d x && decide ((nodesE x : Int) ≤ m)
def okL (d : Nat) (m : Int) (l : List Ex) : Bool := wfL d l && decide ((nodesL l : Int) ≤ m)
theorem okE_iff {d : Nat} {m : Int} {x : Ex} : okE d m x = true ↔ wfE d x = true ∧ (nodesE x : Int) ≤ m := by unfold okE; rw [Bool.and_eq_true, decide_eq_true_eq]
theorem okL_iff {d : Nat} {m : Int} {l : List Ex} : okL d m l = true ↔ wfL d l = true ∧ (nodesL l : Int) ≤ m := by unfold okL; rw [Bool.and_eq_true, decide_eq_true_eq]
theorem okL_at {d : Nat} {m : Int} {l : List Ex} {k : Nat} {x : Ex} (h : l[k]? = some x) : okL d m (l.drop k) = (okE d m x && okL d (m - nodesE x) (l.drop (k + 1))) := by
  obtain ⟨hk, rfl⟩ := List.getElem?_eq_some_iff.1 h
  rw [List.drop_eq_getElem_cons hk, Bool.eq_iff_iff, Bool.and_eq_true, okL_iff, okE_iff, okL_iff]
  simp only [wfL, nodesL, Bool.and_eq_true]
  constructor
  · rintro ⟨⟨h1, h2⟩, h3⟩; exact ⟨⟨h1, by omega⟩, h2, by omega⟩
  · rintro ⟨⟨h1, h2⟩, h3, h4⟩; exact ⟨⟨h1, h3⟩, by omega⟩
theorem ok_step {d : Nat} {m op n : Int} {nm : ByteArray} {l : List Ex} : okE (d + 1) m (.mk op n nm l) = (decide (partsP op = (l.length : Int)) && headP op n nm && okL d (m - 1) l && decide (1 ≤ m)) := by
  rw [Bool.eq_iff_iff, okE_iff, Bool.and_eq_true, Bool.and_eq_true, Bool.and_eq_true, okL_iff]
  simp only [wfE, nodesE, Bool.and_eq_true, decide_eq_true_eq]
  constructor
  · rintro ⟨⟨⟨h1, h2⟩, h3⟩, h4⟩; exact ⟨⟨⟨h1, h2⟩, h3, by omega⟩, by omega⟩
  · rintro ⟨⟨⟨h1, h2⟩, h3, h4⟩, h5⟩; exact ⟨⟨⟨h1, h2⟩, h3⟩, by omega⟩
theorem ok_leaf {d : Nat} {m op n : Int} {nm : ByteArray} {l : List Ex} (hop : op = 1 ∨ op = 2 ∨ op = 3) (hp : partsP op = (l.length : Int)) (hm : 1 ≤ m) : okE (d + 1) m (.mk op n nm l) = headP op n nm ∧ nodesE (.mk op n nm l) = 1 := by
  have hz : partsP op = 0 := by simp [partsP, hop]
  have hl : l = [] := List.length_eq_zero_iff.1 (by omega)
  subst hl
  have e : okL d (m - 1) [] = true := by rw [okL_iff]; simp only [wfL, nodesL]; exact ⟨trivial, by omega⟩
  rw [ok_step, hp, e]
  simp [nodesE, nodesL, hm]
theorem ok_node {d : Nat} {m op n : Int} {nm : ByteArray} {l : List Ex} (hp : partsP op = (l.length : Int)) (hm : 1 ≤ m) : okE (d + 1) m (.mk op n nm l) = (headP op n nm && okL d (m - 1) l) := by
  rw [ok_step, hp]
  simp [hm]
theorem ok_odd {d : Nat} {m op n : Int} {nm : ByteArray} {l : List Ex} (hp : ¬ partsP op = (l.length : Int)) : okE (d + 1) m (.mk op n nm l) = false := by
  rw [ok_step]
  simp [hp]
theorem nodesL_at {l : List Ex} {k : Nat} {x : Ex} (h : l[k]? = some x) : nodesL (l.drop k) = nodesE x + nodesL (l.drop (k + 1)) := by
  obtain ⟨hk, rfl⟩ := List.getElem?_eq_some_iff.1 h
  rw [List.drop_eq_getElem_cons hk]
  simp only [nodesL]
/-- How check ends. -/
def RetChk (w : World) (B : Nat) (x : Ex) (d : Nat) (m : Int) (e : Ending) (w' : World) : Prop := ∃ m' : Int, e = .returned (.bool (okE d m x)) ∧ Boxed w' B 3 (.int .i64 m') ∧ (okE d m x = true → m' = m - nodesE x) ∧ Chg (fun q => q = B) w w'
theorem retChk {w w' : World} {B : Nat} {x : Ex} {d : Nat} {m m' : Int} {b : Bool} (h : okE d m x = b) (hb : Boxed w' B 3 (.int .i64 m')) (hm : b = true → m' = m - nodesE x) (hc : Chg (fun q => q = B) w w') : RetChk w B x d m (.returned (.bool b)) w' := by
  subst h; exact ⟨m', rfl, hb, hm, hc⟩
theorem no_true {P : Prop} : false = true → P := fun h => by cases h
/-- check's contract at x. -/
def EChk (x : Ex) : Prop := ∀ (v : Value) (w0 w : World) (B : Nat) (m : Int) (d : Nat), RdExV w0 0 false x.args v → x.name.size ≤ maxLen → Ext w0 w → w0.heap.size ≤ B → Boxed w B 3 (.int .i64 m) → 0 ≤ m → m ≤ 200 → d ≤ 32 →
  Calls Tryz.prog 107 #[.agg #[.int .u8 x.op, .int .i64 x.n, .string x.name, v], .pointer (some ⟨B, 0, none⟩), .int .i64 d] w (RetChk w B x d m)
set_option maxRecDepth 100000 in
set_option maxHeartbeats 4000000 in
theorem check_any : ∀ x, EChk x := by
  refine Ex.ind fun op n nm args ih => ?_
  intro v w0 w B m d hv hnm hE hB hbox hm0 hm1 hd
  simp only [Ex.op, Ex.n, Ex.name, Ex.args] at *
  obtain ⟨a, cap, rfl, hrest⟩ := hv
  have hv : RdExV w0 0 false args (.slice a args.length cap) := ⟨a, cap, rfl, hrest⟩
  clear hrest
  have hBw := hbox.lt
  go_enter Tryz.func107, Tryz.ntmps107
  have y := (hbox.alloc (.cells #[.int .u8 op, .int .i64 n, .string nm, .slice a args.length cap] 41)).cell
  have g := (hbox.alloc (.cells #[.int .u8 op, .int .i64 n, .string nm, .slice a args.length cap] 41)).frozen
  go_wp2_with fail
  have WB : Boxed ((w.setCell ⟨B, 0, none⟩ (.int .i64 (m - 1))).alloc (.cells #[.int .u8 op, .int .i64 n, .string nm, .slice a args.length cap] 41)) B 3 (.int .i64 (m - 1)) := (Boxed.set _ hbox).alloc _
  have hsz : (w.setCell ⟨B, 0, none⟩ (.int .i64 (m - 1))).heap.size = w.heap.size := by simp [World.setCell]
  have WX : ((w.setCell ⟨B, 0, none⟩ (.int .i64 (m - 1))).alloc (.cells #[.int .u8 op, .int .i64 n, .string nm, .slice a args.length cap] 41)).heap[w.heap.size]? = some (.cells #[.int .u8 op, .int .i64 n, .string nm, .slice a args.length cap] 41 (0, 0)) := by
    have := heap_alloc_new (w.setCell ⟨B, 0, none⟩ (.int .i64 (m - 1))) (.cells #[.int .u8 op, .int .i64 n, .string nm, .slice a args.length cap] 41)
    rw [hsz] at this
    exact this
  have WC : Chg (fun q => q = B) w ((w.setCell ⟨B, 0, none⟩ (.int .i64 (m - 1))).alloc (.cells #[.int .u8 op, .int .i64 n, .string nm, .slice a args.length cap] 41)) := ((Chg.refl (fun q => q = B) w).setCell ⟨B, 0, none⟩ (.int .i64 (m - 1)) (.inl rfl)).alloc _
  generalize ((w.setCell ⟨B, 0, none⟩ (.int .i64 (m - 1))).alloc (.cells #[.int .u8 op, .int .i64 n, .string nm, .slice a args.length cap] 41)) = W at *
  clear y g hsz
  have y := WB.cell
  have x0 := blk_cell WX 0
  have x1 := blk_cell WX 1
  have x2 := blk_cell WX 2
  have x3 := blk_cell WX 3
  simp only [List.getElem?_toArray, List.getElem?_cons_zero, List.getElem?_cons_succ] at x0 x1 x2 x3
  by_cases hm : m = 0
  · subst hm
    have hq : okE d 0 (.mk op n nm args) = false := by
      rw [Bool.eq_false_iff, ne_eq, okE_iff]
      simp only [nodesE]
      omega
    go_region
    go_wp2_with fail
    go_ret
    exact retChk hq WB no_true WC.drew
  have hm2 : ¬ (m - 1 < 0) := by omega
  cases d with
  | zero =>
    have hq : okE 0 m (.mk op n nm args) = false := by simp [okE, wfE]
    go_region
    go_wp2_with fail
    go_ret
    exact retChk hq WB no_true WC.drew
  | succ d =>
    have hd2 : ¬ ((d : Int) + 1 < 1) := by omega
    have hm3 : 1 ≤ m := by omega
    have dB := (World.cell?_drew (w := W) (a := ⟨B, 0, none⟩)).trans y
    have d0 := (World.cell?_drew (w := W) (a := ⟨w.heap.size, 0, none⟩)).trans x0
    have d3 := (World.cell?_drew (w := W) (a := ⟨w.heap.size, 3, none⟩)).trans x3
    have hstep := ok_step (d := d) (m := m) (op := op) (n := n) (nm := nm) (l := args)
    have HS := Lib.hid hstep
    have HI := Lib.hid ih
    clear ih hstep
    go_region_held3 (fun X => X.cell? ⟨B, 0, none⟩ = some (.int .i64 (m - 1)) ∧ X.cell? ⟨w.heap.size, 0, none⟩ = some (.int .u8 op) ∧ X.cell? ⟨w.heap.size, 3, none⟩ = some (.slice a args.length cap))
      (first | (with_reducible exact ⟨dB, d0, d3⟩) | (with_reducible exact ⟨Ext.cell he3 dB, Ext.cell he3 d0, Ext.cell he3 d3⟩))
      (first
        | (go_at_call 133; refine (parts_one op _).mono ?_; rintro e w3 ⟨rfl, he3⟩))
    have WB3 : Boxed w3 B 3 (.int .i64 (m - 1)) := Ext.heap he3 WB
    have WX3 := Ext.heap he3 (show W.drew.heap[w.heap.size]? = _ from WX)
    have C3 : Chg (fun q => q = B) w w3 := WC.drew.trans (he3.mono (fun _ _ h => h.elim))
    clear dB d0 d3 he3 WB WX WC x0 x1 x2 x3 y
    have x0 := blk_cell WX3 0
    have x1 := blk_cell WX3 1
    have x2 := blk_cell WX3 2
    have x3 := blk_cell WX3 3
    simp only [List.getElem?_toArray, List.getElem?_cons_zero, List.getElem?_cons_succ] at x0 x1 x2 x3
    by_cases hp : partsP op = (args.length : Int)
    · have hp2 : (partsP op != (args.length : Int)) = false := by simpa using hp
      have HP := Lib.hid hp
      clear hp
      rw [hp2]
      by_cases h1 : op = 1
      · subst h1
        have hlf := Lib.hid (ok_leaf (d := d) (m := m) (n := n) (nm := nm) (l := args) (.inl rfl) HP.out hm3)
        by_cases hn : 0 ≤ n
        · go_wp2_with fail
          go_ret
          exact retChk (hlf.out.1.trans (by simp [headP, hn])) WB3 (fun _ => by rw [hlf.out.2]; omega) C3
        · have HNN := Lib.hid hn
          go_wp2_with fail
          go_ret
          exact retChk (hlf.out.1.trans (by simp [headP]; intro h; exact absurd h (by have := HNN.out; omega))) WB3 (fun _ => by rw [hlf.out.2]; omega) C3
      by_cases h2 : op = 2
      · subst h2
        have hlf := Lib.hid (ok_leaf (d := d) (m := m) (n := n) (nm := nm) (l := args) (.inr (.inl rfl)) HP.out hm3)
        by_cases hn : n = 0
        · subst hn
          go_wp2_with fail
          go_ret
          exact retChk (hlf.out.1.trans (by simp [headP])) WB3 (fun _ => by rw [hlf.out.2]; omega) C3
        · have bn : (n == 0) = false := by simpa using hn
          by_cases hn1 : n = 1
          · subst hn1
            go_wp2_with fail
            go_ret
            exact retChk (hlf.out.1.trans (by simp [headP])) WB3 (fun _ => by rw [hlf.out.2]; omega) C3
          · have bn1 : (n == 1) = false := by simpa using hn1
            go_wp2_with fail
            go_ret
            exact retChk (hlf.out.1.trans (by simp [headP, hn, hn1])) WB3 (fun _ => by rw [hlf.out.2]; omega) C3
      by_cases h3 : op = 3
      · subst h3
        have hlf := Lib.hid (ok_leaf (d := d) (m := m) (n := n) (nm := nm) (l := args) (.inr (.inr rfl)) HP.out hm3)
        by_cases hn : n = 0
        · subst hn
          go_wp2_with fail
          refine (name_one nm hnm _).mono ?_
          rintro e w4 ⟨rfl, he4⟩
          go_wp2_with fail
          go_ret
          exact retChk (hlf.out.1.trans (by simp [headP])) (Ext.heap he4 WB3) (fun _ => by rw [hlf.out.2]; omega) (C3.trans (he4.mono (fun _ _ h => h.elim)))
        · have bn : (n == 0) = false := by simpa using hn
          go_wp2_with fail
          go_ret
          exact retChk (hlf.out.1.trans (by simp [headP, hn])) WB3 (fun _ => by rw [hlf.out.2]; omega) C3
      have b1 : (op == 1) = false := by simpa using h1
      have b2 : (op == 2) = false := by simpa using h2
      have b3 : (op == 3) = false := by simpa using h3
      have hnd := Lib.hid (ok_node (d := d) (m := m) (op := op) (n := n) (nm := nm) (l := args) HP.out hm3)
      have hhd : headP op n nm = (decide (n = 0) && nm.toList.isEmpty) := by simp [headP, h1, h2, h3]
      have HH := Lib.hid hhd
      clear hhd h1 h2 h3
      have hlen : args.length ≤ 9000000000000000000 := by obtain ⟨_, _, _, hf, _⟩ := hv; unfold fitsR at hf; omega
      go_wp2_with fail
      clear x0 x1 x2 x3 hp2 b1 b2 b3
      have hBne : B ≠ w.heap.size := by omega
      go_loopw [71] (fun i wr => ∃ (k : Nat) (mk : Int), k ≤ args.length ∧ i = .int .i64 k ∧ Boxed wr B 3 (.int .i64 mk) ∧ okL d (m - 1) args = okL d mk (args.drop k) ∧ m - 1 - (nodesL args : Int) = mk - (nodesL (args.drop k) : Int) ∧ 0 ≤ mk ∧ mk ≤ 200 ∧
          wr.heap[w.heap.size]? = some (.cells #[.int .u8 op, .int .i64 n, .string nm, .slice a args.length cap] 41 (0, 0)) ∧ Chg (fun q => q = B) w wr) (fun i _ => args.length - (intOf i).toNat)
      case atStart => exact ⟨0, m - 1, Nat.zero_le _, rfl, WB3, rfl, rfl, by omega, by omega, WX3, C3⟩
      case round =>
        obtain ⟨k, mk, hk, rfl, RB, hok, hno, hk0, hk1, RX, RC⟩ := hrel
        have HO := Lib.hid hok
        have HN := Lib.hid hno
        clear hok hno
        by_cases hlt : k < args.length
        · have hx := List.getElem?_eq_getElem hlt
          have hix := HI.out _ (List.getElem_mem hlt)
          have E1 := Ext.then hE RC (fun b hb => by omega)
          obtain ⟨b, o, v, rfl, _, hb, z0, z1, z2, z3, _, _, hxn, hvx⟩ := hv.get hx
          have c0 := Ext.cell E1 z0
          have c1 := Ext.cell E1 z1
          have c2 := Ext.cell E1 z2
          have c3 := Ext.cell E1 z3
          clear z0 z1 z2 z3
          have ho1 := Lib.hid (okL_at (d := d) (m := mk) hx)
          have hn1 := Lib.hid (nodesL_at hx)
          have q1 : (k : Int) < (args.length : Int) := by omega
          generalize args[k] = x at *
          have hcall := fun W' (hE' : Ext w0 W') (hb' : Boxed W' B 3 (.int .i64 mk)) => hix v w0 W' B mk d hvx hxn hE' hB hb' hk0 hk1 (by omega)
          obtain ⟨a2, cap2, rfl, _⟩ := hvx.form
          have HC := Lib.hid hcall
          clear hcall hix hx hvx
          have HX := Lib.hid RX
          clear RX
          go_wp2_with fail
          refine (HC.out _ (E1.alloc _) (RB.alloc _)).mono ?_
          rintro e w4 ⟨m', rfl, R4, hm4, C4⟩
          have C5 : Chg (fun q => q = B) w w4 := (RC.alloc _).trans C4
          have X4 : w4.heap[w.heap.size]? = some (.cells #[.int .u8 op, .int .i64 n, .string nm, .slice (some ⟨b, o, none⟩) args.length cap] 41 (0, 0)) := C4.heap (Ext.heap ((Chg.refl _ _).alloc _) HX.out) (fun h => hBne h.symm)
          cases hb4 : okE d mk x
          · have hfin := Lib.hid (show okE (d + 1) m (.mk op n nm args) = false by rw [hnd.out, HO.out, ho1.out, hb4]; simp)
            go_wp2_with fail
            go_ret
            exact retChk hfin.out R4 no_true C5
          · have hm5 := hm4 hb4
            have hle := (okE_iff.1 hb4).2
            have hO : Hid (okL d (m - 1) args = okL d m' (args.drop (k + 1))) := by
              show _ = _
              rw [HO.out, ho1.out, hb4, hm5]; rfl
            have hN : Hid (m - 1 - (nodesL args : Int) = m' - (nodesL (args.drop (k + 1)) : Int)) := by
              show _ = _
              rw [HN.out, hn1.out, hm5]; omega
            clear hm4 hb4
            go_wp2_with fail
            go_roundw
            case rel =>
              exact ⟨k + 1, m', by omega, by go_num, R4, hO.out, hN.out, by omega, by omega, X4, C5⟩
            case measure => simp [intOf]; omega
        · obtain rfl : k = args.length := by omega
          have x1 := blk_cell RX 1
          have x2 := blk_cell RX 2
          simp only [List.getElem?_toArray, List.getElem?_cons_zero, List.getElem?_cons_succ] at x1 x2
          have hO : okL d (m - 1) args = true := by rw [HO.out, List.drop_length, okL_iff]; simp only [wfL, nodesL]; exact ⟨trivial, by omega⟩
          have hN : m - 1 - (nodesL args : Int) = mk := by rw [HN.out, List.drop_length]; simp only [nodesL]; omega
          have hfin : okE (d + 1) m (.mk op n nm args) = (decide (n = 0) && nm.toList.isEmpty) := by rw [hnd.out, hO, HH.out]; simp
          have hnod : mk = m - (nodesE (.mk op n nm args) : Int) := by simp only [nodesE]; omega
          have HF := Lib.hid hfin
          have HD := Lib.hid hnod
          clear hO hN hfin hnod RX
          by_cases hn : n = 0
          · subst hn
            go_wp2_with fail
            go_ret
            exact retChk (HF.out.trans (by simp)) RB (fun _ => HD.out) RC
          · have bn : (n == 0) = false := by simpa using hn
            have HNN := Lib.hid hn
            go_wp2_with fail
            go_ret
            exact retChk (HF.out.trans (by simp [HNN.out])) RB (fun _ => HD.out) RC
    · have hp2 : (partsP op != (args.length : Int)) = true := by simpa using hp
      have hq := ok_odd (d := d) (m := m) (n := n) (nm := nm) hp
      have HQ := Lib.hid hq
      clear hq hp
      go_wp2_with fail
      go_ret
      exact retChk HQ.out WB3 no_true C3
end Go.Proofs.YtgkbhonjodcakaaGreat
namespace Go.Proofs.YtgkbhonjodcakaaGreat
open Go.RowKit
set_option linter.unusedVariables false

set_option maxHeartbeats 1000000 in
/-- exprs.Check. -/
theorem exCheck_any (x : Ex) (v : Value) (w : World) (hv : RdExV w 0 false x.args v) (hnm : x.name.size ≤ maxLen) :
    Calls Tryz.prog 69 #[.agg #[.int .u8 x.op, .int .i64 x.n, .string x.name, v]] w fun e w' => e = .returned (.bool (okE 32 200 x)) ∧ Ext w w' := by
  have hc := fun W B (hE : Ext w W) (hB : w.heap.size ≤ B) (hb : Boxed W B 3 (.int .i64 200)) => check_any x v w W B 200 32 hv hnm hE hB hb (by omega) (by omega) (by omega)
  obtain ⟨a, cap, rfl, _⟩ := hv.form
  have hc' : ∀ W B, Ext w W → w.heap.size ≤ B → Boxed W B 3 (.int .i64 200) → Calls Tryz.prog 107 #[.agg #[.int .u8 x.op, .int .i64 x.n, .string x.name, .slice a x.args.length cap], .pointer (some ⟨B, 0, none⟩), .int .i64 32] W (RetChk W B x 32 200) := hc
  have HC := Lib.hid hc'
  clear hc hc' hv
  have hb := Boxed.new (w.alloc (.cells #[.int .u8 x.op, .int .i64 x.n, .string x.name, .slice a x.args.length cap] 41)) 3 (.int .i64 200)
  rw [World.size_alloc] at hb
  have HB := Lib.hid hb
  generalize hr : okE 32 200 x = r
  have hE0 : Ext w ((w.alloc (.cells #[.int .u8 x.op, .int .i64 x.n, .string x.name, .slice a x.args.length cap] 41)).alloc (.cells #[.int .i64 200] 3)) := ((Chg.refl _ _).alloc _).alloc _
  clear hb
  go_enter Tryz.func69, Tryz.ntmps69
  go_wp2_with fail
  refine (HC.out _ _ hE0 (by omega) HB.out).mono ?_
  rintro e w1 ⟨m', he, _, _, hC⟩
  rw [hr] at he
  subst he
  have E1 : Ext w w1 := Ext.then hE0 hC (fun b hb => by omega)
  go_wp2_with fail
  go_ret
  exact ⟨rfl, E1⟩
end Go.Proofs.YtgkbhonjodcakaaGreat
namespace Go.Proofs.YtgkbhonjodcakaaGreat
open Go.RowKit
set_option linter.unusedVariables false

/-- A reference: a name, how many instants ago. -/
abbrev Rf := ByteArray × Int
def rfC (r : Rf) : List Value := [.string r.1, .int .i64 r.2]
theorem rfC_len (r : Rf) : (rfC r).length = 2 := rfl
def stepR (l : List Rf) (op : Int) (nm : ByteArray) (ago : Int) : List Rf := if op = 3 ∧ (l.any fun r => decide (r = (nm, ago))) = false then l ++ [(nm, ago)] else l
def agoP (op ago : Int) : Int := if op = 19 then wrap64 (ago + 1) else ago
mutual
/-- What is asked for, behind others, each once. -/
def gthE : List Rf → Int → Ex → List Rf
  | l, ago, .mk op _ nm args => gthL (stepR l op nm ago) (agoP op ago) args
def gthL : List Rf → Int → List Ex → List Rf
  | l, _, [] => l
  | l, ago, x :: r => gthL (gthE l ago x) ago r
end
theorem stepR_le (l : List Rf) (op : Int) (nm : ByteArray) (ago : Int) : (stepR l op nm ago).length ≤ l.length + 1 := by
  unfold stepR
  split <;> simp
mutual
theorem gthE_le : ∀ (x : Ex) (l : List Rf) (ago : Int), (gthE l ago x).length ≤ l.length + nodesE x
  | .mk op n nm args, l, ago => by
    simp only [gthE, nodesE]
    have := gthL_le args (stepR l op nm ago) (agoP op ago)
    have := stepR_le l op nm ago
    omega
theorem gthL_le : ∀ (xs : List Ex) (l : List Rf) (ago : Int), (gthL l ago xs).length ≤ l.length + nodesL xs
  | [], l, ago => by simp only [gthL, nodesL]; omega
  | x :: r, l, ago => by
    simp only [gthL, nodesL]
    have := gthE_le x l ago
    have := gthL_le r (gthE l ago x) ago
    omega
end
/-- A list of references of one's own, in memory. -/
def RfV (w : World) (base : Nat) (l : List Rf) (v : Value) : Prop := w.ownsRow base 78 2 v l.length (l.flatMap rfC)
theorem RfV.form {w : World} {base : Nat} {l : List Rf} {v : Value} (h : RfV w base l v) : ∃ a cap, v = .slice a l.length cap := by
  rcases h.2 with ⟨h0, h1⟩ | ⟨g, cap, cur, h1, _⟩
  · exact ⟨none, 0, by rw [h0, h1]⟩
  · exact ⟨_, _, h1⟩
theorem flat2_at {l : List Rf} {i : Nat} {r : Rf} (h : l[i]? = some r) {j : Nat} (hj : j < 2) : (l.flatMap rfC)[i * 2 + j]? = (rfC r)[j]? := by
  induction l generalizing i with
  | nil => simp at h
  | cons y t ih =>
    cases i with
    | zero =>
      simp only [List.getElem?_cons_zero, Option.some.injEq] at h
      subst h
      rw [List.flatMap_cons, List.getElem?_append_left (by simp [rfC]; omega)]
      simp
    | succ i =>
      simp only [List.getElem?_cons_succ] at h
      rw [List.flatMap_cons, List.getElem?_append_right (by simp [rfC]; omega), show (i + 1) * 2 + j - (rfC y).length = i * 2 + j from by simp [rfC]; omega]
      exact ih h
theorem RfV.get {w : World} {base n : Nat} {l : List Rf} {a : Option Addr} {cap : Nat} (h : RfV w base l (.slice a n cap)) {i : Nat} {r : Rf} (hr : l[i]? = some r) :
    ∃ g, a = some ⟨g, 0, none⟩ ∧ w.cell? ⟨g, i * 2, none⟩ = some (.string r.1) ∧ w.cell? ⟨g, i * 2 + 1, none⟩ = some (.int .i64 r.2) := by
  have hi : i < l.length := (List.getElem?_eq_some_iff.1 hr).1
  have h0 := h
  rcases h.2 with ⟨h0, h1⟩ | ⟨g, c', cur, h1, _⟩
  · omega
  · simp only [Value.slice.injEq] at h1
    obtain ⟨rfl, rfl, rfl⟩ := h1
    have c0 := World.ownsRow.cellAt h (i * 2) (by omega)
    have c1 := World.ownsRow.cellAt h (i * 2 + 1) (by omega)
    rw [show i * 2 = i * 2 + 0 from rfl, flat2_at hr (by omega)] at c0
    rw [flat2_at hr (by omega)] at c1
    exact ⟨g, rfl, c0, c1⟩
theorem RfV.chg {w w' : World} {base : Nat} {l : List Rf} {v : Value} (h : RfV w base l v) {S : Nat → Prop} (hc : Chg S w w') (hS : ∀ g, v.ownBlock = some g → ¬ S g) : RfV w' base l v := by
  refine ⟨h.1, ?_⟩
  rcases h.2 with ⟨h0, h1⟩ | ⟨g, cap, cur, h1, h2, h3, h4⟩
  · exact .inl ⟨h0, h1⟩
  · exact .inr ⟨g, cap, cur, h1, h2, (hc.block g (lt_of_block h3) (hS g (by rw [h1]; rfl))).trans h3, h4⟩
theorem RfV.nil (w : World) (base : Nat) : RfV w base [] (.slice none 0 0) := World.ownsRow_nil _ _ _ _
theorem infoRf : (Tryz.prog.info? 78).map (fun i => (i.zero, i.size, i.bytes)) = some (some (.agg #[.string ByteArray.empty, .int .i64 0]), 2, 24) := by kernel_rfl
end Go.Proofs.YtgkbhonjodcakaaGreat
namespace Go.Proofs.YtgkbhonjodcakaaGreat
open Go.RowKit Go.Maps Go.WideMaps
set_option linter.unusedVariables false

theorem rfLaid : laidOutB Tryz.prog = true := by kernel_rfl
theorem rfRow : (78 : TypeId) < Tryz.prog.types.size := of_decide_eq_true (by kernel_rfl)
theorem rfCells : Tryz.prog.cellsOf 78 = 2 := by kernel_rfl
theorem rfWide : (match Tryz.prog.underlying 78 with | some (.array _ _) | some (.struct _) => true | _ => false) = true := by rw [Tryz.underlying78]
theorem rfDeep : Tryz.prog.keyTypeAt 2 78 = true := by kernel_rfl
set_option maxRecDepth 100000 in
theorem rfKL : KeyLaw Tryz.prog 78 := deep_law_laid rfLaid (m := 2) (by omega) rfRow rfDeep rfWide
theorem rfLaw : Keyed Tryz.prog 78 := Keyed.of_law rfKL
def rfV (r : Rf) : Value := .agg #[.string r.1, .int .i64 r.2]
def okR (r : Rf) : Prop := r.1.size ≤ maxLen ∧ isI64 r.2
theorem wf_of_i64 {n : Int} (h : isI64 n) : (Lit.int .i64 n).wf = true := by simpa [isI64, Lit.wf, IntKind.min, IntKind.max, IntKind.signed, IntKind.bits] using h
theorem rfKey {r : Rf} (h : okR r) : ∃ kl, keyOf Tryz.prog 78 (rfV r) = some kl := by
  obtain ⟨m, hm⟩ : ∃ m, Tryz.prog.types.size = m + 1 := Nat.exists_eq_succ_of_ne_zero (fun h => by have := rfRow; rw [h] at this; exact Nat.not_lt_zero _ this)
  have hK : Tryz.prog.keyType 78 = true := by kernel_rfl
  have hF : (rfV r).formed Tryz.prog 78 = true := by simp [rfV, Value.formed, Tryz.underlying78, rfCells]
  have c9 : Tryz.prog.cellsOf 9 = 1 := by kernel_rfl
  have c3 : Tryz.prog.cellsOf 3 = 1 := by kernel_rfl
  have hL : ∃ ls, Tryz.prog.keyLits (Tryz.prog.types.size + 1) 78 (rfV r).cells.toList = some ls := by
    rw [hm]
    simp [Program.keyLits, Tryz.underlying78, rfV, Value.cells, rfCells, c9, c3, Tryz.underlying9, Tryz.underlying3, h.1, wf_of_i64 h.2]
  obtain ⟨ls, hls⟩ := hL
  refine ⟨.string (keyBytes ls), ?_⟩
  unfold keyOf
  rw [Tryz.underlying78]
  simp only [hK, hF, Bool.and_self, if_true, hls, Option.map_some]
theorem plainB {P : Program} {e : TypeId} (he : P.underlying e = some .bool) (b : Bool) : plainElem (H := Unit) P e (.bool b) = some (.lit (.bool b), []) := by simp [plainElem, he]
theorem plainB_inv {P : Program} {e : TypeId} (he : P.underlying e = some .bool) {v : Value} {z : DataW Unit × List MemPlace} (h : plainElem P e v = some z) : ∃ b, v = .bool b ∧ z = (.lit (.bool b), []) := by
  unfold plainElem at h
  rw [he] at h
  cases v <;> simp at h
  subst h
  exact ⟨_, rfl, rfl⟩
/-- Block b is a set of just these, of at most n. -/
def SetV (w : World) (b n : Nat) (l : List Rf) : Prop := ∃ D : DataW Unit, w.ownsMap Tryz.prog 78 (plainElem Tryz.prog 4) b n D ∧ IsMap D ∧ ∀ r kl, keyOf Tryz.prog 78 (rfV r) = some kl → D.atKey kl (.lit (.bool false)) = .lit (.bool (l.any fun q => decide (q = r)))
theorem SetV.made (w : World) : SetV (w.alloc (.map #[] 0)) w.heap.size 0 [] := ⟨_, World.ownsMap_made w _ _ _, ⟨_, rfl⟩, fun r kl _ => rfl⟩
theorem SetV.chg {w w' : World} {b n : Nat} {l : List Rf} (h : SetV w b n l) {S : Nat → Prop} (hc : Chg S w w') (hS : ¬ S b) : SetV w' b n l := by
  obtain ⟨D, ⟨es, clock, hb, h2⟩, h3⟩ := h
  exact ⟨D, ⟨es, clock, (hc.block b (Array.getElem?_eq_some_iff.1 hb).1 hS).trans hb, h2⟩, h3⟩
theorem SetV.lt {w : World} {b n : Nat} {l : List Rf} (h : SetV w b n l) : b < w.heap.size := by
  obtain ⟨D, h1, _⟩ := h
  exact h1.lt
theorem zeroB (w : World) : (zeroValue 4).run Tryz.prog w = .ok (.bool false) w := by
  kernel_rfl
theorem SetV.look {w : World} {b n : Nat} {l : List Rf} (h : SetV w b n l) {r : Rf} (hr : okR r) : (Instr.lookup 169 (.map (some b)) (rfV r) false).run Tryz.prog w = .ok (.bool (l.any fun q => decide (q = r))) w := by
  obtain ⟨D, h1, _, h3⟩ := h
  obtain ⟨kl, hkl⟩ := rfKey hr
  obtain ⟨v, ps, hrun, hv⟩ := h1.lookup rfLaw Tryz.underlying169 (zeroB w) (plainB Tryz.underlying4 false) hkl
  obtain ⟨c, rfl, hz⟩ := plainB_inv Tryz.underlying4 hv
  rw [h3 r kl hkl] at hz
  simp only [Prod.mk.injEq, DataW.lit.injEq, Lit.bool.injEq] at hz
  rw [hrun, hz.1]
theorem SetV.put {w : World} {b n : Nat} {l : List Rf} (h : SetV w b n l) {r : Rf} (hr : okR r) (hn : n < maxLen) : ∃ w', (Instr.mapUpdate 169 (.map (some b)) (rfV r) (.bool true)).run Tryz.prog w = .ok () w' ∧ SetV w' b (n + 1) (l ++ [r]) ∧ Chg (fun q => q = b) w w' := by
  obtain ⟨D, h1, h2, h3⟩ := h
  obtain ⟨kl, hkl⟩ := rfKey hr
  obtain ⟨w', hrun, ho, hg⟩ := h1.update rfLaw Tryz.underlying169 hn hkl (plainB Tryz.underlying4 true)
  refine ⟨w', hrun, ⟨_, ho, ?_, fun r' kl' hk' => ?_⟩, ⟨hg.os, hg.tape, hg.output, hg.size, fun k hk hn => hg.block k hk (fun e => hn (by simpa using e))⟩⟩
  · obtain ⟨es, rfl⟩ := h2
    exact ⟨_, rfl⟩
  · by_cases e : r' = r
    · subst e
      rw [hkl] at hk'
      obtain rfl := Option.some.inj hk'
      rw [atKey_put_same h2 (rfLaw.key hkl)]
      simp
    · have hne : kl' ≠ kl := fun he => by
        subst he
        have := rfLaw.inj hk' hkl
        simp only [rfV, Value.agg.injEq, Array.mk.injEq, List.cons.injEq, Value.string.injEq, Value.int.injEq, true_and, and_true] at this
        exact e (Prod.ext this.1 this.2)
      rw [atKey_put_other hne, h3 r' kl' hk', List.any_append]
      simp [Ne.symm e]
end Go.Proofs.YtgkbhonjodcakaaGreat
namespace Go.Proofs.YtgkbhonjodcakaaGreat
open Go.RowKit Go.Maps Go.WideMaps
set_option linter.unusedVariables false
set_option linter.unusedSimpArgs false

theorem strKeyed : Keyed Tryz.prog 9 := string_keyed Tryz.underlying9
theorem strKey {s : ByteArray} (h : s.size ≤ maxLen) : keyOf Tryz.prog 9 (.string s) = some (.string s.data.toList) := keyOf_string_mk Tryz.underlying9 h
theorem strLit_inj {s t : ByteArray} (h : (Lit.string s.data.toList) = Lit.string t.data.toList) : s = t := by
  simp only [Lit.string.injEq] at h
  cases s; cases t
  simp only [Array.toList_inj] at h
  rw [h]
/-- A thing's value. -/
def IsTh (v : Value) : Prop := ∃ a b c, v = .agg #[.int .i64 a, .int .u8 b, .int .i64 c]
open Classical in
/-- How a thing reads in the map: it is there. -/
noncomputable def thR (v : Value) : Option (DataW Unit × List MemPlace) := if IsTh v then some (.lit (.bool true), []) else none
theorem thR_mk (a b c : Int) : thR (.agg #[.int .i64 a, .int .u8 b, .int .i64 c]) = some (.lit (.bool true), []) := if_pos ⟨a, b, c, rfl⟩
theorem thR_inv {v : Value} {z : DataW Unit × List MemPlace} (h : thR v = some z) : ∃ a b c, v = .agg #[.int .i64 a, .int .u8 b, .int .i64 c] := by
  unfold thR at h
  split at h
  · assumption
  · cases h
/-- Block b is a map of things with just these names. -/
def ThV (w : World) (b n : Nat) (l : List ByteArray) : Prop := ∃ D : DataW Unit, w.ownsMap Tryz.prog 9 thR b n D ∧ IsMap D ∧ ∀ s : ByteArray, has D (.string s.data.toList) = l.any fun q => decide (q = s)
theorem ThV.made (w : World) : ThV (w.alloc (.map #[] 0)) w.heap.size 0 [] := ⟨_, World.ownsMap_made w _ _ _, ⟨_, rfl⟩, fun s => rfl⟩
theorem ThV.lt {w : World} {b n : Nat} {l : List ByteArray} (h : ThV w b n l) : b < w.heap.size := by
  obtain ⟨D, h1, _⟩ := h
  exact h1.lt
theorem ThV.kept {w w' : World} {row : Option Nat} {b n : Nat} {l : List ByteArray} (h : ThV w b n l) (hg : w.grownBy w' row) (hne : some b ≠ row) : ThV w' b n l := by
  obtain ⟨D, h1, h2⟩ := h
  exact ⟨D, h1.kept hg hne, h2⟩
theorem ThV.alloc {w : World} {b n : Nat} {l : List ByteArray} (h : ThV w b n l) (o : Obj) : ThV (w.alloc o) b n l := h.kept (World.grownBy_alloc w o none) (by simp)
theorem ThV.chg {w w' : World} {b n : Nat} {l : List ByteArray} (h : ThV w b n l) {S : Nat → Prop} (hc : Chg S w w') (hS : ¬ S b) : ThV w' b n l := by
  obtain ⟨D, ⟨es, clock, hb, h2⟩, h3⟩ := h
  exact ⟨D, ⟨es, clock, (hc.block b (Array.getElem?_eq_some_iff.1 hb).1 hS).trans hb, h2⟩, h3⟩
theorem zeroTh (w : World) : (zeroValue 153).run Tryz.prog w = .ok (.agg #[.int .i64 0, .int .u8 0, .int .i64 0]) w := by
  kernel_rfl
theorem ThV.look {w : World} {b n : Nat} {l : List ByteArray} (h : ThV w b n l) {s : ByteArray} (hs : s.size ≤ maxLen) :
    ∃ x y z : Int, (Instr.lookup 149 (.map (some b)) (.string s) true).run Tryz.prog w = .ok (.tuple #[.agg #[.int .i64 x, .int .u8 y, .int .i64 z], .bool (l.any fun q => decide (q = s))]) w := by
  obtain ⟨D, h1, _, h3⟩ := h
  obtain ⟨v, ps, hrun, hv⟩ := h1.look_ok strKeyed Tryz.underlying149 (zeroTh w) (thR_mk 0 0 0) (strKey hs)
  obtain ⟨x, y, z, rfl⟩ := thR_inv hv
  exact ⟨x, y, z, by rw [hrun, h3 s]⟩
theorem ThV.put {w : World} {b n : Nat} {l : List ByteArray} (h : ThV w b n l) {s : ByteArray} (hs : s.size ≤ maxLen) (hn : n < maxLen) (x y z : Int) :
    ∃ w', (Instr.mapUpdate 149 (.map (some b)) (.string s) (.agg #[.int .i64 x, .int .u8 y, .int .i64 z])).run Tryz.prog w = .ok () w' ∧ ThV w' b (n + 1) (l ++ [s]) ∧ w.grownBy w' (some b) := by
  obtain ⟨D, h1, h2, h3⟩ := h
  obtain ⟨w', hrun, ho, hg⟩ := h1.update strKeyed Tryz.underlying149 hn (strKey hs) (thR_mk x y z)
  refine ⟨w', hrun, ⟨_, ho, ?_, fun s' => ?_⟩, hg⟩
  · obtain ⟨es, rfl⟩ := h2
    exact ⟨_, rfl⟩
  · by_cases e : s' = s
    · subst e
      rw [has_put_same h2 (strKeyed.key (strKey hs))]
      simp
    · have hne : Lit.string s'.data.toList ≠ Lit.string s.data.toList := fun he => e (strLit_inj he)
      rw [has_put_other hne, h3 s', List.any_append]
      simp [Ne.symm e]
/-- Block b is a set of just these strings. -/
def OutV (w : World) (b n : Nat) (l : List ByteArray) : Prop := ∃ D : DataW Unit, w.ownsMap Tryz.prog 9 (plainElem Tryz.prog 4) b n D ∧ IsMap D ∧ ∀ s : ByteArray, D.atKey (.string s.data.toList) (.lit (.bool false)) = .lit (.bool (l.any fun q => decide (q = s)))
theorem OutV.made (w : World) : OutV (w.alloc (.map #[] 0)) w.heap.size 0 [] := ⟨_, World.ownsMap_made w _ _ _, ⟨_, rfl⟩, fun s => rfl⟩
theorem OutV.lt {w : World} {b n : Nat} {l : List ByteArray} (h : OutV w b n l) : b < w.heap.size := by
  obtain ⟨D, h1, _⟩ := h
  exact h1.lt
theorem OutV.chg {w w' : World} {b n : Nat} {l : List ByteArray} (h : OutV w b n l) {S : Nat → Prop} (hc : Chg S w w') (hS : ¬ S b) : OutV w' b n l := by
  obtain ⟨D, ⟨es, clock, hb, h2⟩, h3⟩ := h
  exact ⟨D, ⟨es, clock, (hc.block b (Array.getElem?_eq_some_iff.1 hb).1 hS).trans hb, h2⟩, h3⟩
theorem OutV.look {w : World} {b n : Nat} {l : List ByteArray} (h : OutV w b n l) {s : ByteArray} (hs : s.size ≤ maxLen) : (Instr.lookup 157 (.map (some b)) (.string s) false).run Tryz.prog w = .ok (.bool (l.any fun q => decide (q = s))) w := by
  obtain ⟨D, h1, _, h3⟩ := h
  obtain ⟨v, ps, hrun, hv⟩ := h1.lookup strKeyed Tryz.underlying157 (zeroB w) (plainB Tryz.underlying4 false) (strKey hs)
  obtain ⟨c, rfl, hz⟩ := plainB_inv Tryz.underlying4 hv
  rw [h3 s] at hz
  simp only [Prod.mk.injEq, DataW.lit.injEq, Lit.bool.injEq] at hz
  rw [hrun, hz.1]
theorem OutV.put {w : World} {b n : Nat} {l : List ByteArray} (h : OutV w b n l) {s : ByteArray} (hs : s.size ≤ maxLen) (hn : n < maxLen) : ∃ w', (Instr.mapUpdate 157 (.map (some b)) (.string s) (.bool true)).run Tryz.prog w = .ok () w' ∧ OutV w' b (n + 1) (l ++ [s]) ∧ Chg (fun q => q = b) w w' := by
  obtain ⟨D, h1, h2, h3⟩ := h
  obtain ⟨w', hrun, ho, hg⟩ := h1.update strKeyed Tryz.underlying157 hn (strKey hs) (plainB Tryz.underlying4 true)
  refine ⟨w', hrun, ⟨_, ho, ?_, fun s' => ?_⟩, ⟨hg.os, hg.tape, hg.output, hg.size, fun k hk hn => hg.block k hk (fun e => hn (by simpa using e))⟩⟩
  · obtain ⟨es, rfl⟩ := h2
    exact ⟨_, rfl⟩
  · by_cases e : s' = s
    · subst e
      rw [atKey_put_same h2 (strKeyed.key (strKey hs))]
      simp
    · have hne : Lit.string s'.data.toList ≠ Lit.string s.data.toList := fun he => e (strLit_inj he)
      rw [atKey_put_other hne, h3 s', List.any_append]
      simp [Ne.symm e]
end Go.Proofs.YtgkbhonjodcakaaGreat
namespace Go.Proofs.YtgkbhonjodcakaaGreat
open Go.RowKit Go.Shelf
attribute [local go_sem] Oper.semAt_some
set_option linter.unusedVariables false
set_option linter.unusedSimpArgs false

/-- What a round may write: nothing that lay ahead of w0, nor the iterator's box. -/
def KpS (n0 Bs : Nat) (k : Nat) : Prop := n0 ≤ k ∧ k ≠ Bs
def clipS (s : ByteArray) : ByteArray := if s.size ≤ maxLen then s else ⟨#[]⟩
theorem clipS_size (s : ByteArray) : (clipS s).size ≤ maxLen := by
  unfold clipS
  split
  · assumption
  · decide
theorem clipS_same {s : ByteArray} (h : s.size ≤ maxLen) : clipS s = s := by unfold clipS; rw [if_pos h]
/-- A thing's value, of a name that may be. -/
def thingC (x : Thing) : Array Value := #[.string (clipS x.1), .agg #[.int .i64 x.2.1, .int .u8 x.2.2.1, .int .i64 x.2.2.2]]
theorem kpC_t {S : Nat → Prop} {A B C : World} (h : Chg S A B) (k : Chg S B C) : Chg S A C := h.trans k
theorem kpC_b {n0 Bs : Nat} {w : World} (hn : n0 ≤ w.heap.size) (hB : Bs < w.heap.size) (W : World) (l : Nat) (o o' : Obj) (hl : w.heap.size ≤ l) (h : W.heap[l]? = some o) (_ : o.isCells = false) (_ : o.isWalk = false) : Chg (KpS n0 Bs) W (W.putObj l o') := by
  have hg := grownBy_putObj' W l o'
  exact ⟨hg.os, hg.tape, hg.output, hg.size, fun k hk hS => hg.block k hk (fun e => by
    simp only [Option.some.injEq] at e
    subst e
    exact hS ⟨by omega, by omega⟩)⟩
set_option maxRecDepth 100000 in
set_option maxHeartbeats 4000000 in
theorem things_iterC (F : Fence) (n : Nat) (hf : F.fn 105) (hro : F.round = none) (hn : 1 ≤ n) (Bs : Nat) (p : PrD) (w0 w : World) (hE0 : Ext w0 w) (ai af ao : Option Addr) (ci cf co : Nat)
    (hi : RdInV w0 0 false p.ins (.slice ai p.ins.length ci)) (hfl : RdFlV w0 0 false p.flows (.slice af p.flows.length cf)) (hB : Bs < w.heap.size)
    (b1 : w.cell? ⟨Bs, 1, none⟩ = some (.slice ai p.ins.length ci)) (b2 : w.cell? ⟨Bs, 2, none⟩ = some (.slice af p.flows.length cf)) :
    SeqStopsK F n Tryz.prog 105 #[.pointer (some ⟨Bs, 0, none⟩)] thingC (Chg (KpS w0.heap.size Bs)) (fun ys => ys = thingsL p) (fun pre => ∃ k, k ≤ (thingsL p).length ∧ pre = (thingsL p).take k) (thingsL p).length w := fun l J Jx W hW hJ hJx hY h0 => by
  have n1 : p.ins.length ≤ 9000000000000000000 := by obtain ⟨_, _, e, h, _⟩ := hi; unfold fitsR at h; omega
  have n2 : p.flows.length ≤ 9000000000000000000 := by obtain ⟨_, _, e, h, _⟩ := hfl; unfold fitsR at h; omega
  have hC0 : Chg (KpS w0.heap.size Bs) w W := (Ext.of_below hW).mono (fun _ _ h => h.elim)
  have hnB : ¬ KpS w0.heap.size Bs Bs := fun h => h.2 rfl
  have hX : ∀ {V : World}, Chg (KpS w0.heap.size Bs) w V → Ext w0 V := fun h => Ext.then hE0 h (fun b hb => hb.1)
  have y1 := hC0.cell b1 hnB
  have hal : ∀ (pre : List Thing) (wr : World) (o : Obj), J pre wr → J pre (wr.alloc o) := fun pre wr o h => hJ pre wr _ none h ⟨rfl, rfl, rfl, by simp, fun k hk _ => Below.heap_alloc _ _ _ hk⟩ (fun r e => by cases e)
  refine callsIn_of_wp Tryz.func105 rfl hf ?_ hro
  simp only [Tryz.ntmps105, List.size_toArray, List.length_cons, List.length_nil, Nat.reduceAdd, Nat.reduceSub, Array.replicate_succ, Array.replicate_zero, List.push_toArray, List.append_toArray, List.nil_append, List.cons_append]
  gi_wp2
  gi_loopw [10] (fun i wr => ∃ k : Nat, k ≤ p.ins.length ∧ i = .int .i64 k ∧ J ((thingsL p).take k) wr ∧ Chg (KpS w0.heap.size Bs) w wr) (fun i _ => p.ins.length - (intOf i).toNat)
  case atStart => exact ⟨0, Nat.zero_le _, rfl, h0, hC0⟩
  case round =>
    obtain ⟨k, hk, rfl, hJs, hE⟩ := hrel
    by_cases hlt : k < p.ins.length
    · have hx := List.getElem?_eq_getElem hlt
      obtain ⟨_, _, e, _, _, _, hr, _⟩ := hi.ext (hX hE)
      simp only [Value.slice.injEq, true_and] at e
      obtain ⟨rfl, rfl⟩ := e
      obtain ⟨hnm, _, _, b, o, rfl, _, hb, c0, c1, c2⟩ := hr k _ hx
      have htk := take_in hx
      generalize p.ins[k] = x at *
      have hJ2 := hal _ wr (.cells #[.string x.name, .int .u8 x.ty, .int .i64 x.st] 147) hJs
      obtain ⟨fn, tmps, assign, body, hy, hR⟩ := hY _ (inT x) _ hJ2 (by rw [List.length_take, thingsL_len]; omega)
      simp only [thingC, inT] at hy
      rw [clipS_same hnm] at hy
      gi_wp2
      refine hR.mono ?_
      rintro e W3 (⟨rfl, hJ3, hk3⟩ | ⟨rfl, hJx3⟩)
      · have hE3 : Chg (KpS w0.heap.size Bs) w W3 := (Chg.alloc hE _).trans hk3
        rw [← htk] at hJ3
        have H3 := Lib.hid hJ3
        clear hJ3 hk3 hy hR hr hJ2 hJs hE
        gi_wp2
        go_roundw
        case rel => exact ⟨k + 1, by omega, by go_num, H3.out, hE3⟩
        case measure => simp [intOf]; omega
      · rw [← htk] at hJx3
        have H3 := Lib.hid hJx3
        clear hJx3 hy hR hr hJ2 hJs hE
        gi_wp2
        refine bodyPost_ret (results_none rfl _ _ _) rfl ?_
        exact ⟨⟨_, rfl⟩, .inr ⟨_, ⟨k + 1, by rw [thingsL_len]; omega, rfl⟩, H3.out⟩⟩
    · obtain rfl : k = p.ins.length := by omega
      have y2 := hE.cell b2 hnB
      gi_wp2
      gi_loopw [28] (fun i wr => ∃ k : Nat, k ≤ p.flows.length ∧ i = .int .i64 k ∧ J ((thingsL p).take (p.ins.length + k)) wr ∧ Chg (KpS w0.heap.size Bs) w wr) (fun i _ => p.flows.length - (intOf i).toNat)
      case atStart => exact ⟨0, Nat.zero_le _, rfl, hJs, hE⟩
      case round =>
        clear hJs hE y2
        obtain ⟨k, hk, rfl, hJs, hE⟩ := hrel
        by_cases hlt : k < p.flows.length
        · have hx := List.getElem?_eq_getElem hlt
          obtain ⟨_, _, e, _, _, _, hr, _⟩ := hfl.ext (hX hE)
          simp only [Value.slice.injEq, true_and] at e
          obtain ⟨rfl, rfl⟩ := e
          obtain ⟨hnm, _, _, _, b, o, rfl, _, hb, c0, c1, c2, c3, _, _, _, v, hvx, c4, c5, c6, c7⟩ := hr k _ hx
          obtain ⟨va, vc, rfl, _⟩ := hvx
          have htk := take_fl hx
          generalize p.flows[k] = x at *
          have hJ2 := hal _ wr (.cells #[.string x.name, .int .u8 x.ty, .int .i64 x.st, .int .i64 x.df, .int .u8 x.body.op, .int .i64 x.body.n, .string x.body.name, .slice va x.body.args.length vc] 43) hJs
          obtain ⟨fn, tmps, assign, body, hy, hR⟩ := hY _ (flT k x) _ hJ2 (by rw [List.length_take, thingsL_len]; omega)
          simp only [thingC, flT] at hy
          rw [clipS_same hnm] at hy
          clear hr
          gi_wp2
          refine hR.mono ?_
          rintro e W3 (⟨rfl, hJ3, hk3⟩ | ⟨rfl, hJx3⟩)
          · have hE3 : Chg (KpS w0.heap.size Bs) w W3 := (Chg.alloc hE _).trans hk3
            rw [← htk] at hJ3
            have H3 := Lib.hid hJ3
            clear hJ3 hk3 hy hR hJ2 hJs hE
            gi_wp2
            go_roundw
            case rel => exact ⟨k + 1, by omega, by go_num, H3.out, hE3⟩
            case measure => simp [intOf]; omega
          · rw [← htk] at hJx3
            have H3 := Lib.hid hJx3
            clear hJx3 hy hR hJ2 hJs hE
            gi_wp2
            refine bodyPost_ret (results_none rfl _ _ _) rfl ?_
            exact ⟨⟨_, rfl⟩, .inr ⟨_, ⟨p.ins.length + k + 1, by rw [thingsL_len]; omega, rfl⟩, H3.out⟩⟩
        · obtain rfl : k = p.flows.length := by omega
          rw [← thingsL_len, List.take_length] at hJs
          have H3 := Lib.hid hJs
          clear hJs
          gi_wp2
          go_end0
          exact ⟨⟨_, rfl⟩, .inl ⟨_, rfl, H3.out⟩⟩
end Go.Proofs.YtgkbhonjodcakaaGreat
