/- How many parts an operator has: exprs.parts and the document's many. -/
import Derived.Test.YtjdficgejjkaoaaTok
import Derived.Deep.RegionHeld3
namespace Go.Proofs.Ytjdficgejjkaoaa
open Go.RowKit
set_option linter.unusedVariables false

/-- A form: what it is of, its rank, its kind, its text. -/
structure FmD where
  op : Int
  rank : Int
  kind : Int
  text : ByteArray
def fmC (f : FmD) : List Value := [.int .u8 f.op, .int .i64 f.rank, .int .u8 f.kind, .string f.text]
/-- A list of forms in memory. -/
def RdFm (w : World) (l : List FmD) (v : Value) : Prop := ∃ b, v = .slice (some ⟨b, 0, none⟩) l.length l.length ∧ l.length ≤ 20 ∧ ∀ i x, l[i]? = some x →
  w.cell? ⟨b, i * 4, none⟩ = some (.int .u8 x.op) ∧ w.cell? ⟨b, i * 4 + 1, none⟩ = some (.int .i64 x.rank) ∧ w.cell? ⟨b, i * 4 + 2, none⟩ = some (.int .u8 x.kind) ∧ w.cell? ⟨b, i * 4 + 3, none⟩ = some (.string x.text)
theorem RdFm.ext {w w1 : World} {l : List FmD} {v : Value} (h : RdFm w l v) (he : Ext w w1) : RdFm w1 l v := by
  obtain ⟨b, rfl, hl, hr⟩ := h
  refine ⟨b, rfl, hl, fun i x hx => ?_⟩
  obtain ⟨h0, h1, h2, h3⟩ := hr i x hx
  exact ⟨he.cell h0, he.cell h1, he.cell h2, he.cell h3⟩
def pairsD : List FmD := [⟨18, 0, 3, ⟨#[45, 62]⟩⟩, ⟨16, 1, 1, ⟨#[111, 114]⟩⟩, ⟨15, 2, 1, ⟨#[97, 110, 100]⟩⟩, ⟨11, 3, 3, ⟨#[61, 61]⟩⟩, ⟨12, 3, 3, ⟨#[33, 61]⟩⟩, ⟨13, 3, 3, ⟨#[60]⟩⟩, ⟨14, 3, 3, ⟨#[60, 61]⟩⟩, ⟨6, 4, 3, ⟨#[43]⟩⟩, ⟨7, 4, 3, ⟨#[45]⟩⟩, ⟨8, 5, 3, ⟨#[42]⟩⟩, ⟨9, 5, 3, ⟨#[47]⟩⟩, ⟨10, 5, 3, ⟨#[37]⟩⟩]
def prefixesD : List FmD := [⟨4, 6, 3, ⟨#[45]⟩⟩, ⟨5, 6, 1, ⟨#[110, 111, 116]⟩⟩, ⟨19, 6, 1, ⟨#[112, 114, 101]⟩⟩]
theorem fm_rd {l : List FmD} (hl : l.length ≤ 20) {cs : Array Value} (hcs : cs = (l.flatMap fmC).toArray) (w : World) : RdFm (w.alloc (.cells cs 156)) l (.slice (some ⟨w.heap.size, 0, none⟩) l.length l.length) := by
  subst hcs
  refine ⟨w.heap.size, rfl, hl, fun i x hx => ?_⟩
  have key : ∀ (l : List FmD) i x, l[i]? = some x → ∀ j, j < 4 → (l.flatMap fmC)[i * 4 + j]? = (fmC x)[j]? := by
    intro l
    induction l with
    | nil => intro i x hx; simp at hx
    | cons y r ih =>
      intro i x hx j hj
      cases i with
      | zero =>
        simp only [List.getElem?_cons_zero, Option.some.injEq] at hx
        subst hx
        rw [List.flatMap_cons, List.getElem?_append_left (by simp [fmC]; omega)]
        simp
      | succ i =>
        simp only [List.getElem?_cons_succ] at hx
        rw [List.flatMap_cons, List.getElem?_append_right (by simp [fmC]; omega), show (i + 1) * 4 + j - (fmC y).length = i * 4 + j from by simp [fmC]; omega]
        exact ih i x hx j hj
  have k0 := key l i x hx 0 (by omega)
  have k1 := key l i x hx 1 (by omega)
  have k2 := key l i x hx 2 (by omega)
  have k3 := key l i x hx 3 (by omega)
  refine ⟨?_, ?_, ?_, ?_⟩
  · rw [World.cell?_alloc_at _ _ _ _ rfl]; simpa [fmC] using k0
  · rw [World.cell?_alloc_at _ _ _ _ rfl]; simpa [fmC] using k1
  · rw [World.cell?_alloc_at _ _ _ _ rfl]; simpa [fmC] using k2
  · rw [World.cell?_alloc_at _ _ _ _ rfl]; simpa [fmC] using k3
def RetFm (l : List FmD) (w : World) (e : Ending) (w' : World) : Prop := (∃ v, e = .returned v ∧ RdFm w' l v) ∧ Ext w w'
set_option maxHeartbeats 4000000 in
set_option maxRecDepth 100000 in
theorem pairs_one (w : World) : Calls Try.prog 113 #[] w (RetFm pairsD w) := by
  go_enter Try.func113, Try.ntmps113
  go_wp2_with fail
  go_ret
  exact ⟨⟨_, rfl, fm_rd (l := pairsD) (by decide) rfl w⟩, (Chg.refl _ _).alloc _⟩
theorem prefixes_one (w : World) : Calls Try.prog 114 #[] w (RetFm prefixesD w) := by
  go_enter Try.func114, Try.ntmps114
  go_wp2_with fail
  go_ret
  exact ⟨⟨_, rfl, fm_rd (l := prefixesD) (by decide) rfl w⟩, (Chg.refl _ _).alloc _⟩
def hasOp (l : List FmD) (op : Int) : Bool := l.any fun f => decide (f.op = op)
/-- What find answers: some form's cells, and whether it is there. -/
def RetFf (l : List FmD) (op : Int) (w : World) (e : Ending) (w' : World) : Prop := (∃ f : FmD, e = .returned (.tuple #[.agg (fmC f).toArray, .bool (hasOp l op)])) ∧ Ext w w'
set_option maxHeartbeats 1000000 in
theorem ffind_any (l : List FmD) (v : Value) (op : Int) (w : World) (h : RdFm w l v) : Calls Try.prog 112 #[v, .int .u8 op] w (RetFf l op w) := by
  have hv := h
  obtain ⟨b, rfl, hl, hr⟩ := h
  clear hr
  go_enter Try.func112, Try.ntmps112
  go_wp2_with fail
  have E0 : Ext w (w.alloc (.cells #[.int .u8 0, .int .i64 0, .int .u8 0, .string ⟨#[]⟩] 156)) := (Chg.refl _ _).alloc _
  have B0 := heap_alloc_new w (.cells #[.int .u8 0, .int .i64 0, .int .u8 0, .string ⟨#[]⟩] 156)
  generalize (w.alloc (.cells #[.int .u8 0, .int .i64 0, .int .u8 0, .string ⟨#[]⟩] 156)) = W0 at *
  go_loopw [10] (fun i wr => ∃ k : Nat, k ≤ l.length ∧ i = .int .i64 k ∧ hasOp l op = hasOp (l.drop k) op ∧ Ext W0 wr) (fun i _ => l.length - (intOf i).toNat)
  case atStart => exact ⟨0, Nat.zero_le _, rfl, rfl, Chg.refl _ _⟩
  case round =>
    obtain ⟨k, hk, rfl, hH, hE⟩ := hrel
    have HH := Lib.hid hH
    clear hH
    have B1 := Ext.heap hE B0
    have hlt0 := lt_of_block B0
    by_cases hlt : k < l.length
    · have hx := List.getElem?_eq_getElem hlt
      obtain ⟨b', e, _, hr⟩ := hv.ext (E0.trans hE)
      simp only [Value.slice.injEq, Option.some.injEq, Addr.mk.injEq, and_true] at e
      subst e
      obtain ⟨c0, c1, c2, c3⟩ := hr k _ hx
      have q1 : (k : Int) < (l.length : Int) := by omega
      have hstep : hasOp (l.drop k) op = (decide (l[k].op = op) || hasOp (l.drop (k + 1)) op) := by
        rw [List.drop_eq_getElem_cons hlt]; rfl
      generalize l[k] = x at *
      have HS := Lib.hid hstep
      clear hstep hr hx
      have B2 : (wr.alloc (.cells #[.int .u8 x.op, .int .i64 x.rank, .int .u8 x.kind, .string x.text] 156)).heap[w.heap.size]? = some (.cells #[.int .u8 0, .int .i64 0, .int .u8 0, .string ⟨#[]⟩] 156 (0, 0)) := Ext.heap ((Chg.refl _ _).alloc _) B1
      have hE2 : Ext W0 (wr.alloc (.cells #[.int .u8 x.op, .int .i64 x.rank, .int .u8 x.kind, .string x.text] 156)) := hE.alloc _
      have y0 := blk_cell B2 0
      have y1 := blk_cell B2 1
      have y2 := blk_cell B2 2
      have y3 := blk_cell B2 3
      have g0 := blk_free B2 0
      have g1 := blk_free B2 1
      have g2 := blk_free B2 2
      have g3 := blk_free B2 3
      simp only [List.getElem?_toArray, List.getElem?_cons_zero, List.getElem?_cons_succ] at y0 y1 y2 y3
      clear B0 B1 hE
      go_wp2_with fail
      · have hxo : x.op = op := by simpa using ‹(x.op == op) = true›
        refine bodyPost_ret (v := .tuple #[.agg (fmC x).toArray, .bool true]) ?_ rfl ⟨⟨x, ?_⟩, ?_⟩
        · simp [results, Try.results112, go_sem, y0, y1, y2, y3, fmC]
        · rw [HH.out, HS.out]; simp [hxo]
        · exact Ext.then (E0.trans hE2) (chg_sets4 _ _ _ _ _ _) (fun b hb => by omega)
      · have hxo : ¬ x.op = op := by simpa using ‹(x.op == op) = false›
        go_roundw
        case rel => exact ⟨k + 1, by omega, by go_num, by rw [HH.out, HS.out]; simp [hxo], hE2⟩
        case measure => simp [intOf]; omega
    · obtain rfl : k = l.length := by omega
      have hne : hasOp (l.drop l.length) op = false := by rw [List.drop_length]; rfl
      have HN := Lib.hid hne
      clear hne B0
      have y0 := blk_cell B1 0
      have y1 := blk_cell B1 1
      have y2 := blk_cell B1 2
      have y3 := blk_cell B1 3
      have g0 := blk_free B1 0
      have g1 := blk_free B1 1
      have g2 := blk_free B1 2
      have g3 := blk_free B1 3
      simp only [List.getElem?_toArray, List.getElem?_cons_zero, List.getElem?_cons_succ] at y0 y1 y2 y3
      go_wp2_with fail
      refine bodyPost_ret (v := .tuple #[.agg (fmC ⟨0, 7, 0, ⟨#[]⟩⟩).toArray, .bool false]) ?_ rfl ⟨⟨⟨0, 7, 0, ⟨#[]⟩⟩, ?_⟩, ?_⟩
      · simp [results, Try.results112, go_sem, y0, y1, y2, y3, fmC]
      · rw [HH.out, HN.out]
      · exact Ext.then (E0.trans hE) (chg_sets4 _ _ _ _ _ _) (fun b hb => by omega)
/-- How many parts an operator has; below 0: it is none. -/
def partsP (op : Int) : Int := if op = 1 ∨ op = 2 ∨ op = 3 then 0 else if op = 17 then 3 else if hasOp pairsD op = true then 2 else if hasOp prefixesD op = true then 1 else -1
def RetPa (op : Int) (w : World) (e : Ending) (w' : World) : Prop := e = .returned (.int .i64 (partsP op)) ∧ Ext w w'
set_option maxHeartbeats 1000000 in
theorem parts_one (op : Int) (w : World) : Calls Try.prog 102 #[.int .u8 op] w (RetPa op w) := by
  by_cases h1 : op = 1
  · subst h1
    go_enter Try.func102, Try.ntmps102
    go_wp2_with fail
    go_ret
    exact ⟨rfl, Chg.refl _ _⟩
  by_cases h2 : op = 2
  · subst h2
    go_enter Try.func102, Try.ntmps102
    go_wp2_with fail
    go_ret
    exact ⟨rfl, Chg.refl _ _⟩
  by_cases h3 : op = 3
  · subst h3
    go_enter Try.func102, Try.ntmps102
    go_wp2_with fail
    go_ret
    exact ⟨rfl, Chg.refl _ _⟩
  by_cases h17 : op = 17
  · subst h17
    go_enter Try.func102, Try.ntmps102
    go_wp2_with fail
    go_ret
    exact ⟨rfl, Chg.refl _ _⟩
  have b1 : (op == 1) = false := by simpa using h1
  have b2 : (op == 2) = false := by simpa using h2
  have b3 : (op == 3) = false := by simpa using h3
  have b17 : (op == 17) = false := by simpa using h17
  have hP : partsP op = if hasOp pairsD op = true then 2 else if hasOp prefixesD op = true then 1 else -1 := by
    simp [partsP, h1, h2, h3, h17]
  have HP := Lib.hid hP
  clear hP h1 h2 h3 h17
  go_enter Try.func102, Try.ntmps102
  go_wp2_with fail
  refine (pairs_one _).mono ?_
  rintro e w1 ⟨⟨v, rfl, hv⟩, E1⟩
  go_wp2_with fail
  refine (ffind_any _ v op _ hv).mono ?_
  rintro e w2 ⟨⟨f, rfl⟩, E2⟩
  have E := E1.trans E2
  have HB := Lib.hid (show hasOp pairsD op = hasOp pairsD op from rfl)
  cases hb : hasOp pairsD op
  · unfold fmC
    go_wp2_with fail
    refine (prefixes_one _).mono ?_
    rintro e w3 ⟨⟨v, rfl, hv⟩, E3⟩
    go_wp2_with fail
    refine (ffind_any _ v op _ hv).mono ?_
    rintro e w4 ⟨⟨f, rfl⟩, E4⟩
    have E' := E.trans (((Chg.refl _ _).alloc _ : Ext w2 _).trans (E3.trans E4))
    cases hc : hasOp prefixesD op
    · unfold fmC
      go_wp2_with fail
      go_ret
      exact ⟨by rw [HP.out, hb, hc]; rfl, E'.alloc _⟩
    · unfold fmC
      go_wp2_with fail
      go_ret
      exact ⟨by rw [HP.out, hb, hc]; rfl, E'.alloc _⟩
  · unfold fmC
    go_wp2_with fail
    go_ret
    exact ⟨by rw [HP.out, hb]; rfl, E.alloc _⟩
end Go.Proofs.Ytjdficgejjkaoaa
