/- The document's type of what is worked out. -/
import Derived.Test.YtgfidgbkklideaaTyOf
import Derived.Deep.AppendLies
namespace Go.Proofs.Ytgfidgbkklideaa
open Go.RowKit
set_option linter.unusedVariables false
set_option linter.unusedSimpArgs false

/-- The type that all have, or none. -/
def stepT (a t : Int) : Int := if t = a then a else 0
def allT (l : List Int) : Int := l.tail.foldl stepT (l.headD 0)
theorem foldT (c : Int) (hc : c ≠ 0) : ∀ (r : List Int) (a : Int), r.foldl stepT a = c ↔ a = c ∧ ∀ t, t ∈ r → t = c
  | [], a => by simp
  | t :: r, a => by
    rw [List.foldl_cons, foldT c hc r]
    unfold stepT
    constructor
    · rintro ⟨h1, h2⟩
      split at h1
      · rename_i e
        subst h1
        exact ⟨rfl, fun x hx => by rcases List.mem_cons.1 hx with rfl | hx; exact e; exact h2 x hx⟩
      · exact absurd h1.symm hc
    · rintro ⟨rfl, h2⟩
      have ht := h2 t (by simp)
      rw [if_pos ht]
      exact ⟨rfl, fun x hx => h2 x (by simp [hx])⟩
theorem allT_iff {l : List Int} {c : Int} (hc : c ≠ 0) (hl : l ≠ []) : allT l = c ↔ ∀ t, t ∈ l → t = c := by
  cases l with
  | nil => exact absurd rfl hl
  | cons x r =>
    show r.foldl stepT x = c ↔ _
    rw [foldT c hc r x]
    simp
theorem each_all {l : List Int} {c d : Int} (hc : c ≠ 0) (hl : l ≠ []) : eachT c d l = if allT l = c then d else 0 := by
  unfold eachT
  by_cases h : allT l = c
  · rw [if_pos h, if_neg]
    rw [List.any_eq_true]
    rintro ⟨t, ht, e⟩
    rw [(allT_iff hc hl).1 h t ht] at e
    simp at e
  · rw [if_neg h, if_pos]
    rw [List.any_eq_true]
    by_cases hx : ∃ t, t ∈ l ∧ ¬ t = c
    · obtain ⟨t, ht, e⟩ := hx
      exact ⟨t, ht, by simp [e]⟩
    · exact absurd ((allT_iff hc hl).2 (fun t ht => Classical.byContradiction fun e => hx ⟨t, ht, e⟩)) h
theorem alike_all {l : List Int} (hl : l ≠ []) : alikeT l = true ↔ allT l ≠ 0 := by
  cases l with
  | nil => exact absurd rfl hl
  | cons x r =>
    unfold alikeT
    rw [Bool.not_eq_true', List.any_eq_false]
    simp only [List.headD_cons]
    constructor
    · intro h
      have hx : x ≠ 0 := fun e => by have := h x (by simp); simp [e] at this
      have : allT (x :: r) = x := (allT_iff hx hl).2 (fun t ht => by have := h t ht; simp at this; exact of_decide_eq_true this.1)
      rw [this]; exact hx
    · intro h t ht
      have hall := (allT_iff h hl).1 rfl
      have e1 := hall t ht
      have e2 := hall x (by simp)
      have hx0 : x ≠ 0 := fun e => h (e2.symm.trans e)
      have htx : t = x := e1.trans e2.symm
      subst htx
      simp [hx0]
theorem same_all {l : List Int} (hl : l ≠ []) : sameT l = allT l := by
  unfold sameT
  by_cases h : allT l = 0
  · rw [if_neg (fun e => (alike_all hl).1 e h), h]
  · rw [if_pos ((alike_all hl).2 h)]
    cases l with
    | nil => exact absurd rfl hl
    | cons x r => exact ((allT_iff h hl).1 rfl x (by simp))
theorem equal_all {l : List Int} (hl : l ≠ []) : equalT l = if allT l = 0 then 0 else 2 := by
  unfold equalT
  by_cases h : allT l = 0
  · rw [if_neg (fun e => (alike_all hl).1 e h), if_pos h]
  · rw [if_pos ((alike_all hl).2 h), if_neg h]
theorem if_all (a b c : Int) : ifT [a, b, c] = if a = 2 ∧ b = c then b else 0 := by
  show (if a = 2 then sameT [b, c] else 0) = _
  rw [same_all (by simp)]
  show (if a = 2 then stepT b c else 0) = _
  unfold stepT
  by_cases h1 : a = 2
  · by_cases h2 : b = c
    · subst h2; simp [h1]
    · rw [if_pos h1, if_neg (fun e => h2 e.symm), if_neg (fun e => h2 e.2)]
  · rw [if_neg h1, if_neg (fun e => h1 e.1)]
theorem allT_take {l : List Int} {m : Nat} {y : Int} (h : l[m + 1]? = some y) : allT (l.take (m + 2)) = stepT (allT (l.take (m + 1))) y := by
  cases l with
  | nil => simp at h
  | cons x r =>
    simp only [List.getElem?_cons_succ] at h
    simp only [allT, List.take_succ_cons, List.tail_cons, List.headD_cons]
    rw [List.take_add_one, h, List.foldl_append]
    rfl
theorem find_ty {w : World} {p : PrD} {cs : Array Value} (h : RdPr w 0 false p cs) (nm : ByteArray) : 0 ≤ (findP nm p.flows p.ins).2.1 := by
  obtain ⟨vi, vf, vo, rfl, _, ⟨ai, ci, rfl, _, _, _, hi, _⟩, ⟨af, cf, rfl, _, _, _, hf, _⟩, _⟩ := h
  have hI : ∀ x, x ∈ p.ins → 0 ≤ x.ty := fun x hx => by
    obtain ⟨i, hi'⟩ := List.getElem?_of_mem hx
    exact (hi i x hi').2.1.1
  have hF : ∀ x, x ∈ p.flows → 0 ≤ x.ty := fun x hx => by
    obtain ⟨i, hi'⟩ := List.getElem?_of_mem hx
    exact (hf i x hi').2.1.1
  clear hi hf
  have kF : ∀ (l : List FlD) (i : Nat), (∀ x, x ∈ l → 0 ≤ x.ty) → 0 ≤ (findFl nm i l).2.1 := by
    intro l
    induction l with
    | nil => intro i _; simp [findFl]
    | cons x r ih =>
      intro i hl
      unfold findFl
      split
      · exact hl x (by simp)
      · exact ih (i + 1) (fun y hy => hl y (by simp [hy]))
  have kI : ∀ (l : List InD), (∀ x, x ∈ l → 0 ≤ x.ty) → 0 ≤ (findP nm p.flows l).2.1 := by
    intro l
    induction l with
    | nil => intro _; unfold findP; exact kF _ _ hF
    | cons x r ih =>
      intro hl
      unfold findP
      split
      · exact hl x (by simp)
      · exact ih (fun y hy => hl y (by simp [hy]))
  exact kI _ hI
theorem cell_own {X X' : World} {r : Option Nat} {a : Addr} {v : Value} {L : Nat} (h : X.cell? a = some v) (hc : Chg (fun q => r = some q) X X') (hb : ∀ g, r = some g → L ≤ g) (ha : a.block < L) : X'.cell? a = some v :=
  hc.cell h (fun hh => by have := hb _ hh; omega)
theorem parts_cases {op : Int} (h : 0 ≤ partsP op) : op = 1 ∨ op = 2 ∨ op = 3 ∨ op = 4 ∨ op = 5 ∨ op = 6 ∨ op = 7 ∨ op = 8 ∨ op = 9 ∨ op = 10 ∨ op = 11 ∨ op = 12 ∨ op = 13 ∨ op = 14 ∨ op = 15 ∨ op = 16 ∨ op = 17 ∨ op = 18 ∨ op = 19 := by
  simp only [partsP, hasOp, pairsD, prefixesD, List.any_cons, List.any_nil, Bool.or_false, Bool.or_eq_true, decide_eq_true_eq] at h
  split at h
  · omega
  · split at h
    · omega
    · split at h
      · omega
      · split at h <;> omega
/-- Its contract at x. -/
def ERty (p : PrD) (x : Ex) : Prop := ∀ (v : Value) (w : World) (cs : Array Value) (d : Nat), RdExV w 0 false x.args v → RdPr w 0 false p cs → wfE d x = true → nodesE x ≤ 100000 →
  Calls Try.prog 43 #[.agg cs, .agg #[.int .u8 x.op, .int .i64 x.n, .string x.name, v]] w (RetTy (tyE p x) w)
set_option maxRecDepth 100000 in
set_option maxHeartbeats 8000000 in
theorem refTy_any (p : PrD) : ∀ x, ERty p x := by
  refine Ex.ind fun op n nm args ih => ?_
  intro v w cs d hv hP hwf hlen
  simp only [Ex.op, Ex.n, Ex.name, Ex.args] at *
  simp only [nodesE] at hlen
  obtain ⟨hpa, d', hwl⟩ := wf_open hwf
  have HP := Lib.hid hP
  obtain ⟨ai, ci, af, cf, ao, co, rfl⟩ := pr_form' hP
  clear hP
  obtain ⟨a, cap, rfl, hrest⟩ := hv
  have hv : RdExV w 0 false args (.slice a args.length cap) := ⟨a, cap, rfl, hrest⟩
  have hlen2 : args.length ≤ 9000000000000000000 := by have := hrest.1; unfold fitsR at this; omega
  have hal := nodesL_len args
  clear hrest hwf
  have HI := Lib.hid ih
  clear ih
  have HOF := Lib.hid (show tyE p (.mk op n nm args) = if op = 1 then 1 else if op = 2 then 2 else if op = 3 then nameT p nm else ruleT op (tyL p args) by simp only [tyE])
  have WX := heap_alloc_new (w.alloc (.cells #[.int .i64 p.st, .slice ai p.ins.length ci, .slice af p.flows.length cf, .slice ao p.outs.length co] 26)) (.cells #[.int .u8 op, .int .i64 n, .string nm, .slice a args.length cap] 30)
  rw [World.size_alloc] at WX
  have WP := Ext.heap ((Chg.refl (fun _ => False) (w.alloc (.cells #[.int .i64 p.st, .slice ai p.ins.length ci, .slice af p.flows.length cf, .slice ao p.outs.length co] 26))).alloc (.cells #[.int .u8 op, .int .i64 n, .string nm, .slice a args.length cap] 30)) (heap_alloc_new w (.cells #[.int .i64 p.st, .slice ai p.ins.length ci, .slice af p.flows.length cf, .slice ao p.outs.length co] 26))
  have WC : Ext w ((w.alloc (.cells #[.int .i64 p.st, .slice ai p.ins.length ci, .slice af p.flows.length cf, .slice ao p.outs.length co] 26)).alloc (.cells #[.int .u8 op, .int .i64 n, .string nm, .slice a args.length cap] 30)) := ((Chg.refl _ _).alloc _).alloc _
  have HPA := Lib.hid hpa
  clear hpa
  go_enter Try.func43, Try.ntmps43
  go_wp2_with fail
  generalize ((w.alloc (.cells #[.int .i64 p.st, .slice ai p.ins.length ci, .slice af p.flows.length cf, .slice ao p.outs.length co] 26)).alloc (.cells #[.int .u8 op, .int .i64 n, .string nm, .slice a args.length cap] 30)) = W at *
  have hWs := lt_of_block WX
  obtain ⟨i0, hi, hz0, hz1, hz2⟩ := info_parts infoTy
  go_loopw [5, 6] (fun lv i wr => ∃ (k : Nat) (lk : List Int), k ≤ args.length ∧ i = .int .i64 k ∧ lk = (tyL p args).take k ∧ lk.length = k ∧ TyV wr (w.heap.size + 2) lk lv ∧
      wr.heap[w.heap.size + 1]? = some (.cells #[.int .u8 op, .int .i64 n, .string nm, .slice a args.length cap] 30 (0, 0)) ∧
      wr.heap[w.heap.size]? = some (.cells #[.int .i64 p.st, .slice ai p.ins.length ci, .slice af p.flows.length cf, .slice ao p.outs.length co] 26 (0, 0)) ∧ Ext w wr) (fun _ i _ => args.length - (intOf i).toNat)
  case atStart => exact ⟨0, [], Nat.zero_le _, rfl, rfl, rfl, TyV.nil _ _, WX, WP, WC⟩
  case round =>
    obtain ⟨k, lk, hk, rfl, hlk, hll, rV, rX, rP, rE⟩ := hrel
    have HLK := Lib.hid hlk
    clear hlk
    obtain ⟨av, cv, rfl⟩ := rV.form
    rw [hll] at rV ⊢
    have HLL := Lib.hid hll
    have hkk : lk.length ≤ k := by omega
    clear hll
    have x3 := blk_cell rX 3
    simp only [List.getElem?_toArray, List.getElem?_cons_zero, List.getElem?_cons_succ] at x3
    by_cases hlt : k < args.length
    · have hx := List.getElem?_eq_getElem hlt
      have hix := HI.out _ (List.getElem_mem hlt)
      obtain ⟨b, o, v0, rfl, _, hb, z0, z1, z2, z3, _, _, _, hvx⟩ := hv.get hx
      have c0 := Ext.cell rE z0
      have c1 := Ext.cell rE z1
      have c2 := Ext.cell rE z2
      have c3 := Ext.cell rE z3
      clear z0 z1 z2 z3
      have hnx := nodesL_get hx
      have hwx := wfL_get hwl hx
      have hog : (tyL p args).take (k + 1) = (tyL p args).take k ++ [tyE p args[k]] := by
        rw [List.take_add_one, tyL_get, hx]; rfl
      have q1 : (k : Int) < (args.length : Int) := by omega
      generalize args[k] = x at *
      obtain ⟨a2, cap2, rfl, _⟩ := hvx.form
      have hcall := hix _ wr.drew _ d' (hvx.ext rE.drew) (HP.out.ext rE.drew) hwx (by omega)
      have HCa := Lib.hid hcall
      have HOG := Lib.hid hog
      have rX2 := Lib.hid rX
      have rP2 := Lib.hid rP
      have hsz := rE.size
      have hXl := lt_of_block rX
      have p0 := blk_cell rP 0
      have p1 := blk_cell rP 1
      have p2 := blk_cell rP 2
      have p3 := blk_cell rP 3
      simp only [List.getElem?_toArray, List.getElem?_cons_zero, List.getElem?_cons_succ] at p0 p1 p2 p3
      have S0 : wr.drew.cell? ⟨w.heap.size, 0, none⟩ = some (.int .i64 p.st) ∧ wr.drew.cell? ⟨w.heap.size, 1, none⟩ = some (.slice ai p.ins.length ci) ∧ wr.drew.cell? ⟨w.heap.size, 2, none⟩ = some (.slice af p.flows.length cf) ∧ wr.drew.cell? ⟨w.heap.size, 3, none⟩ = some (.slice ao p.outs.length co) ∧ wr.drew.cell? ⟨w.heap.size + 1, 3, none⟩ = some (.slice (some ⟨b, o, none⟩) args.length cap) ∧ wr.drew.cell? ⟨b, o + k * 4, none⟩ = some (.int .u8 x.op) ∧ wr.drew.cell? ⟨b, o + k * 4 + 1, none⟩ = some (.int .i64 x.n) ∧ wr.drew.cell? ⟨b, o + k * 4 + 2, none⟩ = some (.string x.name) ∧ wr.drew.cell? ⟨b, o + k * 4 + 3, none⟩ = some (.slice a2 x.args.length cap2) := ⟨p0, p1, p2, p3, x3, c0, c1, c2, c3⟩
      have hbo : ∀ g, (Value.slice av k cv).ownBlock = some g → w.heap.size + 2 ≤ g := fun g hg => (World.ownsRow.lt rV g hg).1
      have V0 : TyV wr.drew (w.heap.size + 2) lk (.slice av k cv) := rV
      have SE : ∀ X X' : World, (X.cell? ⟨w.heap.size, 0, none⟩ = some (.int .i64 p.st) ∧ X.cell? ⟨w.heap.size, 1, none⟩ = some (.slice ai p.ins.length ci) ∧ X.cell? ⟨w.heap.size, 2, none⟩ = some (.slice af p.flows.length cf) ∧ X.cell? ⟨w.heap.size, 3, none⟩ = some (.slice ao p.outs.length co) ∧ X.cell? ⟨w.heap.size + 1, 3, none⟩ = some (.slice (some ⟨b, o, none⟩) args.length cap) ∧ X.cell? ⟨b, o + k * 4, none⟩ = some (.int .u8 x.op) ∧ X.cell? ⟨b, o + k * 4 + 1, none⟩ = some (.int .i64 x.n) ∧ X.cell? ⟨b, o + k * 4 + 2, none⟩ = some (.string x.name) ∧ X.cell? ⟨b, o + k * 4 + 3, none⟩ = some (.slice a2 x.args.length cap2)) → Ext X X' → (X'.cell? ⟨w.heap.size, 0, none⟩ = some (.int .i64 p.st) ∧ X'.cell? ⟨w.heap.size, 1, none⟩ = some (.slice ai p.ins.length ci) ∧ X'.cell? ⟨w.heap.size, 2, none⟩ = some (.slice af p.flows.length cf) ∧ X'.cell? ⟨w.heap.size, 3, none⟩ = some (.slice ao p.outs.length co) ∧ X'.cell? ⟨w.heap.size + 1, 3, none⟩ = some (.slice (some ⟨b, o, none⟩) args.length cap) ∧ X'.cell? ⟨b, o + k * 4, none⟩ = some (.int .u8 x.op) ∧ X'.cell? ⟨b, o + k * 4 + 1, none⟩ = some (.int .i64 x.n) ∧ X'.cell? ⟨b, o + k * 4 + 2, none⟩ = some (.string x.name) ∧ X'.cell? ⟨b, o + k * 4 + 3, none⟩ = some (.slice a2 x.args.length cap2)) := fun X X' h e => ⟨Ext.cell e h.1, Ext.cell e h.2.1, Ext.cell e h.2.2.1, Ext.cell e h.2.2.2.1, Ext.cell e h.2.2.2.2.1, Ext.cell e h.2.2.2.2.2.1, Ext.cell e h.2.2.2.2.2.2.1, Ext.cell e h.2.2.2.2.2.2.2.1, Ext.cell e h.2.2.2.2.2.2.2.2⟩
      have SG : ∀ X X' : World, (X.cell? ⟨w.heap.size, 0, none⟩ = some (.int .i64 p.st) ∧ X.cell? ⟨w.heap.size, 1, none⟩ = some (.slice ai p.ins.length ci) ∧ X.cell? ⟨w.heap.size, 2, none⟩ = some (.slice af p.flows.length cf) ∧ X.cell? ⟨w.heap.size, 3, none⟩ = some (.slice ao p.outs.length co) ∧ X.cell? ⟨w.heap.size + 1, 3, none⟩ = some (.slice (some ⟨b, o, none⟩) args.length cap) ∧ X.cell? ⟨b, o + k * 4, none⟩ = some (.int .u8 x.op) ∧ X.cell? ⟨b, o + k * 4 + 1, none⟩ = some (.int .i64 x.n) ∧ X.cell? ⟨b, o + k * 4 + 2, none⟩ = some (.string x.name) ∧ X.cell? ⟨b, o + k * 4 + 3, none⟩ = some (.slice a2 x.args.length cap2)) → Chg (fun q => (Value.slice av k cv).ownBlock = some q) X X' → (X'.cell? ⟨w.heap.size, 0, none⟩ = some (.int .i64 p.st) ∧ X'.cell? ⟨w.heap.size, 1, none⟩ = some (.slice ai p.ins.length ci) ∧ X'.cell? ⟨w.heap.size, 2, none⟩ = some (.slice af p.flows.length cf) ∧ X'.cell? ⟨w.heap.size, 3, none⟩ = some (.slice ao p.outs.length co) ∧ X'.cell? ⟨w.heap.size + 1, 3, none⟩ = some (.slice (some ⟨b, o, none⟩) args.length cap) ∧ X'.cell? ⟨b, o + k * 4, none⟩ = some (.int .u8 x.op) ∧ X'.cell? ⟨b, o + k * 4 + 1, none⟩ = some (.int .i64 x.n) ∧ X'.cell? ⟨b, o + k * 4 + 2, none⟩ = some (.string x.name) ∧ X'.cell? ⟨b, o + k * 4 + 3, none⟩ = some (.slice a2 x.args.length cap2)) := fun X X' h e => ⟨cell_own h.1 e hbo (show w.heap.size < w.heap.size + 2 by omega), cell_own h.2.1 e hbo (show w.heap.size < w.heap.size + 2 by omega), cell_own h.2.2.1 e hbo (show w.heap.size < w.heap.size + 2 by omega), cell_own h.2.2.2.1 e hbo (show w.heap.size < w.heap.size + 2 by omega), cell_own h.2.2.2.2.1 e hbo (show w.heap.size + 1 < w.heap.size + 2 by omega), cell_own h.2.2.2.2.2.1 e hbo (show b < w.heap.size + 2 by omega), cell_own h.2.2.2.2.2.2.1 e hbo (show b < w.heap.size + 2 by omega), cell_own h.2.2.2.2.2.2.2.1 e hbo (show b < w.heap.size + 2 by omega), cell_own h.2.2.2.2.2.2.2.2 e hbo (show b < w.heap.size + 2 by omega)⟩
      clear p0 p1 p2 p3 c0 c1 c2 c3 hcall hix hx hvx hog rX rP rV
      generalize tyE p x = y at *
      go_wp2_with fail
      go_region_held3 (fun X => X.cell? ⟨w.heap.size, 0, none⟩ = some (.int .i64 p.st) ∧ X.cell? ⟨w.heap.size, 1, none⟩ = some (.slice ai p.ins.length ci) ∧ X.cell? ⟨w.heap.size, 2, none⟩ = some (.slice af p.flows.length cf) ∧ X.cell? ⟨w.heap.size, 3, none⟩ = some (.slice ao p.outs.length co) ∧ X.cell? ⟨w.heap.size + 1, 3, none⟩ = some (.slice (some ⟨b, o, none⟩) args.length cap) ∧ X.cell? ⟨b, o + k * 4, none⟩ = some (.int .u8 x.op) ∧ X.cell? ⟨b, o + k * 4 + 1, none⟩ = some (.int .i64 x.n) ∧ X.cell? ⟨b, o + k * 4 + 2, none⟩ = some (.string x.name) ∧ X.cell? ⟨b, o + k * 4 + 3, none⟩ = some (.slice a2 x.args.length cap2))
        (first | (with_reducible exact S0) | (with_reducible exact S4) | (with_reducible exact S4a _) | (with_reducible exact S6))
        (first
          | (go_at_call 43; refine HCa.out.mono ?_; rintro e w4 ⟨rfl, E4⟩; have S4 := SE _ _ S0 E4; have S4a := fun ob => SE _ _ S4 (Chg.alloc (Chg.refl _ w4) ob); have V4 := TyV.chg V0 E4 (fun _ _ h => h); have hs4 : wr.heap.size ≤ w4.heap.size := E4.size)
          | (refine step_append_lies _ rfl _ _ 98 rfl (w.heap.size + 2) 41 i0 _ 1 1 Try.underlying98 hi hz0 hz1 hz2 rfl (by decide) _ _ _ rfl (World.ownsRow.alloc V4 _) ⟨w4.heap.size, 0, none⟩ 1 1 [.int .u8 y] rfl rfl (cell_one_new _ _ _) (by simp [Value.oneCell']) (by decide) (by unfold maxLen; omega) (by omega) (by simp; omega) _ rfl ?_; intro g6 cap6 w6 hown6 hgrow6 hat6 hlt6; have S6 := SG _ _ (S4a _) (Chg.of_grownBy hgrow6)))
      have V6 := TyV.snoc hown6
      have D6 := Chg.of_grownBy hgrow6
      have E5 : Ext w w4 := rE.drew.trans E4
      have X5 := Ext.heap E4 (show wr.drew.heap[w.heap.size + 1]? = _ from rX2.out)
      have P5 := Ext.heap E4 (show wr.drew.heap[w.heap.size]? = _ from rP2.out)
      have E6 : Ext w w6 := Ext.then (E5.alloc _) D6 (fun b hb => by have := hbo b hb; omega)
      have X6 := D6.heap (Ext.heap ((Chg.refl _ _).alloc _) X5) (fun h => by have := hbo _ h; omega)
      have P6 := D6.heap (Ext.heap ((Chg.refl _ _).alloc _) P5) (fun h => by have := hbo _ h; omega)
      have hlk6 : Hid (lk ++ [y] = (tyL p args).take (k + 1)) := by show _ = _; rw [HOG.out, HLK.out]
      have hll6 : Hid ((lk ++ [y]).length = k + 1) := by show _ = _; rw [List.length_append, HLL.out]; rfl
      clear hown6 hgrow6 hat6 D6 S0 S4 S4a S6 SE SG V0 V4 X5 P5 x3
      go_wp2_with fail
      go_roundw
      case rel => exact ⟨k + 1, _, by omega, by go_num, hlk6.out, hll6.out, V6, X6, P6, E6⟩
      case measure => simp [intOf]; omega
    · obtain rfl : k = args.length := by omega
      have hfull : lk = tyL p args := by rw [HLK.out, List.take_of_length_le (by rw [tyL_len]; exact Nat.le_refl _)]
      subst hfull
      clear HLK HLL
      have hlo := tyL_len p args
      have x0 := blk_cell rX 0
      simp only [List.getElem?_toArray, List.getElem?_cons_zero, List.getElem?_cons_succ] at x0
      by_cases h0 : args.length = 0
      · have q0 : ¬ (0 : Int) < (args.length : Int) := by omega
        have q1 : ¬ (1 : Int) < (args.length : Int) := by omega
        have hop : op = 1 ∨ op = 2 ∨ op = 3 := by
          have hpp := HPA.out
          rw [h0] at hpp
          by_cases hc : op = 1 ∨ op = 2 ∨ op = 3
          · exact hc
          · exfalso
            simp only [partsP, if_neg hc] at hpp
            split at hpp
            · omega
            · split at hpp
              · omega
              · split at hpp <;> omega
        clear h0
        go_wp2_with fail
        go_loop [7, 8] (fun al i => al = .int .u8 0 ∧ i = .int .i64 1) (fun _ _ => 0)
        case atStart => exact ⟨rfl, rfl⟩
        case round =>
          obtain ⟨rfl, rfl⟩ := hrel
          rcases hop with h | h | h
          · subst h
            go_wp2_with fail
            go_ret
            exact ⟨by rw [HOF.out]; rfl, rE⟩
          · subst h
            go_wp2_with fail
            go_ret
            exact ⟨by rw [HOF.out]; rfl, rE⟩
          · subst h
            have x2 := blk_cell rX 2
            have p0 := blk_cell rP 0
            have p1 := blk_cell rP 1
            have p2 := blk_cell rP 2
            have p3 := blk_cell rP 3
            simp only [List.getElem?_toArray, List.getElem?_cons_zero, List.getElem?_cons_succ] at p0 p1 p2 p3 x2
            have hf := refFind_any p nm _ wr (HP.out.ext rE)
            have hty := find_ty HP.out nm
            have HN := Lib.hid (show nameT p nm = if 2 < (findP nm p.flows p.ins).2.1 then 0 else (findP nm p.flows p.ins).2.1 from rfl)
            unfold RetFind fourV at hf
            have HF := Lib.hid hf
            clear hf
            generalize findP nm p.flows p.ins = q at *
            obtain ⟨qa, qb, qc, qd⟩ := q
            simp only at hty
            go_wp2_with fail
            refine HF.out.mono ?_
            rintro e w3 ⟨rfl, E3⟩
            have F3 := rE.trans E3
            by_cases e1 : qb = 1
            · subst e1
              go_wp2_with fail
              go_ret
              exact ⟨by rw [HOF.out]; simp only []; rw [if_neg (by decide), if_neg (by decide), if_pos (by trivial), HN.out]; rfl, F3⟩
            · have b1 : (qb == 1) = false := by simpa using e1
              by_cases e2 : qb = 2
              · subst e2
                go_wp2_with fail
                go_ret
                exact ⟨by rw [HOF.out]; simp only []; rw [if_neg (by decide), if_neg (by decide), if_pos (by trivial), HN.out]; rfl, F3⟩
              · have b2 : (qb == 2) = false := by simpa using e2
                have HN2 : Hid (nameT p nm = 0) := by
                  show _ = _
                  rw [HN.out]
                  split
                  · rfl
                  · show qb = 0
                    omega
                go_wp2_with fail
                go_ret
                exact ⟨by rw [HOF.out]; simp only []; rw [if_neg (by decide), if_neg (by decide), if_pos (by trivial), HN2.out]; rfl, F3⟩
      · have q0 : (0 : Int) < (args.length : Int) := by omega
        have hnop : ¬ (op = 1 ∨ op = 2 ∨ op = 3) := fun hc => by
          have hpp := HPA.out
          simp only [partsP, if_pos hc] at hpp
          omega
        have hLn : tyL p args ≠ [] := fun e => by rw [e] at hlo; simp at hlo; omega
        have rT := (show TyV wr (w.heap.size + 2) (tyL p args) (.slice av (tyL p args).length cv) by rw [hlo]; exact rV).rd (by omega)
        rw [hlo] at rT
        obtain ⟨g, o, cap0, e, _, hrd⟩ := rT
        rw [hlo] at e
        simp only [Value.slice.injEq, true_and] at e
        obtain ⟨rfl, rfl⟩ := e
        have c0 := head_at hrd (by omega)
        have hh1 : allT ((tyL p args).take 1) = (tyL p args).headD 0 := by
          generalize tyL p args = L at *
          cases L with
          | nil => rfl
          | cons x r => rfl
        have HH1 := Lib.hid hh1
        have HNOP := Lib.hid hnop
        have HOF2 : Hid (tyE p (.mk op n nm args) = ruleT op (tyL p args)) := by
          show _ = _
          rw [HOF.out, if_neg (fun e => hnop (.inl e)), if_neg (fun e => hnop (.inr (.inl e))), if_neg (fun e => hnop (.inr (.inr e)))]
        have HL := Lib.hid hLn
        have HLO := Lib.hid hlo
        have HRD := Lib.hid hrd
        clear hh1 hnop hLn hrd HOF h0 rV
        generalize tyL p args = L at *
        generalize L.headD 0 = x00 at *
        go_wp2_with fail
        go_loop [7, 8] (fun al i => ∃ k : Nat, k + 1 ≤ args.length ∧ i = .int .i64 ((k : Int) + 1) ∧ al = .int .u8 (allT (L.take (k + 1)))) (fun _ i => args.length - (intOf i).toNat)
        case atStart => exact ⟨0, by omega, rfl, by rw [HH1.out]⟩
        case round =>
          obtain ⟨k, hk, rfl, rfl⟩ := hrel
          by_cases hlt2 : k + 1 < args.length
          · obtain ⟨y, hy⟩ : ∃ y, L[k + 1]? = some y := ⟨_, List.getElem?_eq_getElem (by rw [HLO.out]; omega)⟩
            have cy := HRD.out (k + 1) y hy
            have q2 : (k : Int) + 1 < (args.length : Int) := by omega
            have HS := Lib.hid (allT_take hy)
            clear hy
            generalize allT (L.take (k + 1)) = al at *
            have q3 : ((k : Int) + 1).toNat = k + 1 := by omega
            by_cases hya : y = al
            · have b1 : (y != al) = false := by simpa using hya
              have HS2 := Lib.hid (HS.out.trans (show stepT al y = al by unfold stepT; rw [if_pos hya]))
              clear hya
              go_wp2_with fail
              go_round
              case rel => exact ⟨k + 1, by omega, by go_num, by rw [HS2.out]⟩
              case measure => simp [intOf]; omega
            · have b1 : (y != al) = true := by simpa using hya
              have HS2 := Lib.hid (HS.out.trans (show stepT al y = 0 by unfold stepT; rw [if_neg hya]))
              clear hya
              go_wp2_with fail
              go_round
              case rel => exact ⟨k + 1, by omega, by go_num, by rw [HS2.out]⟩
              case measure => simp [intOf]; omega
          · have hkk2 : k + 1 = args.length := by omega
            have q2 : ¬ (k : Int) + 1 < (args.length : Int) := by omega
            have hta : L.take (k + 1) = L := List.take_of_length_le (by rw [HLO.out]; omega)
            rw [hta]
            have HE1 := Lib.hid (show eachT 1 1 L = if allT L = 1 then 1 else 0 from each_all (by decide) HL.out)
            have HE2 := Lib.hid (show eachT 2 2 L = if allT L = 2 then 2 else 0 from each_all (by decide) HL.out)
            have HE3 := Lib.hid (show eachT 1 2 L = if allT L = 1 then 2 else 0 from each_all (by decide) HL.out)
            have HE4 := Lib.hid (equal_all HL.out)
            have HE5 := Lib.hid (same_all HL.out)
            clear hta
            generalize allT L = al at *
            by_cases ho : op = 4
            · subst ho
              have HR := Lib.hid (HOF2.out.trans ((show ruleT 4 L = eachT 1 1 L from rfl).trans HE1.out))
              by_cases hc : al = 1
              · subst hc
                go_wp2_with fail
                go_ret
                exact ⟨by rw [HR.out]; rfl, rE⟩
              · have b1 : (al == 1) = false := by simpa using hc
                have HR2 := Lib.hid (HR.out.trans (if_neg hc))
                go_wp2_with fail
                go_ret
                exact ⟨by rw [HR2.out]; rfl, rE⟩
            by_cases ho : op = 6
            · subst ho
              have HR := Lib.hid (HOF2.out.trans ((show ruleT 6 L = eachT 1 1 L from rfl).trans HE1.out))
              by_cases hc : al = 1
              · subst hc
                go_wp2_with fail
                go_ret
                exact ⟨by rw [HR.out]; rfl, rE⟩
              · have b1 : (al == 1) = false := by simpa using hc
                have HR2 := Lib.hid (HR.out.trans (if_neg hc))
                go_wp2_with fail
                go_ret
                exact ⟨by rw [HR2.out]; rfl, rE⟩
            by_cases ho : op = 7
            · subst ho
              have HR := Lib.hid (HOF2.out.trans ((show ruleT 7 L = eachT 1 1 L from rfl).trans HE1.out))
              by_cases hc : al = 1
              · subst hc
                go_wp2_with fail
                go_ret
                exact ⟨by rw [HR.out]; rfl, rE⟩
              · have b1 : (al == 1) = false := by simpa using hc
                have HR2 := Lib.hid (HR.out.trans (if_neg hc))
                go_wp2_with fail
                go_ret
                exact ⟨by rw [HR2.out]; rfl, rE⟩
            by_cases ho : op = 8
            · subst ho
              have HR := Lib.hid (HOF2.out.trans ((show ruleT 8 L = eachT 1 1 L from rfl).trans HE1.out))
              by_cases hc : al = 1
              · subst hc
                go_wp2_with fail
                go_ret
                exact ⟨by rw [HR.out]; rfl, rE⟩
              · have b1 : (al == 1) = false := by simpa using hc
                have HR2 := Lib.hid (HR.out.trans (if_neg hc))
                go_wp2_with fail
                go_ret
                exact ⟨by rw [HR2.out]; rfl, rE⟩
            by_cases ho : op = 9
            · subst ho
              have HR := Lib.hid (HOF2.out.trans ((show ruleT 9 L = eachT 1 1 L from rfl).trans HE1.out))
              by_cases hc : al = 1
              · subst hc
                go_wp2_with fail
                go_ret
                exact ⟨by rw [HR.out]; rfl, rE⟩
              · have b1 : (al == 1) = false := by simpa using hc
                have HR2 := Lib.hid (HR.out.trans (if_neg hc))
                go_wp2_with fail
                go_ret
                exact ⟨by rw [HR2.out]; rfl, rE⟩
            by_cases ho : op = 10
            · subst ho
              have HR := Lib.hid (HOF2.out.trans ((show ruleT 10 L = eachT 1 1 L from rfl).trans HE1.out))
              by_cases hc : al = 1
              · subst hc
                go_wp2_with fail
                go_ret
                exact ⟨by rw [HR.out]; rfl, rE⟩
              · have b1 : (al == 1) = false := by simpa using hc
                have HR2 := Lib.hid (HR.out.trans (if_neg hc))
                go_wp2_with fail
                go_ret
                exact ⟨by rw [HR2.out]; rfl, rE⟩
            by_cases ho : op = 5
            · subst ho
              have HR := Lib.hid (HOF2.out.trans ((show ruleT 5 L = eachT 2 2 L from rfl).trans HE2.out))
              by_cases hc : al = 2
              · subst hc
                go_wp2_with fail
                go_ret
                exact ⟨by rw [HR.out]; rfl, rE⟩
              · have b1 : (al == 2) = false := by simpa using hc
                have HR2 := Lib.hid (HR.out.trans (if_neg hc))
                go_wp2_with fail
                go_ret
                exact ⟨by rw [HR2.out]; rfl, rE⟩
            by_cases ho : op = 15
            · subst ho
              have HR := Lib.hid (HOF2.out.trans ((show ruleT 15 L = eachT 2 2 L from rfl).trans HE2.out))
              by_cases hc : al = 2
              · subst hc
                go_wp2_with fail
                go_ret
                exact ⟨by rw [HR.out]; rfl, rE⟩
              · have b1 : (al == 2) = false := by simpa using hc
                have HR2 := Lib.hid (HR.out.trans (if_neg hc))
                go_wp2_with fail
                go_ret
                exact ⟨by rw [HR2.out]; rfl, rE⟩
            by_cases ho : op = 16
            · subst ho
              have HR := Lib.hid (HOF2.out.trans ((show ruleT 16 L = eachT 2 2 L from rfl).trans HE2.out))
              by_cases hc : al = 2
              · subst hc
                go_wp2_with fail
                go_ret
                exact ⟨by rw [HR.out]; rfl, rE⟩
              · have b1 : (al == 2) = false := by simpa using hc
                have HR2 := Lib.hid (HR.out.trans (if_neg hc))
                go_wp2_with fail
                go_ret
                exact ⟨by rw [HR2.out]; rfl, rE⟩
            by_cases ho : op = 13
            · subst ho
              have HR := Lib.hid (HOF2.out.trans ((show ruleT 13 L = eachT 1 2 L from rfl).trans HE3.out))
              by_cases hc : al = 1
              · subst hc
                go_wp2_with fail
                go_ret
                exact ⟨by rw [HR.out]; rfl, rE⟩
              · have b1 : (al == 1) = false := by simpa using hc
                have HR2 := Lib.hid (HR.out.trans (if_neg hc))
                go_wp2_with fail
                go_ret
                exact ⟨by rw [HR2.out]; rfl, rE⟩
            by_cases ho : op = 14
            · subst ho
              have HR := Lib.hid (HOF2.out.trans ((show ruleT 14 L = eachT 1 2 L from rfl).trans HE3.out))
              by_cases hc : al = 1
              · subst hc
                go_wp2_with fail
                go_ret
                exact ⟨by rw [HR.out]; rfl, rE⟩
              · have b1 : (al == 1) = false := by simpa using hc
                have HR2 := Lib.hid (HR.out.trans (if_neg hc))
                go_wp2_with fail
                go_ret
                exact ⟨by rw [HR2.out]; rfl, rE⟩
            by_cases ho : op = 11
            · subst ho
              have HR := Lib.hid (HOF2.out.trans ((show ruleT 11 L = equalT L from rfl).trans HE4.out))
              by_cases hc : al = 0
              · subst hc
                go_wp2_with fail
                go_ret
                exact ⟨by rw [HR.out]; rfl, rE⟩
              · have b1 : (al != 0) = true := by simpa using hc
                have HR2 := Lib.hid (HR.out.trans (if_neg hc))
                go_wp2_with fail
                go_ret
                exact ⟨by rw [HR2.out]; rfl, rE⟩
            by_cases ho : op = 12
            · subst ho
              have HR := Lib.hid (HOF2.out.trans ((show ruleT 12 L = equalT L from rfl).trans HE4.out))
              by_cases hc : al = 0
              · subst hc
                go_wp2_with fail
                go_ret
                exact ⟨by rw [HR.out]; rfl, rE⟩
              · have b1 : (al != 0) = true := by simpa using hc
                have HR2 := Lib.hid (HR.out.trans (if_neg hc))
                go_wp2_with fail
                go_ret
                exact ⟨by rw [HR2.out]; rfl, rE⟩
            by_cases ho : op = 18
            · subst ho
              have HR := Lib.hid (HOF2.out.trans ((show ruleT 18 L = sameT L from rfl).trans HE5.out))
              go_wp2_with fail
              go_ret
              exact ⟨by rw [HR.out]; rfl, rE⟩
            by_cases ho : op = 19
            · subst ho
              have HR := Lib.hid (HOF2.out.trans ((show ruleT 19 L = sameT L from rfl).trans HE5.out))
              go_wp2_with fail
              go_ret
              exact ⟨by rw [HR.out]; rfl, rE⟩
            by_cases ho : op = 17
            · subst ho
              have hl3 : args.length = 3 := by have := HPA.out; rw [show partsP 17 = 3 from rfl] at this; omega
              have hL3 : L.length = 3 := by rw [HLO.out, hl3]
              match L, hL3, HRD, HOF2 with
              | [x, y, z], _, HRD, HOF2 =>
                clear c0
                have d0 : wr.cell? ⟨g, o, none⟩ = some (.int .u8 x) := by simpa using HRD.out 0 x rfl
                have d1 := HRD.out 1 y rfl
                have d2 := HRD.out 2 z rfl
                have q3 : (1 : Int) < (args.length : Int) := by omega
                have q4 : (2 : Int) < (args.length : Int) := by omega
                have HR := Lib.hid (HOF2.out.trans ((show ruleT 17 [x, y, z] = ifT [x, y, z] from rfl).trans (if_all x y z)))
                by_cases e1 : x = 2
                · subst e1
                  by_cases e2 : y = z
                  · have b2 : (y == z) = true := by simpa using e2
                    have HR2 := Lib.hid (HR.out.trans (if_pos ⟨rfl, e2⟩))
                    clear e2
                    go_wp2_with fail
                    go_region
                    go_wp2_with fail
                    go_ret
                    exact ⟨by rw [HR2.out]; rfl, rE.drew⟩
                  · have b2 : (y == z) = false := by simpa using e2
                    have HR2 := Lib.hid (HR.out.trans (if_neg (fun h => e2 h.2)))
                    clear e2
                    go_wp2_with fail
                    go_region
                    go_wp2_with fail
                    go_ret
                    exact ⟨by rw [HR2.out]; rfl, rE.drew⟩
                · have b1 : (x == 2) = false := by simpa using e1
                  have HR2 := Lib.hid (HR.out.trans (if_neg (fun h => e1 h.1)))
                  clear e1
                  go_wp2_with fail
                  go_region
                  go_wp2_with fail
                  go_ret
                  exact ⟨by rw [HR2.out]; rfl, rE.drew⟩
            exfalso
            have hpc := parts_cases (op := op) (by rw [HPA.out]; omega)
            have hno := HNOP.out
            omega
end Go.Proofs.Ytgfidgbkklideaa
