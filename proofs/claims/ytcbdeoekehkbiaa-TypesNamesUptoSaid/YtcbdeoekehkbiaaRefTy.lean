/- The document's type of what is worked out. -/
import Derived.Test.YtcbdeoekehkbiaaTyOf
import Derived.Deep.AppendLies
namespace Go.Proofs.Ytcbdeoekehkbiaa
open Go.RowKit
set_option linter.unusedVariables false
set_option linter.unusedSimpArgs false

/-- The type that all have, or none. -/
def stepT (a t : Int) : Int := if t = a then a else 0
def allT (l : List Int) : Int := l.tail.foldl stepT (l.headD 0)
theorem foldT (c : Int) (hc : c ≠ 0) : ∀ (r : List Int) (a : Int), r.foldl stepT a = c ↔ a = c ∧ ∀ t, t ∈ r → t = c
  | [], a => by simp
  | t :: r, a => by
    rw [List.foldl_cons, foldT c hc r]
    unfold stepT
    constructor
    · rintro ⟨h1, h2⟩
      split at h1
      · rename_i e
        subst h1
        exact ⟨rfl, fun x hx => by rcases List.mem_cons.1 hx with rfl | hx; exact e; exact h2 x hx⟩
      · exact absurd h1.symm hc
    · rintro ⟨rfl, h2⟩
      have ht := h2 t (by simp)
      rw [if_pos ht]
      exact ⟨rfl, fun x hx => h2 x (by simp [hx])⟩
theorem allT_iff {l : List Int} {c : Int} (hc : c ≠ 0) (hl : l ≠ []) : allT l = c ↔ ∀ t, t ∈ l → t = c := by
  cases l with
  | nil => exact absurd rfl hl
  | cons x r =>
    show r.foldl stepT x = c ↔ _
    rw [foldT c hc r x]
    simp
theorem each_all {l : List Int} {c d : Int} (hc : c ≠ 0) (hl : l ≠ []) : eachT c d l = if allT l = c then d else 0 := by
  unfold eachT
  by_cases h : allT l = c
  · rw [if_pos h, if_neg]
    rw [List.any_eq_true]
    rintro ⟨t, ht, e⟩
    rw [(allT_iff hc hl).1 h t ht] at e
    simp at e
  · rw [if_neg h, if_pos]
    rw [List.any_eq_true]
    by_cases hx : ∃ t, t ∈ l ∧ ¬ t = c
    · obtain ⟨t, ht, e⟩ := hx
      exact ⟨t, ht, by simp [e]⟩
    · exact absurd ((allT_iff hc hl).2 (fun t ht => Classical.byContradiction fun e => hx ⟨t, ht, e⟩)) h
theorem alike_all {l : List Int} (hl : l ≠ []) : alikeT l = true ↔ allT l ≠ 0 := by
  cases l with
  | nil => exact absurd rfl hl
  | cons x r =>
    unfold alikeT
    rw [Bool.not_eq_true', List.any_eq_false]
    simp only [List.headD_cons]
    constructor
    · intro h
      have hx : x ≠ 0 := fun e => by have := h x (by simp); simp [e] at this
      have : allT (x :: r) = x := (allT_iff hx hl).2 (fun t ht => by have := h t ht; simp at this; exact of_decide_eq_true this.1)
      rw [this]; exact hx
    · intro h t ht
      have hall := (allT_iff h hl).1 rfl
      have e1 := hall t ht
      have e2 := hall x (by simp)
      have hx0 : x ≠ 0 := fun e => h (e2.symm.trans e)
      have htx : t = x := e1.trans e2.symm
      subst htx
      simp [hx0]
theorem same_all {l : List Int} (hl : l ≠ []) : sameT l = allT l := by
  unfold sameT
  by_cases h : allT l = 0
  · rw [if_neg (fun e => (alike_all hl).1 e h), h]
  · rw [if_pos ((alike_all hl).2 h)]
    cases l with
    | nil => exact absurd rfl hl
    | cons x r => exact ((allT_iff h hl).1 rfl x (by simp))
theorem equal_all {l : List Int} (hl : l ≠ []) : equalT l = if allT l = 0 then 0 else 2 := by
  unfold equalT
  by_cases h : allT l = 0
  · rw [if_neg (fun e => (alike_all hl).1 e h), if_pos h]
  · rw [if_pos ((alike_all hl).2 h), if_neg h]
theorem if_all (a b c : Int) : ifT [a, b, c] = if a = 2 ∧ b = c then b else 0 := by
  show (if a = 2 then sameT [b, c] else 0) = _
  rw [same_all (by simp)]
  show (if a = 2 then stepT b c else 0) = _
  unfold stepT
  by_cases h1 : a = 2
  · by_cases h2 : b = c
    · subst h2; simp [h1]
    · rw [if_pos h1, if_neg (fun e => h2 e.symm), if_neg (fun e => h2 e.2)]
  · rw [if_neg h1, if_neg (fun e => h1 e.1)]
theorem allT_take {l : List Int} {m : Nat} {y : Int} (h : l[m + 1]? = some y) : allT (l.take (m + 2)) = stepT (allT (l.take (m + 1))) y := by
  cases l with
  | nil => simp at h
  | cons x r =>
    simp only [List.getElem?_cons_succ] at h
    simp only [allT, List.take_succ_cons, List.tail_cons, List.headD_cons]
    rw [List.take_add_one, h, List.foldl_append]
    rfl
theorem find_ty {w : World} {p : PrD} {cs : Array Value} (h : RdPr w 0 false p cs) (nm : ByteArray) : 0 ≤ (findP nm p.flows p.ins).2.1 := by
  obtain ⟨vi, vf, vo, rfl, _, ⟨ai, ci, rfl, _, _, _, hi, _⟩, ⟨af, cf, rfl, _, _, _, hf, _⟩, _⟩ := h
  have hI : ∀ x, x ∈ p.ins → 0 ≤ x.ty := fun x hx => by
    obtain ⟨i, hi'⟩ := List.getElem?_of_mem hx
    exact (hi i x hi').2.1.1
  have hF : ∀ x, x ∈ p.flows → 0 ≤ x.ty := fun x hx => by
    obtain ⟨i, hi'⟩ := List.getElem?_of_mem hx
    exact (hf i x hi').2.1.1
  clear hi hf
  have kF : ∀ (l : List FlD) (i : Nat), (∀ x, x ∈ l → 0 ≤ x.ty) → 0 ≤ (findFl nm i l).2.1 := by
    intro l
    induction l with
    | nil => intro i _; simp [findFl]
    | cons x r ih =>
      intro i hl
      unfold findFl
      split
      · exact hl x (by simp)
      · exact ih (i + 1) (fun y hy => hl y (by simp [hy]))
  have kI : ∀ (l : List InD), (∀ x, x ∈ l → 0 ≤ x.ty) → 0 ≤ (findP nm p.flows l).2.1 := by
    intro l
    induction l with
    | nil => intro _; unfold findP; exact kF _ _ hF
    | cons x r ih =>
      intro hl
      unfold findP
      split
      · exact hl x (by simp)
      · exact ih (fun y hy => hl y (by simp [hy]))
  exact kI _ hI
theorem cell_own {X X' : World} {r : Option Nat} {a : Addr} {v : Value} {L : Nat} (h : X.cell? a = some v) (hc : Chg (fun q => r = some q) X X') (hb : ∀ g, r = some g → L ≤ g) (ha : a.block < L) : X'.cell? a = some v :=
  hc.cell h (fun hh => by have := hb _ hh; omega)
theorem parts_cases {op : Int} (h : 0 ≤ partsP op) : op = 1 ∨ op = 2 ∨ op = 3 ∨ op = 4 ∨ op = 5 ∨ op = 6 ∨ op = 7 ∨ op = 8 ∨ op = 9 ∨ op = 10 ∨ op = 11 ∨ op = 12 ∨ op = 13 ∨ op = 14 ∨ op = 15 ∨ op = 16 ∨ op = 17 ∨ op = 18 ∨ op = 19 := by
  simp only [partsP, hasOp, pairsD, prefixesD, List.any_cons, List.any_nil, Bool.or_false, Bool.or_eq_true, decide_eq_true_eq] at h
  split at h
  · omega
  · split at h
    · omega
    · split at h
      · omega
      · split at h <;> omega
end Go.Proofs.Ytcbdeoekehkbiaa
