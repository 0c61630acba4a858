/- A part exchanged for another one of its type: the plain law. -/
import Derived.Test.YtcbdeoekehkbiaaTyNms
import Derived.Test.YtcbdeoekehkbiaaStLessP
namespace Go.Proofs.Ytcbdeoekehkbiaa
open Go.RowKit
set_option linter.unusedVariables false
set_option linter.unusedSimpArgs false

def yesE : Ex := .mk 2 1 sNo []
def sevenE : Ex := .mk 1 7 sNo []
/-- What stands for something of a type. -/
def standT (t : Int) : Ex := if t = 2 then yesE else sevenE
def chgT (p : PrD) : Nat → Ex → Nat → Ex × Bool
  | 0, x, _ => (standT (tyP p x).1, (tyP p x).2 == 0)
  | f + 1, .mk op n nm args, way => if args.length = 0 ∨ way = 0 then (standT (tyP p (.mk op n nm args)).1, (tyP p (.mk op n nm args)).2 == 0) else
      (.mk op n nm (args.set (way % args.length) (chgT p f (args.getD (way % args.length) noughtE) (way / 2)).1), (chgT p f (args.getD (way % args.length) noughtE) (way / 2)).2)
theorem chgT_leaf {p : PrD} {f : Nat} {x : Ex} {way : Nat} (h : x.args.length = 0 ∨ way = 0) : chgT p f x way = (standT (tyP p x).1, (tyP p x).2 == 0) := by
  cases f with
  | zero => rfl
  | succ f =>
    obtain ⟨op, n, nm, args⟩ := x
    simp only [Ex.args] at h
    unfold chgT
    rw [if_pos h]
/-- Types are none, number, or yes and no. -/
def TysP (p : PrD) : Prop := (∀ x, x ∈ p.ins → 0 ≤ x.ty) ∧ ∀ x, x ∈ p.flows → 0 ≤ x.ty
theorem findFl_pos {s : ByteArray} : ∀ (i : Nat) (l : List FlD), (∀ x, x ∈ l → 0 ≤ x.ty) → 0 ≤ (findFl s i l).2.1
  | _, [], _ => by simp [findFl]
  | i, x :: r, h => by
    unfold findFl
    split
    · exact h x (by simp)
    · exact findFl_pos (i + 1) r (fun y hy => h y (List.mem_cons_of_mem _ hy))
theorem findP_pos {s : ByteArray} {fl : List FlD} (hf : ∀ x, x ∈ fl → 0 ≤ x.ty) : ∀ (l : List InD), (∀ x, x ∈ l → 0 ≤ x.ty) → 0 ≤ (findP s fl l).2.1
  | [], _ => by unfold findP; exact findFl_pos 0 fl hf
  | x :: r, h => by
    unfold findP
    split
    · exact h x (by simp)
    · exact findP_pos hf r (fun y hy => h y (List.mem_cons_of_mem _ hy))
theorem nameT_12 {p : PrD} (hp : TysP p) {nm : ByteArray} (h : nameT p nm ≠ 0) : nameT p nm = 1 ∨ nameT p nm = 2 := by
  have h0 := findP_pos (s := nm) hp.2 p.ins hp.1
  unfold nameT at h ⊢
  split at h
  · exact absurd rfl h
  · rename_i h2
    rw [if_neg h2]
    omega
mutual
theorem tyE_12 {p : PrD} (hp : TysP p) : ∀ (x : Ex), tyE p x ≠ 0 → tyE p x = 1 ∨ tyE p x = 2
  | .mk op n nm args, h => by
    have hl := tyL_12 hp args
    unfold tyE at h ⊢
    split at h
    · rename_i h1; rw [if_pos h1]; exact .inl rfl
    · rename_i h1
      rw [if_neg h1]
      split at h
      · rename_i h2; rw [if_pos h2]; exact .inr rfl
      · rename_i h2
        rw [if_neg h2]
        split at h
        · rename_i h3; rw [if_pos h3]; exact nameT_12 hp h
        · rename_i h3
          rw [if_neg h3]
          unfold ruleT at h ⊢
          split at h
          · rename_i g; rw [if_pos g]; exact .inl (each_allN h).2
          · rename_i g
            rw [if_neg g]
            split at h
            · rename_i g; rw [if_pos g]; exact .inr (each_allN h).2
            · rename_i g
              rw [if_neg g]
              split at h
              · rename_i g; rw [if_pos g]; exact .inr (each_allN h).2
              · rename_i g
                rw [if_neg g]
                split at h
                · rename_i g; rw [if_pos g]; exact .inr (equal_allN h).2
                · rename_i g
                  rw [if_neg g]
                  split at h
                  · rename_i g
                    rw [if_pos g]
                    have e := (same_allN h).2
                    rw [e] at h ⊢
                    cases hq : tyL p args with
                    | nil => rw [hq] at h; exact absurd rfl h
                    | cons a r =>
                      rw [hq] at h
                      exact hl a (by rw [hq]; simp) h
                  · rename_i g
                    rw [if_neg g]
                    split at h
                    · rename_i g
                      rw [if_pos g]
                      have e := (if_allN h).2.2
                      rw [e] at h ⊢
                      cases hq : (tyL p args).tail with
                      | nil => rw [hq] at h; exact absurd rfl h
                      | cons a r =>
                        rw [hq] at h
                        exact hl a (List.mem_of_mem_tail (by rw [hq]; simp)) h
                    · exact absurd rfl h
theorem tyL_12 {p : PrD} (hp : TysP p) : ∀ (l : List Ex) (t : Int), t ∈ tyL p l → t ≠ 0 → t = 1 ∨ t = 2
  | [], t, h, _ => by simp [tyL] at h
  | x :: r, t, h, h0 => by
    simp only [tyL, List.mem_cons] at h
    rcases h with rfl | h
    · exact tyE_12 hp x h0
    · exact tyL_12 hp r t h h0
end
theorem wf_stand (d : Nat) (t : Int) : wfE (d + 1) (standT t) = true := by
  unfold standT
  split
  · simp [wfE, yesE, partsP, headP, wfL, sNo, ByteArray.toList_eq]
  · simp [wfE, sevenE, partsP, headP, wfL, sNo, ByteArray.toList_eq]
theorem nodes_stand (t : Int) : nodesE (standT t) = 1 := by unfold standT; split <;> rfl
theorem nms_stand (t : Int) : nmsE (standT t) = [] := by unfold standT; split <;> simp [yesE, sevenE, nmsE, nmsL]
theorem ty_stand {p : PrD} {t : Int} (h : t = 1 ∨ t = 2) : tyE p (standT t) = t := by
  rcases h with rfl | rfl
  · simp [standT, sevenE, tyE]
  · simp [standT, yesE, tyE]
theorem tyL_set {p : PrD} : ∀ {l : List Ex} {k : Nat} {y : Ex}, (∀ x, l[k]? = some x → tyE p y = tyE p x) → tyL p (l.set k y) = tyL p l
  | [], _, _, _ => by simp
  | x :: r, 0, y, h => by
    simp only [List.set_cons_zero, tyL]
    rw [h x rfl]
  | x :: r, k + 1, y, h => by
    simp only [List.set_cons_succ, tyL]
    rw [tyL_set (l := r) (k := k) (y := y) (fun z hz => h z (by simpa using hz))]
theorem chgT_fine {p : PrD} (hp : TysP p) : ∀ (f : Nat) (x : Ex) (way d : Nat), wfE d x = true → (tyP p x).2 = 0 → (chgT p f x way).2 = true ∧ wfE d (chgT p f x way).1 = true ∧ nodesE (chgT p f x way).1 ≤ nodesE x ∧ (∀ s, s ∈ nmsE (chgT p f x way).1 → s ∈ nmsE x) ∧ tyE p (chgT p f x way).1 = tyE p x := by
  intro f
  have leaf : ∀ (f : Nat) (x : Ex) (way d : Nat), (x.args.length = 0 ∨ way = 0) → wfE d x = true → (tyP p x).2 = 0 → (chgT p f x way).2 = true ∧ wfE d (chgT p f x way).1 = true ∧ nodesE (chgT p f x way).1 ≤ nodesE x ∧ (∀ s, s ∈ nmsE (chgT p f x way).1 → s ∈ nmsE x) ∧ tyE p (chgT p f x way).1 = tyE p x := by
    intro f x way d hz hw ht
    obtain ⟨e, rfl⟩ := wf_pos hw
    obtain ⟨h1, h2, h3, h4⟩ := ty_ok ht
    rw [chgT_leaf hz, h4]
    refine ⟨rfl, wf_stand e _, by rw [nodes_stand]; exact nodes_pos x, fun s hs => by rw [nms_stand] at hs; simp at hs, ty_stand (tyE_12 hp x h3)⟩
  induction f with
  | zero =>
    intro x way d hw ht
    have := leaf 0 x 0 d (.inr rfl) hw ht
    exact this
  | succ f ih =>
    intro x way d hw ht
    by_cases hz : x.args.length = 0 ∨ way = 0
    · exact leaf (f + 1) x way d hz hw ht
    obtain ⟨op, n, nm, args⟩ := x
    simp only [Ex.args] at hz
    obtain ⟨y, hy, hm, hg⟩ := part_of hz
    have hc : chgT p (f + 1) (.mk op n nm args) way = (.mk op n nm (args.set (way % args.length) (chgT p f y (way / 2)).1), (chgT p f y (way / 2)).2) := by
      rw [chgT, if_neg hz, hg]
    obtain ⟨e, rfl⟩ := wf_pos hw
    have hw' := hw
    simp only [wfE, Bool.and_eq_true, decide_eq_true_eq] at hw
    have hyt := ty_part ht hm
    obtain ⟨k1, k2, k3, k4, k5⟩ := ih y (way / 2) e (wfL_mem hw.2 hm) (by rw [hyt])
    rw [hc]
    refine ⟨k1, ?_, ?_, fun s hs => ?_, ?_⟩
    · simp only [wfE, Bool.and_eq_true, decide_eq_true_eq, List.length_set]
      exact ⟨hw.1, wfL_set hw.2 k2⟩
    · simp only [nodesE]
      have := nodes_set (l := args) (k := way % args.length) (y := (chgT p f y (way / 2)).1) (fun x hx => by rw [hy] at hx; simp only [Option.some.injEq] at hx; rw [← hx]; exact k3)
      omega
    · simp only [nmsE, List.mem_append] at hs ⊢
      rcases hs with hs | hs
      · exact .inl hs
      · rcases nms_set hs with hs | hs
        · exact .inr hs
        · exact .inr (nms_part hm s (k4 s hs))
    · simp only [tyE]
      rw [tyL_set (fun x hx => by rw [hy] at hx; simp only [Option.some.injEq] at hx; rw [← hx]; exact k5)]
theorem ty_chg {p : PrD} (hp : TysP p) {x : Ex} (f way : Nat) (h : (tyP p x).2 = 0) : (chgT p f x way).2 = true ∧ tyP p (chgT p f x way).1 = ((tyP p x).1, 0) := by
  obtain ⟨h1, h2, h3, h4⟩ := ty_ok h
  obtain ⟨k1, k2⟩ := okE_iff.1 h1
  obtain ⟨c1, c2, c3, c4, c5⟩ := chgT_fine hp f x way 32 k1 h
  rw [h4]
  refine ⟨c1, ?_⟩
  have := ty_of (p := p) (okE_iff.2 ⟨c2, by omega⟩) (fun s hs => h2 s (c4 s hs)) (by rw [c5]; exact h3)
  rw [this, c5]
theorem tys_of {w : World} {lo : Nat} {t : Bool} {p : PrD} {cs : Array Value} (h : RdPr w lo t p cs) : TysP p := by
  obtain ⟨vi, vf, vo, rfl, _, hi, hf, _⟩ := h
  refine ⟨fun x hx => ?_, fun x hx => ?_⟩
  · obtain ⟨_, _, _, _, _, _, hr, _⟩ := hi
    obtain ⟨i, hi, rfl⟩ := List.getElem_of_mem hx
    obtain ⟨_, h2, _⟩ := hr i _ (List.getElem?_eq_getElem hi)
    exact h2.1
  · obtain ⟨i, hi, rfl⟩ := List.getElem_of_mem hx
    exact (hf.fine (List.getElem?_eq_getElem hi)).2.1.1
end Go.Proofs.Ytcbdeoekehkbiaa
