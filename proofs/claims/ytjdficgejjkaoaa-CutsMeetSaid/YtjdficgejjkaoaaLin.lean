/- A drawn region in which memory only grows: each operation tells what its slot then holds, in whatever order they come. -/
import Derived.Test.YtjdficgejjkaoaaBase
import Derived.OrdersHeld
namespace Go.Proofs.Ytjdficgejjkaoaa
open Go.RowKit
set_option linter.unusedVariables false
set_option linter.unusedSimpArgs false

section
variable {P : Program} {ops : Array Oper} {Q : Exit → Act → World → Prop}
theorem any_done {listed : Array Bool} {a : Act} {w : World} (hl : ∀ j, j < ops.size → listed.getD j true = true) (hQ : Q .normal a w) : ∀ fuel, wpAny P .any ops Q fuel listed a w := by
  have hr : Region.ready .any ops listed = [] := by
    rw [List.eq_nil_iff_forall_not_mem]
    intro j hj
    obtain ⟨h0, o, ho, _⟩ := mem_ready.1 hj
    rw [hl j (Array.getElem?_eq_some_iff.1 ho).1] at h0
    cases h0
  intro fuel
  cases fuel with
  | zero => exact ⟨hr, hQ⟩
  | succ fuel => exact ⟨fun _ => hQ, fun i hi => by rw [hr] at hi; cases hi⟩
/-- What is known of the state on the way. -/
structure LinSt (n : Nat) (d : Nat → Nat) (Φ : Nat → Value → World → Prop) (W0 : World) (a0 : Act) (listed : Array Bool) (a : Act) (w : World) : Prop where
  ext : Ext W0 w
  size : a.tmps.size = a0.tmps.size
  defers : a.defers = a0.defers
  rest : ∀ t, (∀ i, i < n → d i ≠ t) → a.tmps[t]? = a0.tmps[t]?
  vals : ∀ j, j < n → listed.getD j false = true → Φ j (a.tmps.getD (d j) undef) w
def unl (listed : Array Bool) : Nat := (listed.toList.filter fun b => !b).length
theorem unl_set {listed : Array Bool} {i : Nat} (h : listed[i]? = some false) : unl (listed.setIfInBounds i true) + 1 = unl listed := by
  obtain ⟨l⟩ := listed
  simp only [unl, List.setIfInBounds_toArray, List.getElem?_toArray] at *
  induction l generalizing i with
  | nil => simp at h
  | cons b r ih =>
    cases i with
    | zero =>
      simp only [List.getElem?_cons_zero, Option.some.injEq] at h
      subst h
      simp [List.filter_cons]
    | succ i =>
      simp only [List.getElem?_cons_succ] at h
      have := ih h
      rw [List.set_cons_succ, List.filter_cons, List.filter_cons]
      cases b
      · simp only [Bool.not_false, if_true, List.length_cons]; omega
      · simp only [Bool.not_true, Bool.false_eq_true, if_false]; omega
theorem lin_any {n : Nat} {d : Nat → Nat} {Φ : Nat → Value → World → Prop} {W0 : World} {a0 : Act} {deps : Nat → List Nat} (hn : ops.size = n + 1) (hst : ∀ i v X Y, Φ i v X → Ext X Y → Φ i v Y)
    (hd : ∀ i j, i < n → j < n → d i = d j → i = j) (hlt : ∀ i, i < n → d i < a0.tmps.size)
    (hdep : ∀ i, i < n → ∀ j, j ∈ deps i → j < n ∧ ∃ o, ops[i]? = some o ∧ ∃ e, e ∈ o.after ∧ Region.binds .any e = true ∧ e.on = j)
    (htop : ∀ (i : Nat) (o : Oper), ops[i]? = some o → ∀ e, e ∈ o.after → e.on < i)
    (hlast : ∀ j, j < n → ∃ o, ops[n]? = some o ∧ ∃ e, e ∈ o.after ∧ Region.binds .any e = true ∧ e.on = j)
    (step : ∀ i, i < n → ∀ a w, Ext W0 w → a.tmps.size = a0.tmps.size → a.defers = a0.defers → (∀ t, (∀ i, i < n → d i ≠ t) → a.tmps[t]? = a0.tmps[t]?) → (∀ j, j ∈ deps i → Φ j (a.tmps.getD (d j) undef) w) →
      wpOp P ops Q i (fun a' w' => ∃ u, a' = a.put (some (d i)) u ∧ Φ i u w' ∧ Ext w w') a w)
    (last : ∀ a w, Ext W0 w → a.tmps.size = a0.tmps.size → a.defers = a0.defers → (∀ t, (∀ i, i < n → d i ≠ t) → a.tmps[t]? = a0.tmps[t]?) → (∀ j, j < n → Φ j (a.tmps.getD (d j) undef) w) → wpOp P ops Q n (fun a' w' => Q .normal a' w') a w) :
    ∀ (fuel : Nat) (listed : Array Bool) (a : Act) (w : World), listed.size = n + 1 → listed[n]? = some false → unl listed ≤ fuel → LinSt n d Φ W0 a0 listed a w → wpAny P .any ops Q fuel listed a w
  | 0, listed, a, w, hs, hf, hu, h => by
    have := unl_set hf
    omega
  | fuel + 1, listed, a, w, hs, hf, hu, h => by
    have hbool : ∀ j, j < n + 1 → listed.getD j true = listed.getD j false := fun j hj => by
      rw [Array.getD_eq_getD_getElem?, Array.getD_eq_getD_getElem?, Array.getElem?_eq_getElem (by omega)]; rfl
    refine ⟨fun hr => ?_, fun i hi => ?_⟩
    · exfalso
      -- the least that has not come up may come up
      have key : ∀ m, m ≤ n → (∀ j, j < m → listed.getD j false = true) ∨ ∃ i, i ∈ Region.ready .any ops listed := by
        intro m
        induction m with
        | zero => exact fun _ => .inl (fun j hj => absurd hj (Nat.not_lt_zero _))
        | succ m ih =>
          intro hm
          rcases ih (by omega) with h1 | h1
          · by_cases hb : listed.getD m false = true
            · exact .inl (fun j hj => by
                by_cases hjm : j < m
                · exact h1 j hjm
                · obtain rfl : j = m := by omega
                  exact hb)
            · refine .inr ⟨m, mem_ready.2 ⟨by rw [hbool m (by omega)]; simpa using hb, ops[m]'(by omega), Array.getElem?_eq_getElem (by omega), fun e he _ => h1 _ (htop m _ (Array.getElem?_eq_getElem (by omega)) e he)⟩⟩
          · exact .inr h1
      rcases key n (Nat.le_refl _) with h1 | ⟨i, h1⟩
      · have : n ∈ Region.ready .any ops listed := mem_ready.2 ⟨by rw [Array.getD_eq_getD_getElem?, hf]; rfl, ops[n]'(by omega), Array.getElem?_eq_getElem (by omega), fun e he _ => h1 _ (htop n _ (Array.getElem?_eq_getElem (by omega)) e he)⟩
        rw [hr] at this
        cases this
      · rw [hr] at h1
        cases h1
    · obtain ⟨h0, o, ho, hall⟩ := mem_ready.1 hi
      have hil : i < n + 1 := by have := (Array.getElem?_eq_some_iff.1 ho).1; omega
      have hfi : listed[i]? = some false := by
        rw [Array.getElem?_eq_getElem (by omega)]
        rw [Array.getD_eq_getD_getElem?, Array.getElem?_eq_getElem (by omega)] at h0
        simpa using h0
      by_cases hin : i = n
      · subst hin
        have hjs : ∀ j, j < i → listed.getD j false = true := fun j hj => by
          obtain ⟨o', ho', e, he, hb, rfl⟩ := hlast j hj
          rw [ho] at ho'
          simp only [Option.some.injEq] at ho'
          subst ho'
          exact hall e he hb
        refine wpOp_mono (fun a' w' h' => any_done (fun j hj => ?_) h' fuel) (last a w h.ext h.size h.defers h.rest (fun j hj => h.vals j hj (hjs j hj)))
        rw [Array.getD_eq_getD_getElem?, Array.getElem?_setIfInBounds]
        by_cases hji : i = j
        · rw [if_pos hji, if_pos (by omega)]; rfl
        · rw [if_neg hji]
          have := hjs j (by omega)
          rw [Array.getD_eq_getD_getElem?, Array.getElem?_eq_getElem (by omega)] at this
          rw [Array.getElem?_eq_getElem (by omega)]
          simpa using this
      · have hin' : i < n := by omega
        refine wpOp_mono (fun a' w' h' => ?_) (step i hin' a w h.ext h.size h.defers h.rest (fun j hj => ?_))
        · obtain ⟨u, rfl, hΦ, hE⟩ := h'
          refine lin_any hn hst hd hlt hdep htop hlast step last fuel _ _ _ (by simpa using hs) ?_ ?_ ⟨h.ext.trans hE, ?_, h.defers, fun t ht => ?_, fun j hj hl => ?_⟩
          · rw [Array.getElem?_setIfInBounds, if_neg hin]; exact hf
          · have := unl_set hfi; omega
          · simp [Act.put, h.size]
          · simp only [Act.put]
            rw [Array.getElem?_setIfInBounds, if_neg (ht i hin')]
            exact h.rest t ht
          · simp only [Act.put]
            rw [Array.getD_eq_getD_getElem?, Array.getElem?_setIfInBounds]
            by_cases hij : i = j
            · subst hij
              rw [if_pos rfl, if_pos (by rw [h.size]; exact hlt i hin')]
              exact hΦ
            · rw [if_neg (fun e => hij (hd i j hin' hj e)), ← Array.getD_eq_getD_getElem?]
              refine hst j _ _ _ (h.vals j hj ?_) hE
              rw [Array.getD_eq_getD_getElem?, Array.getElem?_setIfInBounds, if_neg hij] at hl
              rw [Array.getD_eq_getD_getElem?]; exact hl
        · obtain ⟨hjn, o', ho', e, he, hb, rfl⟩ := hdep i hin' j hj
          rw [ho] at ho'
          simp only [Option.some.injEq] at ho'
          subst ho'
          exact h.vals _ hjn (hall e he hb)
theorem region_lin {id n : Nat} {d : Nat → Nat} {Φ : Nat → Value → World → Prop} {W0 : World} {a0 : Act} {deps : Nat → List Nat} (hm : P.follows .mixedOrders = true) (hn : ops.size = n + 1) (hst : ∀ i v X Y, Φ i v X → Ext X Y → Φ i v Y)
    (hd : ∀ i j, i < n → j < n → d i = d j → i = j) (hlt : ∀ i, i < n → d i < a0.tmps.size)
    (hdep : ∀ i, i < n → ∀ j, j ∈ deps i → j < n ∧ ∃ o, ops[i]? = some o ∧ ∃ e, e ∈ o.after ∧ Region.binds .any e = true ∧ e.on = j)
    (htop : ∀ (i : Nat) (o : Oper), ops[i]? = some o → ∀ e, e ∈ o.after → e.on < i)
    (hlast : ∀ j, j < n → ∃ o, ops[n]? = some o ∧ ∃ e, e ∈ o.after ∧ Region.binds .any e = true ∧ e.on = j)
    (step : ∀ i, i < n → ∀ a w, Ext W0 w → a.tmps.size = a0.tmps.size → a.defers = a0.defers → (∀ t, (∀ i, i < n → d i ≠ t) → a.tmps[t]? = a0.tmps[t]?) → (∀ j, j ∈ deps i → Φ j (a.tmps.getD (d j) undef) w) →
      wpOp P ops Q i (fun a' w' => ∃ u, a' = a.put (some (d i)) u ∧ Φ i u w' ∧ Ext w w') a w)
    (last : ∀ a w, Ext W0 w → a.tmps.size = a0.tmps.size → a.defers = a0.defers → (∀ t, (∀ i, i < n → d i ≠ t) → a.tmps[t]? = a0.tmps[t]?) → (∀ j, j < n → Φ j (a.tmps.getD (d j) undef) w) → wpOp P ops Q n (fun a' w' => Q .normal a' w') a w) :
    (Code.region id ops true).wp P Q a0 W0 := by
  refine wp_region_any hm (lin_any (a0 := a0) (W0 := W0) hn hst hd hlt hdep htop hlast step last ops.size _ _ _ (by simp [hn]) ?_ ?_ ⟨(Chg.refl _ _).drew, rfl, rfl, fun _ _ => rfl, fun j hj hl => ?_⟩)
  · simp [hn]
  · have : ∀ m, unl (Array.replicate m false) = m := fun m => by simp [unl]
    rw [this]; exact Nat.le_refl _
  · rw [Array.getD_eq_getD_getElem?, Array.getElem?_replicate] at hl
    split at hl <;> simp at hl
def depB (ops : Array Oper) (i j : Nat) : Bool := match ops[i]? with | some o => o.after.any fun e => Region.binds .any e && e.on == j | none => false
theorem depB_spec {i j : Nat} (h : depB ops i j = true) : ∃ o, ops[i]? = some o ∧ ∃ e, e ∈ o.after ∧ Region.binds .any e = true ∧ e.on = j := by
  unfold depB at h
  split at h
  · rename_i o ho
    obtain ⟨k, hk, he⟩ := Array.any_eq_true.1 h
    rw [Bool.and_eq_true, beq_iff_eq] at he
    exact ⟨o, ho, _, Array.getElem_mem hk, he⟩
  · cases h
def topB (ops : Array Oper) : Bool := (List.range ops.size).all fun i => match ops[i]? with | some o => o.after.all fun e => decide (e.on < i) | none => true
theorem topB_spec (h : topB ops = true) (i : Nat) (o : Oper) (ho : ops[i]? = some o) : ∀ e, e ∈ o.after → e.on < i := by
  intro e he
  have := List.all_eq_true.1 h i (List.mem_range.2 (Array.getElem?_eq_some_iff.1 ho).1)
  rw [ho] at this
  simp only at this
  obtain ⟨k, hk, rfl⟩ := Array.getElem_of_mem he
  exact of_decide_eq_true (Array.all_eq_true.1 this k hk)
def depsB (ops : Array Oper) (n : Nat) (deps : List (List Nat)) : Bool := (List.range n).all fun i => (deps.getD i []).all fun j => decide (j < n) && depB ops i j
def lastB (ops : Array Oper) (n : Nat) : Bool := (List.range n).all fun j => depB ops n j
/-- The same, its side conditions as Bools; slot i + m is operation i's. -/
theorem region_lin' {id n m : Nat} {Φ : Nat → Value → World → Prop} {W0 : World} {a0 : Act} (deps : List (List Nat)) (hm : P.follows .mixedOrders = true) (hn : ops.size = n + 1) (hlt : n + m ≤ a0.tmps.size) (hB : (depsB ops n deps && topB ops && lastB ops n) = true)
    (hst : ∀ i v X Y, Φ i v X → Ext X Y → Φ i v Y)
    (step : ∀ i, i < n → ∀ a w, Ext W0 w → a.tmps.size = a0.tmps.size → a.defers = a0.defers → (∀ t, t < m → a.tmps[t]? = a0.tmps[t]?) → (∀ j, j ∈ deps.getD i [] → Φ j (a.tmps.getD (j + m) undef) w) →
      wpOp P ops Q i (fun a' w' => ∃ u, a' = a.put (some (i + m)) u ∧ Φ i u w' ∧ Ext w w') a w)
    (last : ∀ a w, Ext W0 w → a.tmps.size = a0.tmps.size → a.defers = a0.defers → (∀ t, t < m → a.tmps[t]? = a0.tmps[t]?) → (∀ j, j < n → Φ j (a.tmps.getD (j + m) undef) w) → wpOp P ops Q n (fun a' w' => Q .normal a' w') a w) :
    (Code.region id ops true).wp P Q a0 W0 := by
  rw [Bool.and_eq_true, Bool.and_eq_true] at hB
  obtain ⟨⟨h1, h2⟩, h3⟩ := hB
  refine region_lin (d := fun i => i + m) (deps := fun i => deps.getD i []) hm hn hst (fun i j _ _ h => by omega) (fun i hi => by omega) (fun i hi j hj => ?_) (topB_spec h2) (fun j hj => depB_spec (List.all_eq_true.1 h3 j (List.mem_range.2 hj)))
    (fun i hi a w hE hs hdf hr hv => step i hi a w hE hs hdf (fun t ht => hr t (fun i _ h => by omega)) hv) (fun a w hE hs hdf hr hv => last a w hE hs hdf (fun t ht => hr t (fun i _ h => by omega)) hv)
  have := List.all_eq_true.1 (List.all_eq_true.1 h1 i (List.mem_range.2 hi)) j hj
  rw [Bool.and_eq_true, decide_eq_true_eq] at this
  exact ⟨this.1, depB_spec this.2⟩
end
end Go.Proofs.Ytjdficgejjkaoaa
