/- How late flows are: plain data and the plain law (the least numbers that fit). -/
import Derived.Test.YtjdficgejjkaoaaNChk
namespace Go.Proofs.Ytjdficgejjkaoaa
open Go.RowKit
set_option linter.unusedVariables false
set_option linter.unusedSimpArgs false

/-- One that asks: which flow, for which (below 0: none of the flows), how many rounds later, for what. -/
structure Ask where
  flow : Nat
  src : Int
  more : Int
  ref : Rf
def askOf (p : PrD) (i : Nat) (f : FlD) (r : Rf) : Ask := ⟨i, (findP r.1 p.flows p.ins).2.2.1, if (findP r.1 p.flows p.ins).1 = f.st then -r.2 else -r.2 + 1, r⟩
def asksOf (p : PrD) (i : Nat) (f : FlD) : List Ask := (gthE [] 0 f.body).map (askOf p i f)
def asksL (p : PrD) : Nat → List FlD → List Ask
  | _, [] => []
  | i, f :: r => asksOf p i f ++ asksL p (i + 1) r
def asksP (p : PrD) : List Ask := asksL p 0 p.flows
def leastA (l : List Int) (x : Ask) : Int := if x.src < 0 then x.more else l.getD x.src.toNat 0 + x.more
/-- So late they may be. -/
def Fits (p : PrD) (l : List Int) : Prop := l.length = p.flows.length ∧ (∀ n, n ∈ l → 0 ≤ n ∧ n ≤ 1000) ∧ ∀ x, x ∈ asksP p → leastA l x ≤ l.getD x.flow 0
def fitsB (p : PrD) (l : List Int) : Bool := decide (l.length = p.flows.length) && (l.all fun n => decide (0 ≤ n) && decide (n ≤ 1000)) && (asksP p).all fun x => decide (leastA l x ≤ l.getD x.flow 0)
theorem fitsB_iff {p : PrD} {l : List Int} : fitsB p l = true ↔ Fits p l := by
  simp [fitsB, Fits, and_assoc]
/-- The plain answer of Check. -/
noncomputable def lateChk (p : PrD) (l : List Int) : Bool := decide (namesP p = 0) && fitsB p l
/-- The plain answer of Age. -/
noncomputable def ageP (p : PrD) (l : List Int) (flow : Int) (r : Rf) : Int × Int :=
  if lateChk p l = false then (0, 1) else match (asksP p).find? fun x => decide ((x.flow : Int) = flow) && decide (x.ref = r) with
  | none => (0, 1)
  | some x => (l.getD x.flow 0 - leastA l x, 0)

theorem asksL_mem {p : PrD} : ∀ {l : List FlD} {i : Nat} {x : Ask}, x ∈ asksL p i l → ∃ k f r, l[k]? = some f ∧ r ∈ gthE [] 0 f.body ∧ x = askOf p (i + k) f r
  | [], _, _, h => by simp [asksL] at h
  | f :: l, i, x, h => by
    simp only [asksL, List.mem_append] at h
    rcases h with h | h
    · simp only [asksOf, List.mem_map] at h
      obtain ⟨r, hr, rfl⟩ := h
      exact ⟨0, f, r, rfl, hr, rfl⟩
    · obtain ⟨k, g, r, hk, hr, rfl⟩ := asksL_mem h
      exact ⟨k + 1, g, r, by simpa using hk, hr, by rw [show i + (k + 1) = i + 1 + k from by omega]⟩
theorem asksL_of {p : PrD} : ∀ {l : List FlD} {i k : Nat} {f : FlD} {r : Rf}, l[k]? = some f → r ∈ gthE [] 0 f.body → askOf p (i + k) f r ∈ asksL p i l
  | [], _, _, _, _, h, _ => by simp at h
  | g :: l, i, 0, f, r, h, hr => by
    simp only [List.getElem?_cons_zero, Option.some.injEq] at h
    subst h
    simp only [asksL, List.mem_append, asksOf, List.mem_map]
    exact .inl ⟨r, hr, rfl⟩
  | g :: l, i, k + 1, f, r, h, hr => by
    simp only [List.getElem?_cons_succ] at h
    simp only [asksL, List.mem_append]
    have := asksL_of (p := p) (i := i + 1) h hr
    rw [show i + 1 + k = i + (k + 1) from by omega] at this
    exact .inr this
theorem asksP_mem {p : PrD} {x : Ask} : x ∈ asksP p ↔ ∃ k f r, p.flows[k]? = some f ∧ r ∈ gthE [] 0 f.body ∧ x = askOf p k f r := by
  constructor
  · intro h
    obtain ⟨k, f, r, h1, h2, h3⟩ := asksL_mem h
    exact ⟨k, f, r, h1, h2, by rw [h3, Nat.zero_add]⟩
  · rintro ⟨k, f, r, h1, h2, rfl⟩
    have := asksL_of (p := p) (i := 0) h1 h2
    rw [Nat.zero_add] at this
    exact this
theorem findFl_src (s : ByteArray) : ∀ (l : List FlD) (i : Nat), 0 ≤ (findFl s i l).2.2.1 ∧ ((findFl s i l).2.2.1 < i + l.length ∨ (findFl s i l).2.2.1 = 0)
  | [], i => by simp [findFl]
  | x :: r, i => by
    unfold findFl
    split
    · simp; omega
    · have := findFl_src s r (i + 1)
      simp only [List.length_cons]
      omega
theorem findP_src (s : ByteArray) (fl : List FlD) : ∀ l : List InD, -1 ≤ (findP s fl l).2.2.1 ∧ ((findP s fl l).2.2.1 < fl.length ∨ (findP s fl l).2.2.1 = 0)
  | [] => by
    have := findFl_src s fl 0
    unfold findP
    omega
  | x :: r => by
    unfold findP
    split
    · simp; omega
    · exact findP_src s fl r
mutual
theorem gthE_ago : ∀ (x : Ex) (d : Nat) (l : List Rf) (ago : Int), wfE d x = true → 0 ≤ ago → ago + d ≤ 1000 → ∀ r, r ∈ gthE l ago x → r ∈ l ∨ (0 ≤ r.2 ∧ r.2 ≤ ago + d)
  | .mk op n nm args, d, l, ago, hw, h0, h1, r, hr => by
    cases d with
    | zero => simp [wfE] at hw
    | succ d =>
      simp only [wfE, Bool.and_eq_true] at hw
      rw [gthE] at hr
      have ha : 0 ≤ agoP op ago ∧ agoP op ago + d ≤ ago + (d + 1 : Nat) := by
        unfold agoP
        split
        · have : wrap64 (ago + 1) = ago + 1 := by unfold wrap64; omega
          rw [this]; omega
        · omega
      rcases gthL_ago args d _ _ hw.2 ha.1 (by omega) r hr with h | h
      · unfold stepR at h
        split at h
        · simp only [List.mem_append, List.mem_singleton] at h
          rcases h with h | rfl
          · exact .inl h
          · exact .inr ⟨h0, by simp only; omega⟩
        · exact .inl h
      · exact .inr ⟨h.1, by omega⟩
theorem gthL_ago : ∀ (xs : List Ex) (d : Nat) (l : List Rf) (ago : Int), wfL d xs = true → 0 ≤ ago → ago + d ≤ 1000 → ∀ r, r ∈ gthL l ago xs → r ∈ l ∨ (0 ≤ r.2 ∧ r.2 ≤ ago + d)
  | [], d, l, ago, _, _, _, r, hr => by rw [gthL] at hr; exact .inl hr
  | x :: xs, d, l, ago, hw, h0, h1, r, hr => by
    simp only [wfL, Bool.and_eq_true] at hw
    rw [gthL] at hr
    rcases gthL_ago xs d _ _ hw.2 h0 h1 r hr with h | h
    · exact gthE_ago x d _ _ hw.1 h0 h1 r h
    · exact .inr h
end
/-- What each that asks is like. -/
structure AskOk (p : PrD) (x : Ask) : Prop where
  flow : x.flow < p.flows.length
  src0 : -1 ≤ x.src
  src1 : x.src < p.flows.length
  more0 : -32 ≤ x.more
  more1 : x.more ≤ 1
  nm : x.ref.1.size ≤ 40
  ago0 : 0 ≤ x.ref.2
  ago1 : x.ref.2 ≤ 32
theorem ask_ok {p : PrD} (hp : progP p = true) {x : Ask} (h : x ∈ asksP p) : AskOk p x := by
  obtain ⟨k, f, r, hk, hr, rfl⟩ := asksP_mem.1 h
  have hl := (List.getElem?_eq_some_iff.1 hk).1
  obtain ⟨_, _, _, hok, _⟩ := prog_ok hp
  obtain ⟨hwf, hnd⟩ := ok_wf' (hok f (List.mem_of_getElem? hk))
  have h1 := findP_src r.1 p.flows p.ins
  have h2 := gthE_ago f.body 32 [] 0 hwf (by omega) (by omega) r hr
  have h3 := gthE_names f.body 32 [] 0 hwf (fun r h => by simp at h) r hr
  simp only [List.not_mem_nil, false_or] at h2
  refine ⟨hl, h1.1, ?_, ?_, ?_, h3, h2.1, by simp only [askOf]; omega⟩
  · simp only [askOf]; omega
  · simp only [askOf]; split <;> omega
  · simp only [askOf]; split <;> omega
/-- The list on its way: it is no greater than any that fits. -/
structure Way (p : PrD) (l : List Int) : Prop where
  len : l.length = p.flows.length
  rng : ∀ n, n ∈ l → 0 ≤ n ∧ n ≤ 1000
  low : ∀ m, Fits p m → ∀ i, l.getD i 0 ≤ m.getD i 0
/-- They are the least that fit. -/
def Least (p : PrD) (l : List Int) : Prop := Fits p l ∧ ∀ m, Fits p m → ∀ i, l.getD i 0 ≤ m.getD i 0
theorem getD_rng {l : List Int} (h : ∀ n, n ∈ l → 0 ≤ n ∧ n ≤ 1000) (i : Nat) : 0 ≤ l.getD i 0 ∧ l.getD i 0 ≤ 1000 := by
  rw [List.getD_eq_getElem?_getD]
  cases e : l[i]? with
  | none => simp
  | some n => exact h n (List.mem_of_getElem? e)
theorem Way.start (p : PrD) : Way p (List.replicate p.flows.length 0) := by
  refine ⟨by simp, fun n hn => ?_, fun m hm i => ?_⟩
  · rw [List.eq_of_mem_replicate hn]; omega
  · have := (getD_rng hm.2.1 i).1
    rw [List.getD_eq_getElem?_getD, List.getElem?_replicate]
    split <;> simpa using this
theorem least_mono {l m : List Int} (h : ∀ i, l.getD i 0 ≤ m.getD i 0) (x : Ask) : leastA l x ≤ leastA m x := by
  unfold leastA
  split
  · exact Int.le_refl _
  · have := h x.src.toNat; omega
theorem getD_set {l : List Int} {k i : Nat} {n : Int} : (l.set k n).getD i 0 = if i = k ∧ k < l.length then n else l.getD i 0 := by
  rw [List.getD_eq_getElem?_getD, List.getD_eq_getElem?_getD, List.getElem?_set]
  by_cases h : k = i
  · subst h
    by_cases hl : k < l.length
    · simp [hl]
    · simp [hl]
  · rw [if_neg h, if_neg (fun h' => h h'.1.symm)]
theorem Way.step {p : PrD} {l : List Int} (h : Way p l) {x : Ask} (hx : x ∈ asksP p) (h1 : leastA l x ≤ 1000) (h2 : l.getD x.flow 0 < leastA l x) : Way p (l.set x.flow (leastA l x)) := by
  refine ⟨by rw [List.length_set]; exact h.len, fun n hn => ?_, fun m hm i => ?_⟩
  · rcases List.mem_or_eq_of_mem_set hn with hn | rfl
    · exact h.rng n hn
    · have := (getD_rng h.rng x.flow).1; omega
  · rw [getD_set]
    split
    · rename_i hi
      rw [hi.1]
      exact Int.le_trans (least_mono (h.low m hm) x) (hm.2.2 x hx)
    · exact h.low m hm i
theorem Way.done {p : PrD} {l : List Int} (h : Way p l) (hf : ∀ x, x ∈ asksP p → leastA l x ≤ l.getD x.flow 0) : Least p l := ⟨⟨h.len, h.rng, hf⟩, h.low⟩
theorem Way.stop {p : PrD} {l : List Int} (h : Way p l) {x : Ask} (hx : x ∈ asksP p) (h1 : 1000 < leastA l x) : ∀ m, ¬ Fits p m := fun m hm => by
  have := least_mono (h.low m hm) x
  have := hm.2.2 x hx
  have := (getD_rng hm.2.1 x.flow).2
  omega
theorem Least.unique {p : PrD} {l m : List Int} (h : Least p l) (k : Least p m) : l = m := by
  apply List.ext_getElem?
  intro i
  have h1 := h.2 m k.1 i
  have h2 := k.2 l h.1 i
  have e : l.getD i 0 = m.getD i 0 := by omega
  have hlen : l.length = m.length := by rw [h.1.1, k.1.1]
  rw [List.getD_eq_getElem?_getD, List.getD_eq_getElem?_getD] at e
  by_cases hi : i < l.length
  · rw [List.getElem?_eq_getElem hi, List.getElem?_eq_getElem (by omega)] at e ⊢
    simpa using e
  · rw [List.getElem?_eq_none (by omega), List.getElem?_eq_none (by omega)]
/-- How much is left to grow. -/
def leftS : List Int → Nat
  | [] => 0
  | n :: r => (1000 - n).toNat + leftS r
theorem leftS_set : ∀ {l : List Int} {k : Nat} {n : Int}, k < l.length → l.getD k 0 < n → n ≤ 1000 → leftS (l.set k n) < leftS l
  | [], _, _, h, _, _ => by simp at h
  | m :: r, 0, n, h, h1, h2 => by
    simp only [List.set_cons_zero, leftS]
    simp at h1
    omega
  | m :: r, k + 1, n, h, h1, h2 => by
    simp only [List.set_cons_succ, leftS]
    have := leftS_set (l := r) (k := k) (n := n) (by simpa using h) (by simpa using h1) h2
    omega
/-- The plain answer of Of: an error, or the least that fit. -/
def LateA (p : PrD) (l : List Int) (e : Int) : Prop := if namesP p = 0 then (e = 0 ∧ Least p l) ∨ (e = 10 ∧ l = [] ∧ ∀ m, ¬ Fits p m) else e = namesP p ∧ l = []
theorem LateA.unique {p : PrD} {l m : List Int} {e f : Int} (h : LateA p l e) (k : LateA p m f) : e = f ∧ l = m := by
  unfold LateA at h k
  split at h
  · rename_i h0
    rw [if_pos h0] at k
    rcases h with ⟨h1, h2⟩ | ⟨h1, h2, h3⟩ <;> rcases k with ⟨k1, k2⟩ | ⟨k1, k2, k3⟩
    · exact ⟨by rw [h1, k1], h2.unique k2⟩
    · exact absurd h2.1 (k3 l)
    · exact absurd k2.1 (h3 m)
    · exact ⟨by rw [h1, k1], by rw [h2, k2]⟩
  · rename_i h0
    rw [if_neg h0] at k
    exact ⟨by rw [h.1, k.1], by rw [h.2, k.2]⟩
theorem asksL_len (p : PrD) : ∀ (l : List FlD) (i : Nat), (∀ x, x ∈ l → nodesE x.body ≤ 200) → (asksL p i l).length ≤ l.length * 200
  | [], i, _ => by simp [asksL]
  | x :: r, i, h => by
    have h1 := asksL_len p r (i + 1) (fun y hy => h y (List.mem_cons_of_mem _ hy))
    have h2 := gthE_le x.body [] 0
    have h3 := h x List.mem_cons_self
    simp only [asksL, List.length_append, asksOf, List.length_map, List.length_cons]
    simp at h2
    omega
theorem asksP_len {p : PrD} (hp : progP p = true) : (asksP p).length ≤ 25600 := by
  obtain ⟨_, hl, _, hok, _⟩ := prog_ok hp
  have := asksL_len p p.flows 0 (fun x hx => (ok_wf' (hok x hx)).2)
  unfold asksP
  omega
theorem names_prog {p : PrD} (h : namesP p = 0) : progP p = true := by
  cases e : progP p
  · rw [names_1 e] at h; omega
  · rfl
theorem names_okN {p : PrD} (h : namesP p = 0) : okN p := by
  have hp := names_prog h
  by_cases ho : okN p
  · exact ho
  · rw [names_6 hp ho] at h; omega
end Go.Proofs.Ytjdficgejjkaoaa
