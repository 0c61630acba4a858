/- Names that are made longer: the plain law. -/
import Derived.Test.YtgdlocjocjamgaaNChk
import Derived.Test.YtgdlocjocjamgaaLessP
namespace Go.Proofs.Ytgdlocjocjamgaa
open Go.RowKit
set_option linter.unusedVariables false
set_option linter.unusedSimpArgs false

def endS (c : UInt8) : ByteArray := ⟨#[c, 95]⟩
def newS (c : UInt8) (s : ByteArray) : ByteArray := s ++ endS c
theorem newS_data (c : UInt8) (s : ByteArray) : (newS c s).data = s.data ++ #[c, 95] := by
  unfold newS endS
  exact ByteArray.data_append
theorem newS_inj {c : UInt8} {s t : ByteArray} : newS c s = newS c t ↔ s = t := by
  constructor
  · intro h
    have := congrArg ByteArray.data h
    rw [newS_data, newS_data] at this
    have h2 := Array.append_left_inj (ys := #[c, 95]) |>.1 this
    cases s; cases t; cases h2; rfl
  · rintro rfl; rfl
theorem newS_size (c : UInt8) (s : ByteArray) : (newS c s).size = s.size + 2 := by
  show (newS c s).data.size = s.data.size + 2
  rw [newS_data, Array.size_append]
  rfl
theorem kw_last : ∀ x, x ∈ kwords → x.data.back? ≠ some 95 := by decide
theorem nameP_new {s : ByteArray} {c : UInt8} (h : nameP s = true) (h38 : s.size ≤ 38) (h1 : 97 ≤ c.toNat) (h2 : c.toNat ≤ 122) : nameP (newS c s) = true := by
  unfold nameP at h ⊢
  simp only [Bool.and_eq_true, decide_eq_true_eq, Bool.not_eq_true', List.any_eq_false] at h ⊢
  obtain ⟨⟨⟨a, b⟩, d⟩, e⟩ := h
  have hs := newS_size c s
  refine ⟨⟨⟨by omega, by omega⟩, fun k hk => ?_⟩, fun x hx => ?_⟩
  · unfold goodB
    rw [dif_pos hk]
    have hg : ((newS c s)[k]'hk) = (newS c s).data[k]'(by exact hk) := rfl
    rw [hg]
    by_cases hk1 : k < s.size
    · have := d k hk1
      unfold goodB at this
      rw [dif_pos hk1] at this
      have e2 : (newS c s).data[k]'(by exact hk) = s.data[k]'(by exact hk1) := by
        simp only [newS_data]
        rw [Array.getElem_append_left]
      rw [e2]
      exact this
    · have h0 : 0 < k := by omega
      have e2 : (newS c s).data[k]'(by exact hk) = (#[c, 95] : Array UInt8)[k - s.data.size]'(by have : s.data.size = s.size := rfl; simp; omega) := by
        simp only [newS_data]
        rw [Array.getElem_append_right]
        have : s.data.size = s.size := rfl
        omega
      rw [e2]
      have hz : s.data.size = s.size := rfl
      have : k - s.data.size = 0 ∨ k - s.data.size = 1 := by omega
      unfold goodR
      rcases this with h | h
      · simp only [h]
        have : letR ((#[c, 95] : Array UInt8)[0].toNat : Int) = true := by
          show letR (c.toNat : Int) = true
          unfold letR
          simp; omega
        rw [this]; rfl
      · simp only [h]
        simp [h0, digR]
  · rintro hxe
    have hxe : x = newS c s := by simpa using hxe
    subst hxe
    have := kw_last _ hx
    rw [newS_data] at this
    apply this
    simp [Array.back?_append]
mutual
def renE (c : UInt8) : Ex → Ex
  | .mk op n nm l => .mk op n (if op = 3 then newS c nm else nm) (renL c l)
def renL (c : UInt8) : List Ex → List Ex
  | [] => []
  | x :: r => renE c x :: renL c r
end
def renR (c : UInt8) (r : Rf) : Rf := (newS c r.1, r.2)
theorem renR_inj {c : UInt8} {a b : Rf} : renR c a = renR c b ↔ a = b := by
  unfold renR
  rw [Prod.mk.injEq, newS_inj]
  constructor
  · rintro ⟨h1, h2⟩; exact Prod.ext h1 h2
  · rintro rfl; exact ⟨rfl, rfl⟩
theorem stepR_ren (c : UInt8) (l : List Rf) (op : Int) (nm : ByteArray) (ago : Int) : stepR (l.map (renR c)) op (if op = 3 then newS c nm else nm) ago = (stepR l op nm ago).map (renR c) := by
  unfold stepR
  by_cases h3 : op = 3
  · subst h3
    simp only [if_true, true_and]
    have e : ((l.map (renR c)).any fun r => decide (r = (newS c nm, ago))) = l.any fun r => decide (r = (nm, ago)) := by
      rw [List.any_map]
      congr 1
      funext r
      simp only [Function.comp]
      rw [decide_eq_decide]
      exact renR_inj (b := (nm, ago))
    rw [e]
    split
    · rw [List.map_append]; rfl
    · rfl
  · simp only [h3, false_and, if_false]
mutual
theorem gthE_ren (c : UInt8) : ∀ (x : Ex) (l : List Rf) (ago : Int), gthE (l.map (renR c)) ago (renE c x) = (gthE l ago x).map (renR c)
  | .mk op n nm args, l, ago => by
    simp only [renE, gthE]
    rw [stepR_ren, gthL_ren c args]
theorem gthL_ren (c : UInt8) : ∀ (xs : List Ex) (l : List Rf) (ago : Int), gthL (l.map (renR c)) ago (renL c xs) = (gthL l ago xs).map (renR c)
  | [], l, ago => rfl
  | x :: r, l, ago => by
    simp only [renL, gthL]
    rw [gthE_ren c x, gthL_ren c r]
end
mutual
theorem nodes_ren (c : UInt8) : ∀ x : Ex, nodesE (renE c x) = nodesE x
  | .mk op n nm l => by simp only [renE, nodesE]; rw [nodesL_ren c l]
theorem nodesL_ren (c : UInt8) : ∀ l : List Ex, nodesL (renL c l) = nodesL l
  | [] => rfl
  | x :: r => by simp only [renL, nodesL]; rw [nodes_ren c x, nodesL_ren c r]
end
theorem renL_len (c : UInt8) : ∀ l : List Ex, (renL c l).length = l.length
  | [] => rfl
  | x :: r => by simp only [renL, List.length_cons]; rw [renL_len c r]
mutual
/-- Every name in it is short. -/
def shortE : Ex → Bool
  | .mk _ _ nm l => shortL l && decide (nm.size ≤ 38)
def shortL : List Ex → Bool
  | [] => true
  | x :: r => shortE x && shortL r
end
theorem head_ren {op n : Int} {nm : ByteArray} {c : UInt8} (h : headP op n nm = true) (h38 : nm.size ≤ 38) (h1 : 97 ≤ c.toNat) (h2 : c.toNat ≤ 122) : headP op n (if op = 3 then newS c nm else nm) = true := by
  by_cases h3 : op = 3
  · subst h3
    simp only [if_true]
    unfold headP at h ⊢
    simp only [Bool.and_eq_true] at h ⊢
    simp at h ⊢
    exact ⟨h.1, nameP_new h.2 h38 h1 h2⟩
  · rw [if_neg h3]; exact h
mutual
theorem wf_ren {c : UInt8} (h1 : 97 ≤ c.toNat) (h2 : c.toNat ≤ 122) : ∀ (d : Nat) (x : Ex), shortE x = true → wfE d x = true → wfE d (renE c x) = true
  | 0, .mk _ _ _ _, _, h => by simp [wfE] at h
  | d + 1, .mk op n nm l, hs, h => by
    simp only [wfE, renE, shortE, Bool.and_eq_true, decide_eq_true_eq] at h hs ⊢
    exact ⟨⟨by rw [renL_len]; exact h.1.1, head_ren h.1.2 hs.2 h1 h2⟩, wfL_ren h1 h2 d l hs.1 h.2⟩
theorem wfL_ren {c : UInt8} (h1 : 97 ≤ c.toNat) (h2 : c.toNat ≤ 122) : ∀ (d : Nat) (l : List Ex), shortL l = true → wfL d l = true → wfL d (renL c l) = true
  | _, [], _, _ => by simp [renL, wfL]
  | d, x :: r, hs, h => by
    simp only [wfL, renL, shortL, Bool.and_eq_true] at h hs ⊢
    exact ⟨wf_ren h1 h2 d x hs.1 h.1, wfL_ren h1 h2 d r hs.2 h.2⟩
end
theorem ok_ren {c : UInt8} (h1 : 97 ≤ c.toNat) (h2 : c.toNat ≤ 122) {x : Ex} (hs : shortE x = true) (h : okE 32 200 x = true) : okE 32 200 (renE c x) = true := by
  rw [okE_iff] at h ⊢
  exact ⟨wf_ren h1 h2 32 x hs h.1, by rw [nodes_ren]; exact h.2⟩
def renI (c : UInt8) (x : InD) : InD := ⟨newS c x.name, x.ty, x.st⟩
def renF (c : UInt8) (x : FlD) : FlD := ⟨newS c x.name, x.ty, x.st, x.df, renE c x.body⟩
def renP (c : UInt8) (p : PrD) : PrD := ⟨p.st, p.ins.map (renI c), p.flows.map (renF c), p.outs.map (newS c)⟩
/-- Every name of the program is short. -/
def ShortP (p : PrD) : Prop := (∀ x, x ∈ p.ins → x.name.size ≤ 38) ∧ (∀ x, x ∈ p.flows → x.name.size ≤ 38 ∧ shortE x.body = true) ∧ ∀ s, s ∈ p.outs → s.size ≤ 38
theorem findFl_ren (c : UInt8) (s : ByteArray) : ∀ (l : List FlD) (i : Nat), findFl (newS c s) i (l.map (renF c)) = findFl s i l
  | [], i => rfl
  | x :: r, i => by
    simp only [List.map_cons, findFl]
    have e : (renF c x).name = newS c s ↔ x.name = s := newS_inj
    by_cases h : x.name = s
    · rw [if_pos (e.2 h), if_pos h]; rfl
    · rw [if_neg (fun k => h (e.1 k)), if_neg h, findFl_ren c s r (i + 1)]
theorem find_ren (c : UInt8) (s : ByteArray) (p : PrD) : findP (newS c s) (renP c p).flows (renP c p).ins = findP s p.flows p.ins := by
  have key : ∀ l : List InD, findP (newS c s) (p.flows.map (renF c)) (l.map (renI c)) = findP s p.flows l := by
    intro l
    induction l with
    | nil => exact findFl_ren c s p.flows 0
    | cons x r ih =>
      simp only [List.map_cons, findP]
      have e : (renI c x).name = newS c s ↔ x.name = s := newS_inj
      by_cases h : x.name = s
      · rw [if_pos (e.2 h), if_pos h]; rfl
      · rw [if_neg (fun k => h (e.1 k)), if_neg h, ih]
  exact key p.ins
theorem namesE_ren (c : UInt8) (x : Ex) : namesE (renE c x) = (namesE x).map (newS c) := by
  unfold namesE
  have := gthE_ren c x [] 0
  rw [List.map_nil] at this
  rw [this, List.map_map, List.map_map]
  rfl
theorem namesF_ren (c : UInt8) : ∀ l : List FlD, namesF (l.map (renF c)) = (namesF l).map (newS c)
  | [] => rfl
  | x :: r => by
    simp only [List.map_cons, namesF, List.map_append]
    rw [namesF_ren c r, show (renF c x).body = renE c x.body from rfl, namesE_ren]
theorem nodup_new {c : UInt8} {l : List ByteArray} : (l.map (newS c)).Nodup ↔ l.Nodup := by
  induction l with
  | nil => simp
  | cons x r ih =>
    rw [List.map_cons, List.nodup_cons, List.nodup_cons, ih]
    have : newS c x ∈ r.map (newS c) ↔ x ∈ r := by
      constructor
      · intro h
        obtain ⟨y, hy, e⟩ := List.mem_map.1 h
        rw [← newS_inj.1 e]; exact hy
      · intro h; exact List.mem_map.2 ⟨x, h, rfl⟩
    rw [this]
theorem namesT_ren (c : UInt8) (p : PrD) : namesT (renP c p) = (namesT p).map (newS c) := by
  rw [namesT_eq, namesT_eq, List.map_append]
  simp only [renP, List.map_map]
  rfl
theorem okN_ren (c : UInt8) (p : PrD) : okN (renP c p) ↔ okN p := by
  have ha : askedL (renP c p) = (askedL p).map (newS c) := by
    unfold askedL
    rw [List.map_append, ← namesF_ren]
    rfl
  have hm : ∀ (s : ByteArray) (l : List ByteArray), newS c s ∈ l.map (newS c) ↔ s ∈ l := fun s l => by
    constructor
    · intro h
      obtain ⟨y, hy, e⟩ := List.mem_map.1 h
      rw [← newS_inj.1 e]; exact hy
    · intro h; exact List.mem_map.2 ⟨s, h, rfl⟩
  unfold okN
  rw [namesT_ren, ha, nodup_new, show (renP c p).outs = p.outs.map (newS c) from rfl, nodup_new]
  constructor
  · rintro ⟨a, b, d⟩
    exact ⟨a, fun s hs => (hm s _).1 (b _ ((hm s _).2 hs)), d⟩
  · rintro ⟨a, b, d⟩
    refine ⟨a, fun s hs => ?_, d⟩
    obtain ⟨t, ht, rfl⟩ := List.mem_map.1 hs
    exact (hm t _).2 (b t ht)
theorem prog_ren {c : UInt8} (h1 : 97 ≤ c.toNat) (h2 : c.toNat ≤ 122) {p : PrD} (hs : ShortP p) (h : progP p = true) : progP (renP c p) = true := by
  obtain ⟨⟨a, b, d, e, f⟩, g, i, j⟩ := progP_parts.1 h
  refine progP_parts.2 ⟨⟨a, b, by simpa [renP] using d, by simpa [renP] using e, by simpa [renP] using f⟩, fun x hx => ?_, fun x hx => ?_, fun s hs2 => ?_⟩
  · obtain ⟨y, hy, rfl⟩ := List.mem_map.1 hx
    have := g y hy
    simp only [inBad, mayP, Bool.not_eq_false', Bool.and_eq_true, decide_eq_true_eq, Bool.or_eq_true] at this ⊢
    exact ⟨⟨⟨nameP_new this.1.1.1 (hs.1 y hy) h1 h2, this.1.1.2⟩, this.1.2⟩, this.2⟩
  · obtain ⟨y, hy, rfl⟩ := List.mem_map.1 hx
    have := i y hy
    simp only [flBad, mayP, Bool.or_eq_false_iff, Bool.not_eq_false', Bool.and_eq_true, decide_eq_true_eq, decide_eq_false_iff_not, Bool.or_eq_true] at this ⊢
    exact ⟨⟨⟨⟨⟨nameP_new this.1.1.1.1.1 (hs.2.1 y hy).1 h1 h2, this.1.1.1.1.2⟩, this.1.1.1.2⟩, this.1.1.2⟩, this.1.2⟩, ok_ren h1 h2 (hs.2.1 y hy).2 this.2⟩
  · obtain ⟨y, hy, rfl⟩ := List.mem_map.1 hs2
    exact nameP_new (j y hy) (hs.2.2 y hy) h1 h2
/-- Under longer names the answer is the same. -/
theorem names_ren {c : UInt8} (h1 : 97 ≤ c.toNat) (h2 : c.toNat ≤ 122) {p : PrD} (hs : ShortP p) (h : namesP p ≠ 1) : namesP (renP c p) = namesP p := by
  have hp : progP p = true := by
    cases hp : progP p
    · exact absurd (names_1 hp) h
    · rfl
  have hq := prog_ren h1 h2 hs hp
  by_cases ho : okN p
  · rw [names_0 hp ho, names_0 hq ((okN_ren c p).2 ho)]
  · rw [names_6 hp ho, names_6 hq (fun k => ho ((okN_ren c p).1 k))]
end Go.Proofs.Ytgdlocjocjamgaa
