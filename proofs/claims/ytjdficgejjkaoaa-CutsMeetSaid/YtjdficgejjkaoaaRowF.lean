/- Rows of structs in one block, by plain data: element by element, cell by cell; flows, what comes from without, texts. -/
import Derived.Test.YtjdficgejjkaoaaTwinP
namespace Go.Proofs.Ytjdficgejjkaoaa
open Go.RowKit
set_option linter.unusedVariables false
set_option linter.unusedSimpArgs false

/-- The cells tell the elements, each in sz of them. -/
def RowOf {α : Type} (f : α → List Value) (sz : Nat) (cur : Array Value) (ps : List α) : Prop := ∀ (i : Nat) (x : α), ps[i]? = some x → ∀ c, c < sz → cur[i * sz + c]? = (f x)[c]?
theorem RowOf.set {α : Type} {f : α → List Value} {sz : Nat} {cur : Array Value} {ps : List α} (h : RowOf f sz cur ps) {k j : Nat} {x x' : α} {u : Value} (hx : ps[k]? = some x) (hj : j < sz) (hs : k * sz + j < cur.size)
    (h1 : ∀ c, c < sz → c ≠ j → (f x')[c]? = (f x)[c]?) (h2 : (f x')[j]? = some u) : RowOf f sz (cur.setIfInBounds (k * sz + j) u) (ps.set k x') := by
  intro i y hy c hc
  by_cases hik : i = k
  · subst hik
    have hl := (List.getElem?_eq_some_iff.1 hx).1
    rw [List.getElem?_set_self hl] at hy
    simp only [Option.some.injEq] at hy
    subst hy
    by_cases hcj : c = j
    · subst hcj
      rw [Array.getElem?_setIfInBounds, if_pos rfl, if_pos hs, h2]
    · rw [Array.getElem?_setIfInBounds, if_neg (by omega), h1 c hc hcj]
      exact h i x hx c hc
  · rw [List.getElem?_set_ne (fun e => hik e.symm)] at hy
    have hne : k * sz + j ≠ i * sz + c := fun e => by
      rcases Nat.lt_or_gt_of_ne hik with hl | hl
      · have : (i + 1) * sz ≤ k * sz := Nat.mul_le_mul_right sz hl
        rw [Nat.add_mul] at this
        omega
      · have : (k + 1) * sz ≤ i * sz := Nat.mul_le_mul_right sz hl
        rw [Nat.add_mul] at this
        omega
    rw [Array.getElem?_setIfInBounds, if_neg hne]
    exact h i y hy c hc
theorem RowOf.own {α : Type} {f : α → List Value} {sz : Nat} (hf : ∀ x, (f x).length = sz) {w : World} {base e g n cap : Nat} {ps : List α} {r : List Value} (h : w.ownsRow base e sz (.slice (some ⟨g, 0, none⟩) n cap) n (ps.flatMap f ++ r)) :
    ∃ cur, w.heap[g]? = some (.cells cur e (0, 0)) ∧ cur.size = cap * sz ∧ RowOf f sz cur ps ∧ n ≤ cap ∧ cap ≤ maxLen ∧ base ≤ g := by
  rcases h with ⟨hl, h | ⟨g', cap', cur, hv, hb, hh, hc1, hc2, hsz, ht⟩⟩
  · cases h.1
  · simp only [Value.slice.injEq, Option.some.injEq, Addr.mk.injEq, and_true] at hv
    obtain ⟨rfl, _, rfl⟩ := hv
    refine ⟨cur, hh, hsz, fun i x hx c hc => ?_, hc1, hc2, hb⟩
    have hi := (List.getElem?_eq_some_iff.1 hx).1
    have hlen := flat_len hf ps
    have : i * sz + c < n * sz := by
      have h3 : (i + 1) * sz ≤ ps.length * sz := Nat.mul_le_mul_right sz hi
      rw [Nat.add_mul] at h3
      have h4 : (ps.flatMap f ++ r).length = n * sz := hl
      rw [List.length_append, hlen] at h4
      omega
    have e1 : cur[i * sz + c]? = (cur.toList.take (n * sz))[i * sz + c]? := by rw [List.getElem?_take, if_pos this]; simp
    rw [e1, ht, flat_at hf r hx hc]
theorem TwRow.block {w w1 : World} {E sz n : Nat} {css : List Value} {v : Value} (h : TwRow w E sz n css w1 v) : ∃ g cur, v = .slice (some ⟨g, 0, none⟩) n (n + 1) ∧ w.heap.size ≤ g ∧ w1.heap[g]? = some (.cells cur E (0, 0)) ∧ cur.size = (n + 1) * sz := by
  obtain ⟨g, rfl, hg, ho, he⟩ := h
  rcases ho.2 with ⟨h0, _⟩ | ⟨g', cap', cur, hv, _, hh, _, _, hsz, _⟩
  · cases h0
  · simp only [Value.slice.injEq, Option.some.injEq, Addr.mk.injEq, and_true] at hv
    obtain ⟨rfl, _, rfl⟩ := hv
    exact ⟨g, cur, rfl, hg, hh, hsz⟩
theorem TwRow.other {w w1 w2 : World} {E E' sz n g : Nat} {css : List Value} {v : Value} {cur : Array Value} (h : TwRow w E sz n css w1 v) (hg : w1.heap[g]? = some (.cells cur E' (0, 0))) (hne : E ≠ E') (hc : Chg (fun q => q = g) w1 w2) (hgw : w.heap.size ≤ g) : TwRow w E sz n css w2 v := by
  obtain ⟨gi, cur', hv', _, hh, _⟩ := h.block
  obtain ⟨gi', rfl, hgi, ho, he⟩ := h
  simp only [Value.slice.injEq, Option.some.injEq, Addr.mk.injEq, and_true] at hv'
  subst hv'
  refine ⟨gi', rfl, hgi, ownsRow_chg ho hc (fun e => ?_), Ext.then he hc (fun b hb => by omega)⟩
  subst e
  rw [hg] at hh
  simp only [Option.some.injEq, Obj.cells.injEq] at hh
  exact hne hh.2.1.symm
/-- A flow's cells may stand in memory. -/
def FlFine (x : FlD) : Prop := x.name.size ≤ maxLen ∧ isU8 x.ty ∧ isI64 x.st ∧ isI64 x.df ∧ isU8 x.body.op ∧ isI64 x.body.n ∧ x.body.name.size ≤ maxLen
theorem RdFlV.fine {w : World} {lo : Nat} {t : Bool} {l : List FlD} {v : Value} (h : RdFlV w lo t l v) {i : Nat} {x : FlD} (hx : l[i]? = some x) : FlFine x := by
  obtain ⟨_, _, _, _, _, _, hr, _⟩ := h
  obtain ⟨k1, k2, k3, k4, b, o, _, _, _, _, _, _, _, k5, k6, k7, _⟩ := hr i x hx
  exact ⟨k1, k2, k3, k4, k5, k6, k7⟩
/-- A row of flows in memory reads as these. -/
theorem RowOf.rdFl {w0 w : World} {g cap : Nat} {cur : Array Value} {ps : List (FlD × Value)} (hr : RowOf flP 8 cur ps) (hg : w.heap[g]? = some (.cells cur 55 (0, 0))) (hE : Ext w0 w)
    (hps : ∀ p, p ∈ ps → FlFine p.1 ∧ RdExV w0 0 false p.1.body.args p.2) (h1 : ps.length ≤ cap) (h2 : cap ≤ maxLen) (h3 : fitsR ps.length 96) : RdFlV w 0 false (ps.map (·.1)) (.slice (some ⟨g, 0, none⟩) ps.length cap) := by
  have hlt := lt_of_block hg
  refine ⟨_, _, by rw [List.length_map], by rw [List.length_map]; exact h3, by rw [List.length_map]; exact h1, h2, fun i x hx => ?_, fun h => by cases h⟩
  rw [List.getElem?_map] at hx
  obtain ⟨p, hp, rfl⟩ := Option.map_eq_some_iff.1 hx
  obtain ⟨⟨k1, k2, k3, k4, k5, k6, k7⟩, hv⟩ := hps p (List.mem_of_getElem? hp)
  have hc : ∀ c u, c < 8 → (flP p)[c]? = some u → w.cell? ⟨g, 0 + i * 8 + c, none⟩ = some u := fun c u hc hu => by rw [blk_cell hg, Nat.zero_add, hr i p hp c hc]; exact hu
  exact ⟨k1, k2, k3, k4, g, 0, rfl, Nat.zero_le _, hlt, hc 0 _ (by omega) rfl, hc 1 _ (by omega) rfl, hc 2 _ (by omega) rfl, hc 3 _ (by omega) rfl, k5, k6, k7, p.2, hv.ext hE, hc 4 _ (by omega) rfl, hc 5 _ (by omega) rfl, hc 6 _ (by omega) rfl, hc 7 _ (by omega) rfl⟩
/-- Flows that lie in memory, as pairs of what they are and their parts' slices. -/
theorem RdFlV.pairs {w : World} {lo : Nat} {t : Bool} {l : List FlD} {v : Value} (h : RdFlV w lo t l v) : ∃ ps : List (FlD × Value), ps.map (·.1) = l ∧ ∀ p, p ∈ ps → FlFine p.1 ∧ RdExV w lo t p.1.body.args p.2 := by
  obtain ⟨_, _, _, _, _, _, hr, _⟩ := h
  have key : ∀ (m : List FlD), (∀ x, x ∈ m → FlFine x ∧ ∃ v, RdExV w lo t x.body.args v) → ∃ ps : List (FlD × Value), ps.map (·.1) = m ∧ ∀ p, p ∈ ps → FlFine p.1 ∧ RdExV w lo t p.1.body.args p.2 := by
    intro m
    induction m with
    | nil => intro _; exact ⟨[], rfl, fun p hp => by simp at hp⟩
    | cons y r ih =>
      intro hm
      obtain ⟨ps, h1, h2⟩ := ih (fun x hx => hm x (List.mem_cons_of_mem _ hx))
      obtain ⟨hy, v, hv⟩ := hm y (by simp)
      refine ⟨(y, v) :: ps, by simp [h1], fun p hp => ?_⟩
      rcases List.mem_cons.1 hp with rfl | hp
      · exact ⟨hy, hv⟩
      · exact h2 p hp
  refine key l (fun x hx => ?_)
  obtain ⟨i, hi, rfl⟩ := List.getElem_of_mem hx
  obtain ⟨k1, k2, k3, k4, b, o, _, _, _, _, _, _, _, k5, k6, k7, v, hv, _⟩ := hr i _ (List.getElem?_eq_getElem hi)
  exact ⟨⟨k1, k2, k3, k4, k5, k6, k7⟩, v, hv⟩
/-- What comes from without, in a row. -/
theorem RowOf.rdIn {w : World} {g cap : Nat} {cur : Array Value} {l : List InD} (hr : RowOf inC 3 cur l) (hg : w.heap[g]? = some (.cells cur 59 (0, 0)))
    (hps : ∀ x, x ∈ l → x.name.size ≤ maxLen ∧ isU8 x.ty ∧ isI64 x.st) (h1 : l.length ≤ cap) (h2 : cap ≤ maxLen) (h3 : fitsR l.length 32) : RdInV w 0 false l (.slice (some ⟨g, 0, none⟩) l.length cap) := by
  have hlt := lt_of_block hg
  refine ⟨_, _, rfl, h3, h1, h2, fun i x hx => ?_, fun h => by cases h⟩
  obtain ⟨k1, k2, k3⟩ := hps x (List.mem_of_getElem? hx)
  have hc : ∀ c u, c < 3 → (inC x)[c]? = some u → w.cell? ⟨g, 0 + i * 3 + c, none⟩ = some u := fun c u hc hu => by rw [blk_cell hg, Nat.zero_add, hr i x hx c hc]; exact hu
  exact ⟨k1, k2, k3, g, 0, rfl, Nat.zero_le _, hlt, hc 0 _ (by omega) rfl, hc 1 _ (by omega) rfl, hc 2 _ (by omega) rfl⟩
/-- A list of flows of one's own; their parts lie in an elder world. -/
def FlV (w0 w : World) (base : Nat) (l : List FlD) (v : Value) : Prop := ∃ ps : List (FlD × Value), ps.map (·.1) = l ∧ w.ownsRow base 55 8 v l.length (ps.flatMap flP) ∧ ∀ p, p ∈ ps → FlFine p.1 ∧ RdExV w0 0 false p.1.body.args p.2
theorem FlV.nil (w0 w : World) (base : Nat) : FlV w0 w base [] (.slice none 0 0) := ⟨[], rfl, World.ownsRow_nil _ _ _ _, fun p hp => by simp at hp⟩
theorem FlV.form {w0 w : World} {base : Nat} {l : List FlD} {v : Value} (h : FlV w0 w base l v) : ∃ a cap, v = .slice a l.length cap := by
  obtain ⟨ps, _, h, _⟩ := h
  rcases h.2 with ⟨h0, h1⟩ | ⟨g, cap, cur, h1, _⟩
  · exact ⟨none, 0, by rw [h0, h1]⟩
  · exact ⟨_, _, h1⟩
theorem FlV.chg {w0 w w' : World} {base : Nat} {l : List FlD} {v : Value} (h : FlV w0 w base l v) {S : Nat → Prop} (hc : Chg S w w') (hS : ∀ g, v.ownBlock = some g → ¬ S g) : FlV w0 w' base l v := by
  obtain ⟨ps, h0, h, hp⟩ := h
  refine ⟨ps, h0, ⟨h.1, ?_⟩, hp⟩
  rcases h.2 with ⟨h0, h1⟩ | ⟨g, cap, cur, h1, h2, h3, h4⟩
  · exact .inl ⟨h0, h1⟩
  · exact .inr ⟨g, cap, cur, h1, h2, (hc.block g (lt_of_block h3) (hS g (by rw [h1]; rfl))).trans h3, h4⟩
theorem FlV.rd {w0 w : World} {base : Nat} {l : List FlD} {v : Value} (h : FlV w0 w base l v) (hE : Ext w0 w) (hf : fitsR l.length 96) : RdFlV w 0 false l v := by
  obtain ⟨ps, rfl, h, hp⟩ := h
  rw [List.length_map] at h hf
  rcases h.2 with ⟨h0, h1⟩ | ⟨g, cap, cur, h1, h2, h3, h4⟩
  · obtain rfl : ps = [] := List.length_eq_zero_iff.1 h1
    rw [h0]
    exact ⟨none, 0, rfl, hf, Nat.zero_le _, Nat.zero_le _, fun i x hx => by simp at hx, fun h => by cases h⟩
  · subst h1
    obtain ⟨cur, a1, a2, a3, a4, a5, _⟩ := RowOf.own (r := []) flP_len (by simpa using h)
    exact a3.rdFl a1 hE hp a4 a5 hf
/-- A list of what comes from without, of one's own. -/
def InsV (w : World) (base : Nat) (l : List InD) (v : Value) : Prop := w.ownsRow base 59 3 v l.length (l.flatMap inC) ∧ ∀ x, x ∈ l → x.name.size ≤ maxLen ∧ isU8 x.ty ∧ isI64 x.st
theorem InsV.form {w : World} {base : Nat} {l : List InD} {v : Value} (h : InsV w base l v) : ∃ a cap, v = .slice a l.length cap := by
  obtain ⟨h, _⟩ := h
  rcases h.2 with ⟨h0, h1⟩ | ⟨g, cap, cur, h1, _⟩
  · exact ⟨none, 0, by rw [h0, h1]⟩
  · exact ⟨_, _, h1⟩
theorem InsV.chg {w w' : World} {base : Nat} {l : List InD} {v : Value} (h : InsV w base l v) {S : Nat → Prop} (hc : Chg S w w') (hS : ∀ g, v.ownBlock = some g → ¬ S g) : InsV w' base l v := by
  obtain ⟨h, hp⟩ := h
  refine ⟨⟨h.1, ?_⟩, hp⟩
  rcases h.2 with ⟨h0, h1⟩ | ⟨g, cap, cur, h1, h2, h3, h4⟩
  · exact .inl ⟨h0, h1⟩
  · exact .inr ⟨g, cap, cur, h1, h2, (hc.block g (lt_of_block h3) (hS g (by rw [h1]; rfl))).trans h3, h4⟩
theorem InsV.rd {w : World} {base : Nat} {l : List InD} {v : Value} (h : InsV w base l v) (hf : fitsR l.length 32) : RdInV w 0 false l v := by
  obtain ⟨h, hp⟩ := h
  rcases h.2 with ⟨h0, h1⟩ | ⟨g, cap, cur, h1, h2, h3, h4⟩
  · obtain rfl : l = [] := List.length_eq_zero_iff.1 h1
    rw [h0]
    exact ⟨none, 0, rfl, hf, Nat.zero_le _, Nat.zero_le _, fun i x hx => by simp at hx, fun h => by cases h⟩
  · subst h1
    obtain ⟨cur, a1, a2, a3, a4, a5, _⟩ := RowOf.own (r := []) inC_len (by simpa using h)
    exact a3.rdIn a1 hp a4 a5 hf
end Go.Proofs.Ytjdficgejjkaoaa
