/- The document's Check of names. -/
import Derived.Test.YtcbdeoekehkbiaaNChk
import Derived.Deep.RegionHeld3
namespace Go.Proofs.Ytcbdeoekehkbiaa
open Go.RowKit
set_option linter.unusedVariables false
set_option linter.unusedSimpArgs false

/-- A list of strings of one's own. -/
def NmV (w : World) (base : Nat) (l : List ByteArray) (v : Value) : Prop := w.ownsRow base 9 1 v l.length (l.map Value.string)
theorem NmV.form {w : World} {base : Nat} {l : List ByteArray} {v : Value} (h : NmV w base l v) : ∃ a cap, v = .slice a l.length cap := by
  rcases h.2 with ⟨h0, h1⟩ | ⟨g, cap, cur, h1, _⟩
  · exact ⟨none, 0, by rw [h0, h1]⟩
  · exact ⟨_, _, h1⟩
theorem NmV.get {w : World} {base n : Nat} {l : List ByteArray} {a : Option Addr} {cap : Nat} (h : NmV w base l (.slice a n cap)) {i : Nat} {s : ByteArray} (hs : l[i]? = some s) : ∃ g, a = some ⟨g, 0, none⟩ ∧ w.cell? ⟨g, i, none⟩ = some (.string s) := by
  have hi : i < l.length := (List.getElem?_eq_some_iff.1 hs).1
  have h0 := h
  rcases h.2 with ⟨h0, h1⟩ | ⟨g, c', cur, h1, _⟩
  · omega
  · simp only [Value.slice.injEq] at h1
    obtain ⟨rfl, rfl, rfl⟩ := h1
    have c0 := World.ownsRow.cellAt h i (by omega)
    rw [List.getElem?_map, hs] at c0
    exact ⟨g, rfl, c0⟩
theorem NmV.chg {w w' : World} {base : Nat} {l : List ByteArray} {v : Value} (h : NmV w base l v) {S : Nat → Prop} (hc : Chg S w w') (hS : ∀ g, v.ownBlock = some g → ¬ S g) : NmV w' base l v := by
  refine ⟨h.1, ?_⟩
  rcases h.2 with ⟨h0, h1⟩ | ⟨g, cap, cur, h1, h2, h3, h4⟩
  · exact .inl ⟨h0, h1⟩
  · exact .inr ⟨g, cap, cur, h1, h2, (hc.block g (lt_of_block h3) (hS g (by rw [h1]; rfl))).trans h3, h4⟩
theorem NmV.nil (w : World) (base : Nat) : NmV w base [] (.slice none 0 0) := World.ownsRow_nil _ _ _ _
theorem NmV.snoc {w : World} {base : Nat} {l : List ByteArray} {r : ByteArray} {v : Value} (h : w.ownsRow base 9 1 v (l.length + 1) (l.map Value.string ++ [.string r])) : NmV w base (l ++ [r]) v := by
  unfold NmV
  rw [List.length_append, List.map_append]
  exact h
theorem NmV.form1 {w : World} {base : Nat} {l : List ByteArray} {r : ByteArray} {v : Value} (h : NmV w base (l ++ [r]) v) : ∃ a cap, v = .slice a (l.length + 1) cap := by
  have := h.form
  simpa using this
theorem infoStr : (Try.prog.info? 9).map (fun i => (i.zero, i.size, i.bytes)) = some (some (.string ByteArray.empty), 1, 16) := by kernel_rfl
theorem flTs_names : ∀ (i : Nat) (l : List FlD), (flTs i l).map (·.1) = l.map (·.name)
  | _, [] => rfl
  | i, x :: r => by simp only [flTs, List.map_cons, flTs_names (i + 1) r, flT]
theorem namesT_eq (p : PrD) : namesT p = p.ins.map (·.name) ++ p.flows.map (·.name) := by
  unfold namesT thingsL
  rw [List.map_append, flTs_names, List.map_map]
  rfl
theorem look_there {s : ByteArray} : ∀ {l : List Thing}, (lookT s l).2.2.2 = true ↔ s ∈ l.map (·.1)
  | [] => by simp [lookT]
  | y :: r => by
    unfold lookT
    by_cases h : y.1 = s
    · rw [if_pos h]; simp [h]
    · rw [if_neg h, look_there]
      simp only [List.map_cons, List.mem_cons]
      exact ⟨.inr, fun h' => h'.elim (fun e => absurd e.symm h) id⟩
theorem find_there {p : PrD} {s : ByteArray} : (findP s p.flows p.ins).2.2.2 = true ↔ s ∈ namesT p := by
  rw [findP_look]
  exact look_there
theorem there_mem {p : PrD} {l : List Rf} : (l.all fun r => (findP r.1 p.flows p.ins).2.2.2) = true ↔ ∀ s, s ∈ l.map (·.1) → s ∈ namesT p := by
  rw [List.all_eq_true]
  constructor
  · intro h s hs
    obtain ⟨r, hr, rfl⟩ := List.mem_map.1 hs
    exact find_there.1 (h r hr)
  · intro h r hr
    exact find_there.2 (h _ (List.mem_map.2 ⟨r, hr, rfl⟩))
theorem all_drop {p : PrD} {l : List Rf} {k : Nat} {r : Rf} (h : l[k]? = some r) : ((l.drop k).all fun r => (findP r.1 p.flows p.ins).2.2.2) = ((findP r.1 p.flows p.ins).2.2.2 && ((l.drop (k + 1)).all fun r => (findP r.1 p.flows p.ins).2.2.2)) := by
  obtain ⟨hk, rfl⟩ := List.getElem?_eq_some_iff.1 h
  rw [List.drop_eq_getElem_cons hk]
  rfl
theorem namesF_mem {l : List FlD} {x : FlD} {s : ByteArray} (hx : x ∈ l) (hs : s ∈ namesE x.body) : s ∈ namesF l := by
  induction l with
  | nil => simp at hx
  | cons y r ih =>
    simp only [namesF, List.mem_append]
    rcases List.mem_cons.1 hx with rfl | hx
    · exact .inl hs
    · exact .inr (ih hx)
theorem take_nodup {l : List ByteArray} {k : Nat} {s : ByteArray} (h : l[k]? = some s) (hn : (l.take k).Nodup) (hm : s ∉ l.take k) : (l.take (k + 1)).Nodup := by
  rw [List.take_add_one, h]
  exact nodup_snoc.2 ⟨hn, hm⟩
theorem take_dup {l : List ByteArray} {i k : Nat} {s t : ByteArray} (hi : l[i]? = some s) (hk : l[k]? = some t) (hlt : k < i) (he : t = s) : ¬ l.Nodup := by
  obtain ⟨hil, rfl⟩ := List.getElem?_eq_some_iff.1 hi
  have hcut : l = l.take i ++ l[i] :: l.drop (i + 1) := by rw [← List.drop_eq_getElem_cons hil, List.take_append_drop]
  refine nodup_cut hcut ?_
  rw [← he]
  refine List.mem_of_getElem? (i := k) ?_
  rw [List.getElem?_take, if_pos hlt, hk]
theorem not_mem_take {l : List ByteArray} {k : Nat} {s t : ByteArray} (h : l[k]? = some t) (hs : s ∉ l.take k) (hne : t ≠ s) : s ∉ l.take (k + 1) := by
  rw [List.take_add_one, h]
  simp only [Option.toList_some, List.mem_append, List.mem_cons, List.not_mem_nil, or_false, not_or]
  exact ⟨hs, fun e => hne e.symm⟩
end Go.Proofs.Ytcbdeoekehkbiaa
