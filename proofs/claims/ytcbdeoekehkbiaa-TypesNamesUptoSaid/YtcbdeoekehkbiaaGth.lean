/- What is asked for: the plain answer; the document's walk. -/
import Derived.Test.YtcbdeoekehkbiaaRefSz
import Derived.Maps.AppendAt
namespace Go.Proofs.Ytcbdeoekehkbiaa
open Go.RowKit
set_option linter.unusedVariables false

/-- A reference: a name, how many instants ago. -/
abbrev Rf := ByteArray × Int
def rfC (r : Rf) : List Value := [.string r.1, .int .i64 r.2]
theorem rfC_len (r : Rf) : (rfC r).length = 2 := rfl
def stepR (l : List Rf) (op : Int) (nm : ByteArray) (ago : Int) : List Rf := if op = 3 ∧ (l.any fun r => decide (r = (nm, ago))) = false then l ++ [(nm, ago)] else l
def agoP (op ago : Int) : Int := if op = 19 then wrap64 (ago + 1) else ago
mutual
/-- What is asked for, behind others, each once. -/
def gthE : List Rf → Int → Ex → List Rf
  | l, ago, .mk op _ nm args => gthL (stepR l op nm ago) (agoP op ago) args
def gthL : List Rf → Int → List Ex → List Rf
  | l, _, [] => l
  | l, ago, x :: r => gthL (gthE l ago x) ago r
end
theorem stepR_le (l : List Rf) (op : Int) (nm : ByteArray) (ago : Int) : (stepR l op nm ago).length ≤ l.length + 1 := by
  unfold stepR
  split <;> simp
mutual
theorem gthE_le : ∀ (x : Ex) (l : List Rf) (ago : Int), (gthE l ago x).length ≤ l.length + nodesE x
  | .mk op n nm args, l, ago => by
    simp only [gthE, nodesE]
    have := gthL_le args (stepR l op nm ago) (agoP op ago)
    have := stepR_le l op nm ago
    omega
theorem gthL_le : ∀ (xs : List Ex) (l : List Rf) (ago : Int), (gthL l ago xs).length ≤ l.length + nodesL xs
  | [], l, ago => by simp only [gthL, nodesL]; omega
  | x :: r, l, ago => by
    simp only [gthL, nodesL]
    have := gthE_le x l ago
    have := gthL_le r (gthE l ago x) ago
    omega
end
/-- A list of references of one's own, in memory. -/
def RfV (w : World) (base : Nat) (l : List Rf) (v : Value) : Prop := w.ownsRow base 55 2 v l.length (l.flatMap rfC)
theorem RfV.form {w : World} {base : Nat} {l : List Rf} {v : Value} (h : RfV w base l v) : ∃ a cap, v = .slice a l.length cap := by
  rcases h.2 with ⟨h0, h1⟩ | ⟨g, cap, cur, h1, _⟩
  · exact ⟨none, 0, by rw [h0, h1]⟩
  · exact ⟨_, _, h1⟩
theorem flat2_at {l : List Rf} {i : Nat} {r : Rf} (h : l[i]? = some r) {j : Nat} (hj : j < 2) : (l.flatMap rfC)[i * 2 + j]? = (rfC r)[j]? := by
  induction l generalizing i with
  | nil => simp at h
  | cons y t ih =>
    cases i with
    | zero =>
      simp only [List.getElem?_cons_zero, Option.some.injEq] at h
      subst h
      rw [List.flatMap_cons, List.getElem?_append_left (by simp [rfC]; omega)]
      simp
    | succ i =>
      simp only [List.getElem?_cons_succ] at h
      rw [List.flatMap_cons, List.getElem?_append_right (by simp [rfC]; omega), show (i + 1) * 2 + j - (rfC y).length = i * 2 + j from by simp [rfC]; omega]
      exact ih h
theorem RfV.get {w : World} {base n : Nat} {l : List Rf} {a : Option Addr} {cap : Nat} (h : RfV w base l (.slice a n cap)) {i : Nat} {r : Rf} (hr : l[i]? = some r) :
    ∃ g, a = some ⟨g, 0, none⟩ ∧ w.cell? ⟨g, i * 2, none⟩ = some (.string r.1) ∧ w.cell? ⟨g, i * 2 + 1, none⟩ = some (.int .i64 r.2) := by
  have hi : i < l.length := (List.getElem?_eq_some_iff.1 hr).1
  have h0 := h
  rcases h.2 with ⟨h0, h1⟩ | ⟨g, c', cur, h1, _⟩
  · omega
  · simp only [Value.slice.injEq] at h1
    obtain ⟨rfl, rfl, rfl⟩ := h1
    have c0 := World.ownsRow.cellAt h (i * 2) (by omega)
    have c1 := World.ownsRow.cellAt h (i * 2 + 1) (by omega)
    rw [show i * 2 = i * 2 + 0 from rfl, flat2_at hr (by omega)] at c0
    rw [flat2_at hr (by omega)] at c1
    exact ⟨g, rfl, c0, c1⟩
theorem RfV.chg {w w' : World} {base : Nat} {l : List Rf} {v : Value} (h : RfV w base l v) {S : Nat → Prop} (hc : Chg S w w') (hS : ∀ g, v.ownBlock = some g → ¬ S g) : RfV w' base l v := by
  refine ⟨h.1, ?_⟩
  rcases h.2 with ⟨h0, h1⟩ | ⟨g, cap, cur, h1, h2, h3, h4⟩
  · exact .inl ⟨h0, h1⟩
  · exact .inr ⟨g, cap, cur, h1, h2, (hc.block g (lt_of_block h3) (hS g (by rw [h1]; rfl))).trans h3, h4⟩
theorem RfV.nil (w : World) (base : Nat) : RfV w base [] (.slice none 0 0) := World.ownsRow_nil _ _ _ _
theorem chg_more {w w1 w2 : World} {r : Option Nat} {S : Nat → Prop} (h : Chg (fun q => r = some q) w w1) (k : Chg S w1 w2) (hs : ∀ g, S g → r = some g ∨ w.heap.size ≤ g) : Chg (fun q => r = some q) w w2 :=
  ⟨k.os.trans h.os, k.tape.trans h.tape, k.output.trans h.output, Nat.le_trans h.size k.size, fun q hq hn => by
    have := h.size
    exact (k.block q (by omega) (fun hs' => by rcases hs q hs' with h | h; exact hn h; omega)).trans (h.block q hq hn)⟩
theorem infoRf : (Try.prog.info? 55).map (fun i => (i.zero, i.size, i.bytes)) = some (some (.agg #[.string ByteArray.empty, .int .i64 0]), 2, 24) := by kernel_rfl
def RetGth (w : World) (base : Nat) (v : Value) (l : List Rf) (e : Ending) (w' : World) : Prop := ∃ v', e = .returned v' ∧ RfV w' base l v' ∧ Chg (fun q => v.ownBlock = some q) w w' ∧ ∀ g, v'.ownBlock = some g → v.ownBlock = some g ∨ w.heap.size ≤ g
end Go.Proofs.Ytcbdeoekehkbiaa
