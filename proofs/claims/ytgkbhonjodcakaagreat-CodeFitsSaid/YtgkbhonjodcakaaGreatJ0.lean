/- What stands in this text: Base, Data, Left, Find, Things, Tok. -/
import Derived.WalkKit
import Derived.ProofKit
import Derived.WalkLawsBesides
import Derived.WalkSpells
import Derived.BigQuiet
import Derived.Deep.QuietTactic
import Derived.Deep.RegionHeld3
import Derived.Test.YtgkbhonjodcakaaGreatRows
import Derived.Lib.Hide
import Derived.RangeFuncBox
import Derived.RangeFuncBound
import Derived.RangeFuncLeaves
import Derived.RangeFuncFrom
import Derived.Shelf.Abstract
import Derived.Shelf.RegionOpen
import Derived.OwnWalkIn
import Derived.TacticsInMore
import Derived.LoopNIn
import Derived.LoopIn
import Derived.Lib.OthersKept
import Derived.Maps.AppendAt
namespace Go.Proofs.YtgkbhonjodcakaaGreat
open Go.RowKit

/-- w' is w with new blocks; of the old blocks those of S alone may have changed. -/
structure Chg (S : Nat → Prop) (w w' : World) : Prop where
  os : w'.os = w.os
  tape : w'.tape = w.tape
  output : w'.output = w.output
  size : w.heap.size ≤ w'.heap.size
  block : ∀ k, k < w.heap.size → ¬ S k → w'.heap[k]? = w.heap[k]?

namespace Chg
variable {S T : Nat → Prop} {w w1 w2 : World}
theorem refl (S : Nat → Prop) (w : World) : Chg S w w := ⟨rfl, rfl, rfl, Nat.le_refl _, fun _ _ _ => rfl⟩
theorem trans (h : Chg S w w1) (k : Chg S w1 w2) : Chg S w w2 :=
  ⟨k.os.trans h.os, k.tape.trans h.tape, k.output.trans h.output, Nat.le_trans h.size k.size, fun i hi hs => (k.block i (Nat.lt_of_lt_of_le hi h.size) hs).trans (h.block i hi hs)⟩
theorem mono (h : Chg S w w1) (hs : ∀ k, k < w.heap.size → S k → T k) : Chg T w w1 := ⟨h.os, h.tape, h.output, h.size, fun k hk ht => h.block k hk (fun h' => ht (hs k hk h'))⟩
theorem alloc (h : Chg S w w1) (o : Obj) : Chg S w (w1.alloc o) :=
  h.trans ⟨rfl, rfl, rfl, by simp, fun k hk _ => Below.heap_alloc _ _ _ hk⟩
theorem setCell (h : Chg S w w1) (a : Addr) (u : Value) (hs : S a.block ∨ w.heap.size ≤ a.block) : Chg S w (w1.setCell a u) := by
  refine ⟨h.os, h.tape, h.output, by have := h.size; simp [World.setCell]; omega, fun k hk hn => ?_⟩
  rw [Below.heap_setCell]
  · exact h.block k hk hn
  · rintro rfl
    rcases hs with hs | hs
    · exact hn hs
    · omega
theorem drew (h : Chg S w w1) : Chg S w w1.drew := ⟨h.os, h.tape, h.output, h.size, h.block⟩
theorem drewN (h : Chg S w w1) (n : Nat) : Chg S w (w1.drewN n) := ⟨h.os, h.tape, h.output, h.size, h.block⟩
theorem of_below {B : Nat} (h : Below B w w1) : Chg (fun k => B ≤ k) w w1 := ⟨h.os, h.tape, h.output, h.size, fun k _ hn => h.block k (by omega)⟩
theorem below {B : Nat} (h : Chg S w w1) (hB : B ≤ w.heap.size) (hs : ∀ k, S k → B ≤ k) : Below B w w1 :=
  ⟨h.os, h.tape, h.output, h.size, fun k hk => h.block k (by omega) (fun h' => by have := hs k h'; omega)⟩
theorem heap (h : Chg S w w1) {b : Nat} {o : Obj} (ho : w.heap[b]? = some o) (hn : ¬ S b) : w1.heap[b]? = some o :=
  (h.block b (lt_of_block ho) hn).trans ho
theorem cell (h : Chg S w w1) {a : Addr} {v : Value} (hc : w.cell? a = some v) (hn : ¬ S a.block) : w1.cell? a = some v :=
  (World.cell?_of_block (w := w) (h.block a.block (World.block_lt_of_cell? w a hc) hn)).trans hc
end Chg

/-- A block of known cells: what stands in it, and that it may be written. -/
theorem blk_cell {w : World} {b : Nat} {cs : Array Value} {t : TypeId} (h : w.heap[b]? = some (.cells cs t (0, 0))) (j : Nat) : w.cell? ⟨b, j, none⟩ = cs[j]? := by simp [World.cell?, h]
theorem blk_free {w : World} {b : Nat} {cs : Array Value} {t : TypeId} (h : w.heap[b]? = some (.cells cs t (0, 0))) (j : Nat) : w.frozen? ⟨b, j, none⟩ = false := by simp [World.frozen?, h]
theorem blk_set {w : World} {b : Nat} {cs : Array Value} {t : TypeId} (h : w.heap[b]? = some (.cells cs t (0, 0))) (j : Nat) (u : Value) :
    (w.setCell ⟨b, j, none⟩ u).heap[b]? = some (.cells (cs.setIfInBounds j u) t (0, 0)) := by
  simp [World.setCell, Array.getElem?_modify, h]

/-- New blocks alone. -/
abbrev Ext (w w' : World) : Prop := Chg (fun _ => False) w w'
theorem Ext.cell {w w1 : World} (h : Ext w w1) {a : Addr} {v : Value} (hc : w.cell? a = some v) : w1.cell? a = some v := Chg.cell h hc (fun h => h)
theorem Ext.heap {w w1 : World} (h : Ext w w1) {b : Nat} {o : Obj} (ho : w.heap[b]? = some o) : w1.heap[b]? = some o := Chg.heap h ho (fun h => h)
theorem Ext.below {w w1 : World} (h : Ext w w1) : Below w.heap.size w w1 := Chg.below h (Nat.le_refl _) (fun _ h => h.elim)
theorem Ext.of_below {w w1 : World} (h : Below w.heap.size w w1) : Ext w w1 := ⟨h.os, h.tape, h.output, h.size, fun k hk _ => h.block k hk⟩
/-- Behind an extension, writes to what is new. -/
theorem Ext.then {w w1 w2 : World} {S : Nat → Prop} (h : Ext w w1) (k : Chg S w1 w2) (hs : ∀ b, S b → w.heap.size ≤ b) : Ext w w2 :=
  ⟨k.os.trans h.os, k.tape.trans h.tape, k.output.trans h.output, Nat.le_trans h.size k.size, fun b hb _ => by
    have := h.size
    exact (k.block b (by omega) (fun h' => by have := hs b h'; omega)).trans (h.block b hb (fun h => h))⟩
theorem Chg.of_grownBy {w w1 : World} {v : Value} (hg : w.grownBy w1 v.ownBlock) : Chg (fun q => v.ownBlock = some q) w w1 :=
  ⟨hg.os, hg.tape, hg.output, hg.size, fun k hk hn => hg.block k hk (fun e => hn e.symm)⟩
theorem cell_many_new (w : World) (cs : List Value) (t : TypeId) : ∀ j u, cs[j]? = some u → (w.alloc (.cells cs.toArray t)).cell? ((⟨w.heap.size, 0, none⟩ : Addr).add j) = some u := by
  intro j u hj
  have e : (⟨w.heap.size, 0, none⟩ : Addr).add j = ⟨w.heap.size, j, none⟩ := by
    unfold Addr.add; split
    · rename_i h; subst h; rfl
    · simp
  rw [e, World.cell?_alloc_new]
  simpa using hj
theorem chg_sets4 (w : World) (b : Nat) (c0 c1 c2 c3 : Value) : Chg (fun q => q = b) w ((((w.setCell ⟨b, 0, none⟩ c0).setCell ⟨b, 1, none⟩ c1).setCell ⟨b, 2, none⟩ c2).setCell ⟨b, 3, none⟩ c3) := by
  iterate 4 (refine Chg.setCell ?_ _ _ (.inl (Eq.refl b)))
  exact Chg.refl _ _
end Go.Proofs.YtgkbhonjodcakaaGreat
namespace Go.Proofs.YtgkbhonjodcakaaGreat
open Go.RowKit
set_option linter.unusedVariables false

/-- What is worked out. -/
inductive Ex where
  | mk (op n : Int) (name : ByteArray) (args : List Ex)
def Ex.op : Ex → Int | .mk o _ _ _ => o
def Ex.n : Ex → Int | .mk _ n _ _ => n
def Ex.name : Ex → ByteArray | .mk _ _ s _ => s
def Ex.args : Ex → List Ex | .mk _ _ _ l => l
theorem Ex.ind {P : Ex → Prop} (h : ∀ op n nm args, (∀ x, x ∈ args → P x) → P (.mk op n nm args)) : ∀ x, P x
  | .mk op n nm args => h op n nm args fun x hx => Ex.ind h x
termination_by x => SizeOf.sizeOf x
decreasing_by
  have := List.sizeOf_lt_of_mem hx
  simp
  omega
structure InD where
  name : ByteArray
  ty : Int
  st : Int
structure FlD where
  name : ByteArray
  ty : Int
  st : Int
  df : Int
  body : Ex
structure PrD where
  st : Int
  ins : List InD
  flows : List FlD
  outs : List ByteArray

def isU8 (x : Int) : Prop := 0 ≤ x ∧ x ≤ 255
def isI64 (x : Int) : Prop := -9223372036854775808 ≤ x ∧ x ≤ 9223372036854775807
/-- As long as a slice of elements of so many bytes may be. -/
def fitsR (n bytes : Nat) : Prop := n * bytes ≤ 140737488351232
def spareS : ByteArray := ⟨#[115, 112, 97, 114, 101]⟩

mutual
/-- The cells tell what is worked out; t: with a mark in the room behind each list. -/
def RdEx (w : World) (lo : Nat) (t : Bool) : Ex → List Value → Prop
  | .mk op n nm args, cs => ∃ a cap, cs = [.int .u8 op, .int .i64 n, .string nm, .slice a args.length cap] ∧ isU8 op ∧ isI64 n ∧ nm.size ≤ maxLen ∧ fitsR args.length 56 ∧ args.length ≤ cap ∧ cap ≤ maxLen ∧
      RdExs w lo t a 0 args ∧ (t = true → args.length < cap ∧ ∃ b o, a = some ⟨b, o, none⟩ ∧ lo ≤ b ∧ b < w.heap.size ∧ ∃ (c0 c1 : Int) (c3 : Nat), w.cell? ⟨b, o + args.length * 4, none⟩ = some (.int .u8 c0) ∧ w.cell? ⟨b, o + args.length * 4 + 1, none⟩ = some (.int .i64 c1) ∧
        w.cell? ⟨b, o + args.length * 4 + 2, none⟩ = some (.string spareS) ∧ w.cell? ⟨b, o + args.length * 4 + 3, none⟩ = some (.slice none 0 c3))
def RdExs (w : World) (lo : Nat) (t : Bool) (a : Option Addr) : Nat → List Ex → Prop
  | _, [] => True
  | i, x :: r => (∃ b o c0 c1 c2 c3, a = some ⟨b, o, none⟩ ∧ lo ≤ b ∧ b < w.heap.size ∧ w.cell? ⟨b, o + i * 4, none⟩ = some c0 ∧ w.cell? ⟨b, o + i * 4 + 1, none⟩ = some c1 ∧ w.cell? ⟨b, o + i * 4 + 2, none⟩ = some c2 ∧
      w.cell? ⟨b, o + i * 4 + 3, none⟩ = some c3 ∧ RdEx w lo t x [c0, c1, c2, c3]) ∧ RdExs w lo t a (i + 1) r
end

theorem RdExs.get {w : World} {lo : Nat} {t : Bool} {a : Option Addr} : ∀ {l : List Ex} {k : Nat}, RdExs w lo t a k l → ∀ {i : Nat} {x : Ex}, l[i]? = some x →
    ∃ b o c0 c1 c2 c3, a = some ⟨b, o, none⟩ ∧ lo ≤ b ∧ b < w.heap.size ∧ w.cell? ⟨b, o + (k + i) * 4, none⟩ = some c0 ∧ w.cell? ⟨b, o + (k + i) * 4 + 1, none⟩ = some c1 ∧ w.cell? ⟨b, o + (k + i) * 4 + 2, none⟩ = some c2 ∧
      w.cell? ⟨b, o + (k + i) * 4 + 3, none⟩ = some c3 ∧ RdEx w lo t x [c0, c1, c2, c3]
  | [], _, _, i, x, hx => by simp at hx
  | y :: r, k, h, 0, x, hx => by
    simp only [List.getElem?_cons_zero, Option.some.injEq] at hx
    subst hx
    unfold RdExs at h
    exact h.1
  | y :: r, k, h, i + 1, x, hx => by
    simp only [List.getElem?_cons_succ] at hx
    unfold RdExs at h
    have := RdExs.get h.2 hx
    rw [show k + 1 + i = k + (i + 1) from by omega] at this
    exact this
theorem RdExs.mk {w : World} {lo : Nat} {t : Bool} {a : Option Addr} : ∀ {l : List Ex} {k : Nat}, (∀ {i : Nat} {x : Ex}, l[i]? = some x →
    ∃ b o c0 c1 c2 c3, a = some ⟨b, o, none⟩ ∧ lo ≤ b ∧ b < w.heap.size ∧ w.cell? ⟨b, o + (k + i) * 4, none⟩ = some c0 ∧ w.cell? ⟨b, o + (k + i) * 4 + 1, none⟩ = some c1 ∧ w.cell? ⟨b, o + (k + i) * 4 + 2, none⟩ = some c2 ∧
      w.cell? ⟨b, o + (k + i) * 4 + 3, none⟩ = some c3 ∧ RdEx w lo t x [c0, c1, c2, c3]) → RdExs w lo t a k l
  | [], _, _ => by unfold RdExs; trivial
  | y :: r, k, h => by
    unfold RdExs
    refine ⟨h (i := 0) rfl, RdExs.mk fun {i x} hx => ?_⟩
    have := h (i := i + 1) (x := x) (by simpa using hx)
    rw [show k + (i + 1) = k + 1 + i from by omega] at this
    exact this

mutual
theorem RdEx.far {w w1 : World} {lo : Nat} {t : Bool} {S : Nat → Prop} (he : Chg S w w1) (hS : ∀ k, S k → k < lo) : ∀ {x : Ex} {cs : List Value}, RdEx w lo t x cs → RdEx w1 lo t x cs
  | .mk op n nm args, cs, h => by
    unfold RdEx at h ⊢
    obtain ⟨a, cap, rfl, h1, h2, h3, h4, h5, h6, h7, h8⟩ := h
    refine ⟨a, cap, rfl, h1, h2, h3, h4, h5, h6, RdExs.far he hS h7, fun ht => ?_⟩
    obtain ⟨hc, b, o, ha, hlo, hb, c0, c1, c3, k0, k1, k2, k3⟩ := h8 ht
    exact ⟨hc, b, o, ha, hlo, by have := he.size; omega, c0, c1, c3, he.cell k0 (fun h => Nat.not_lt.2 hlo (hS _ h)), he.cell k1 (fun h => Nat.not_lt.2 hlo (hS _ h)), he.cell k2 (fun h => Nat.not_lt.2 hlo (hS _ h)), he.cell k3 (fun h => Nat.not_lt.2 hlo (hS _ h))⟩
theorem RdExs.far {w w1 : World} {lo : Nat} {t : Bool} {S : Nat → Prop} {a : Option Addr} (he : Chg S w w1) (hS : ∀ k, S k → k < lo) : ∀ {l : List Ex} {k : Nat}, RdExs w lo t a k l → RdExs w1 lo t a k l
  | [], _, _ => by unfold RdExs; trivial
  | x :: r, k, h => by
    unfold RdExs at h ⊢
    obtain ⟨⟨b, o, c0, c1, c2, c3, ha, hlo, hb, k0, k1, k2, k3, hx⟩, hr⟩ := h
    exact ⟨⟨b, o, c0, c1, c2, c3, ha, hlo, by have := he.size; omega, he.cell k0 (fun h => Nat.not_lt.2 hlo (hS _ h)), he.cell k1 (fun h => Nat.not_lt.2 hlo (hS _ h)), he.cell k2 (fun h => Nat.not_lt.2 hlo (hS _ h)), he.cell k3 (fun h => Nat.not_lt.2 hlo (hS _ h)), RdEx.far he hS hx⟩, RdExs.far he hS hr⟩
end
/-- A list of what is worked out, as a slice's value. -/
def RdExV (w : World) (lo : Nat) (t : Bool) (l : List Ex) (v : Value) : Prop := ∃ a cap, v = .slice a l.length cap ∧ fitsR l.length 56 ∧ l.length ≤ cap ∧ cap ≤ maxLen ∧ RdExs w lo t a 0 l ∧
  (t = true → l.length < cap ∧ ∃ b o, a = some ⟨b, o, none⟩ ∧ lo ≤ b ∧ b < w.heap.size ∧ ∃ (c0 c1 : Int) (c3 : Nat), w.cell? ⟨b, o + l.length * 4, none⟩ = some (.int .u8 c0) ∧ w.cell? ⟨b, o + l.length * 4 + 1, none⟩ = some (.int .i64 c1) ∧
    w.cell? ⟨b, o + l.length * 4 + 2, none⟩ = some (.string spareS) ∧ w.cell? ⟨b, o + l.length * 4 + 3, none⟩ = some (.slice none 0 c3))
theorem RdEx.open {w : World} {lo : Nat} {t : Bool} {op n : Int} {nm : ByteArray} {args : List Ex} {cs : List Value} (h : RdEx w lo t (.mk op n nm args) cs) :
    ∃ v, cs = [.int .u8 op, .int .i64 n, .string nm, v] ∧ isU8 op ∧ isI64 n ∧ nm.size ≤ maxLen ∧ RdExV w lo t args v := by
  unfold RdEx at h
  obtain ⟨a, cap, rfl, h1, h2, h3, h4, h5, h6, h7, h8⟩ := h
  exact ⟨_, rfl, h1, h2, h3, a, cap, rfl, h4, h5, h6, h7, h8⟩
theorem RdEx.shut {w : World} {lo : Nat} {t : Bool} {op n : Int} {nm : ByteArray} {args : List Ex} {v : Value} (h1 : isU8 op) (h2 : isI64 n) (h3 : nm.size ≤ maxLen) (h : RdExV w lo t args v) :
    RdEx w lo t (.mk op n nm args) [.int .u8 op, .int .i64 n, .string nm, v] := by
  obtain ⟨a, cap, rfl, h4, h5, h6, h7, h8⟩ := h
  unfold RdEx
  exact ⟨a, cap, rfl, h1, h2, h3, h4, h5, h6, h7, h8⟩
theorem RdExV.far {w w1 : World} {lo : Nat} {t : Bool} {S : Nat → Prop} {l : List Ex} {v : Value} (h : RdExV w lo t l v) (he : Chg S w w1) (hS : ∀ k, S k → k < lo) : RdExV w1 lo t l v := by
  obtain ⟨a, cap, rfl, h4, h5, h6, h7, h8⟩ := h
  refine ⟨a, cap, rfl, h4, h5, h6, h7.far he hS, fun ht => ?_⟩
  obtain ⟨hc, b, o, ha, hlo, hb, c0, c1, c3, k0, k1, k2, k3⟩ := h8 ht
  exact ⟨hc, b, o, ha, hlo, by have := he.size; omega, c0, c1, c3, he.cell k0 (fun h => Nat.not_lt.2 hlo (hS _ h)), he.cell k1 (fun h => Nat.not_lt.2 hlo (hS _ h)), he.cell k2 (fun h => Nat.not_lt.2 hlo (hS _ h)), he.cell k3 (fun h => Nat.not_lt.2 hlo (hS _ h))⟩
/-- Element i of such a list, cell by cell. -/
theorem RdExV.get {w : World} {lo : Nat} {t : Bool} {l : List Ex} {a : Option Addr} {n cap : Nat} (h : RdExV w lo t l (.slice a n cap)) {i : Nat} {x : Ex} (hx : l[i]? = some x) :
    ∃ b o v, a = some ⟨b, o, none⟩ ∧ lo ≤ b ∧ b < w.heap.size ∧ w.cell? ⟨b, o + i * 4, none⟩ = some (.int .u8 x.op) ∧ w.cell? ⟨b, o + i * 4 + 1, none⟩ = some (.int .i64 x.n) ∧ w.cell? ⟨b, o + i * 4 + 2, none⟩ = some (.string x.name) ∧
      w.cell? ⟨b, o + i * 4 + 3, none⟩ = some v ∧ isU8 x.op ∧ isI64 x.n ∧ x.name.size ≤ maxLen ∧ RdExV w lo t x.args v := by
  obtain ⟨a', cap', e, _, _, _, h7, _⟩ := h
  simp only [Value.slice.injEq] at e
  obtain ⟨rfl, _, _⟩ := e
  obtain ⟨b, o, c0, c1, c2, c3, ha, hlo, hb, k0, k1, k2, k3, hr⟩ := h7.get hx
  rw [Nat.zero_add] at k0 k1 k2 k3
  obtain ⟨op, n, nm, args⟩ := x
  obtain ⟨v, e, h1, h2, h3, hv⟩ := hr.open
  simp only [List.cons.injEq, and_true] at e
  obtain ⟨rfl, rfl, rfl, rfl⟩ := e
  exact ⟨b, o, _, ha, hlo, hb, k0, k1, k2, k3, h1, h2, h3, hv⟩

/-- A list of texts. -/
def RdStrV (w : World) (lo : Nat) (t : Bool) (l : List ByteArray) (v : Value) : Prop := ∃ a cap, v = .slice a l.length cap ∧ fitsR l.length 16 ∧ l.length ≤ cap ∧ cap ≤ maxLen ∧
  (∀ i x, l[i]? = some x → x.size ≤ maxLen ∧ ∃ b o, a = some ⟨b, o, none⟩ ∧ lo ≤ b ∧ b < w.heap.size ∧ w.cell? ⟨b, o + i, none⟩ = some (.string x)) ∧
  (t = true → l.length < cap ∧ ∃ b o, a = some ⟨b, o, none⟩ ∧ lo ≤ b ∧ b < w.heap.size ∧ w.cell? ⟨b, o + l.length, none⟩ = some (.string spareS))
/-- A list of what comes from without. -/
def RdInV (w : World) (lo : Nat) (t : Bool) (l : List InD) (v : Value) : Prop := ∃ a cap, v = .slice a l.length cap ∧ fitsR l.length 32 ∧ l.length ≤ cap ∧ cap ≤ maxLen ∧
  (∀ i x, l[i]? = some x → x.name.size ≤ maxLen ∧ isU8 x.ty ∧ isI64 x.st ∧ ∃ b o, a = some ⟨b, o, none⟩ ∧ lo ≤ b ∧ b < w.heap.size ∧ w.cell? ⟨b, o + i * 3, none⟩ = some (.string x.name) ∧
    w.cell? ⟨b, o + i * 3 + 1, none⟩ = some (.int .u8 x.ty) ∧ w.cell? ⟨b, o + i * 3 + 2, none⟩ = some (.int .i64 x.st)) ∧
  (t = true → l.length < cap ∧ ∃ b o, a = some ⟨b, o, none⟩ ∧ lo ≤ b ∧ b < w.heap.size ∧ ∃ (c1 c2 : Int), w.cell? ⟨b, o + l.length * 3, none⟩ = some (.string spareS) ∧
    w.cell? ⟨b, o + l.length * 3 + 1, none⟩ = some (.int .u8 c1) ∧ w.cell? ⟨b, o + l.length * 3 + 2, none⟩ = some (.int .i64 c2))
/-- The mark's cells behind a list of flows. -/
def flMark : List Value := [.string spareS, .int .u8 0, .int .i64 0, .int .i64 0, .int .u8 0, .int .i64 0, .string ⟨#[]⟩, .slice none 0 0]
/-- A list of flows. -/
def RdFlV (w : World) (lo : Nat) (t : Bool) (l : List FlD) (v : Value) : Prop := ∃ a cap, v = .slice a l.length cap ∧ fitsR l.length 96 ∧ l.length ≤ cap ∧ cap ≤ maxLen ∧
  (∀ i x, l[i]? = some x → x.name.size ≤ maxLen ∧ isU8 x.ty ∧ isI64 x.st ∧ isI64 x.df ∧ ∃ b o, a = some ⟨b, o, none⟩ ∧ lo ≤ b ∧ b < w.heap.size ∧ w.cell? ⟨b, o + i * 8, none⟩ = some (.string x.name) ∧
    w.cell? ⟨b, o + i * 8 + 1, none⟩ = some (.int .u8 x.ty) ∧ w.cell? ⟨b, o + i * 8 + 2, none⟩ = some (.int .i64 x.st) ∧ w.cell? ⟨b, o + i * 8 + 3, none⟩ = some (.int .i64 x.df) ∧
    isU8 x.body.op ∧ isI64 x.body.n ∧ x.body.name.size ≤ maxLen ∧ ∃ v, RdExV w lo t x.body.args v ∧ w.cell? ⟨b, o + i * 8 + 4, none⟩ = some (.int .u8 x.body.op) ∧ w.cell? ⟨b, o + i * 8 + 4 + 1, none⟩ = some (.int .i64 x.body.n) ∧
    w.cell? ⟨b, o + i * 8 + 4 + 2, none⟩ = some (.string x.body.name) ∧ w.cell? ⟨b, o + i * 8 + 4 + 3, none⟩ = some v) ∧
  (t = true → l.length < cap ∧ ∃ b o, a = some ⟨b, o, none⟩ ∧ lo ≤ b ∧ b < w.heap.size ∧ w.cell? ⟨b, o + l.length * 8, none⟩ = some (.string spareS) ∧ ∀ j, 1 ≤ j → j < 8 → ∃ c : {c : Value // flMark[j]? = some c}, w.cell? ⟨b, o + l.length * 8 + j, none⟩ = some c.1)
theorem RdStrV.far {w w1 : World} {lo : Nat} {t : Bool} {S : Nat → Prop} {l : List ByteArray} {v : Value} (h : RdStrV w lo t l v) (he : Chg S w w1) (hS : ∀ k, S k → k < lo) : RdStrV w1 lo t l v := by
  obtain ⟨a, cap, rfl, h4, h5, h6, h7, h8⟩ := h
  have hs := he.size
  refine ⟨a, cap, rfl, h4, h5, h6, fun i x hx => ?_, fun ht => ?_⟩
  · obtain ⟨h1, b, o, ha, hlo, hb, k0⟩ := h7 i x hx
    exact ⟨h1, b, o, ha, hlo, by omega, he.cell k0 (fun h => Nat.not_lt.2 hlo (hS _ h))⟩
  · obtain ⟨hc, b, o, ha, hlo, hb, k0⟩ := h8 ht
    exact ⟨hc, b, o, ha, hlo, by omega, he.cell k0 (fun h => Nat.not_lt.2 hlo (hS _ h))⟩
theorem RdInV.far {w w1 : World} {lo : Nat} {t : Bool} {S : Nat → Prop} {l : List InD} {v : Value} (h : RdInV w lo t l v) (he : Chg S w w1) (hS : ∀ k, S k → k < lo) : RdInV w1 lo t l v := by
  obtain ⟨a, cap, rfl, h4, h5, h6, h7, h8⟩ := h
  have hs := he.size
  refine ⟨a, cap, rfl, h4, h5, h6, fun i x hx => ?_, fun ht => ?_⟩
  · obtain ⟨h1, h2, h3, b, o, ha, hlo, hb, k0, k1, k2⟩ := h7 i x hx
    exact ⟨h1, h2, h3, b, o, ha, hlo, by omega, he.cell k0 (fun h => Nat.not_lt.2 hlo (hS _ h)), he.cell k1 (fun h => Nat.not_lt.2 hlo (hS _ h)), he.cell k2 (fun h => Nat.not_lt.2 hlo (hS _ h))⟩
  · obtain ⟨hc, b, o, ha, hlo, hb, c1, c2, k0, k1, k2⟩ := h8 ht
    exact ⟨hc, b, o, ha, hlo, by omega, c1, c2, he.cell k0 (fun h => Nat.not_lt.2 hlo (hS _ h)), he.cell k1 (fun h => Nat.not_lt.2 hlo (hS _ h)), he.cell k2 (fun h => Nat.not_lt.2 hlo (hS _ h))⟩
theorem RdFlV.far {w w1 : World} {lo : Nat} {t : Bool} {S : Nat → Prop} {l : List FlD} {v : Value} (h : RdFlV w lo t l v) (he : Chg S w w1) (hS : ∀ k, S k → k < lo) : RdFlV w1 lo t l v := by
  obtain ⟨a, cap, rfl, h4, h5, h6, h7, h8⟩ := h
  have hs := he.size
  refine ⟨a, cap, rfl, h4, h5, h6, fun i x hx => ?_, fun ht => ?_⟩
  · obtain ⟨h1, h2, h3, h4, b, o, ha, hlo, hb, k0, k1, k2, k3, e1, e2, e3, v, hv, k4, k5, k6, k7⟩ := h7 i x hx
    exact ⟨h1, h2, h3, h4, b, o, ha, hlo, by omega, he.cell k0 (fun h => Nat.not_lt.2 hlo (hS _ h)), he.cell k1 (fun h => Nat.not_lt.2 hlo (hS _ h)), he.cell k2 (fun h => Nat.not_lt.2 hlo (hS _ h)), he.cell k3 (fun h => Nat.not_lt.2 hlo (hS _ h)), e1, e2, e3, v, hv.far he hS, he.cell k4 (fun h => Nat.not_lt.2 hlo (hS _ h)), he.cell k5 (fun h => Nat.not_lt.2 hlo (hS _ h)), he.cell k6 (fun h => Nat.not_lt.2 hlo (hS _ h)), he.cell k7 (fun h => Nat.not_lt.2 hlo (hS _ h))⟩
  · obtain ⟨hc, b, o, ha, hlo, hb, k0, kj⟩ := h8 ht
    exact ⟨hc, b, o, ha, hlo, by omega, he.cell k0 (fun h => Nat.not_lt.2 hlo (hS _ h)), fun j h1 h2 => by obtain ⟨c, hc⟩ := kj j h1 h2; exact ⟨c, he.cell hc (fun h => Nat.not_lt.2 hlo (hS _ h))⟩⟩
mutual
theorem RdEx.lower {w : World} {lo lo' : Nat} {t : Bool} (hl : lo' ≤ lo) : ∀ {x : Ex} {cs : List Value}, RdEx w lo t x cs → RdEx w lo' t x cs
  | .mk op n nm args, cs, h => by
    unfold RdEx at h ⊢
    obtain ⟨a, cap, rfl, h1, h2, h3, h4, h5, h6, h7, h8⟩ := h
    refine ⟨a, cap, rfl, h1, h2, h3, h4, h5, h6, RdExs.lower hl h7, fun ht => ?_⟩
    obtain ⟨hc, b, o, ha, hlo, hr⟩ := h8 ht
    exact ⟨hc, b, o, ha, by omega, hr⟩
theorem RdExs.lower {w : World} {lo lo' : Nat} {t : Bool} {a : Option Addr} (hl : lo' ≤ lo) : ∀ {l : List Ex} {k : Nat}, RdExs w lo t a k l → RdExs w lo' t a k l
  | [], _, _ => by unfold RdExs; trivial
  | x :: r, k, h => by
    unfold RdExs at h ⊢
    obtain ⟨⟨b, o, c0, c1, c2, c3, ha, hlo, hb, k0, k1, k2, k3, hx⟩, hr⟩ := h
    exact ⟨⟨b, o, c0, c1, c2, c3, ha, by omega, hb, k0, k1, k2, k3, RdEx.lower hl hx⟩, RdExs.lower hl hr⟩
end
theorem RdExV.lower {w : World} {lo lo' : Nat} {t : Bool} {l : List Ex} {v : Value} (h : RdExV w lo t l v) (hl : lo' ≤ lo) : RdExV w lo' t l v := by
  obtain ⟨a, cap, rfl, h4, h5, h6, h7, h8⟩ := h
  refine ⟨a, cap, rfl, h4, h5, h6, h7.lower hl, fun ht => ?_⟩
  obtain ⟨hc, b, o, ha, hlo, hr⟩ := h8 ht
  exact ⟨hc, b, o, ha, by omega, hr⟩
theorem RdStrV.lower {w : World} {lo lo' : Nat} {t : Bool} {l : List ByteArray} {v : Value} (h : RdStrV w lo t l v) (hl : lo' ≤ lo) : RdStrV w lo' t l v := by
  obtain ⟨a, cap, rfl, h4, h5, h6, h7, h8⟩ := h
  refine ⟨a, cap, rfl, h4, h5, h6, fun i x hx => ?_, fun ht => ?_⟩
  · obtain ⟨h1, b, o, ha, hlo, hr⟩ := h7 i x hx
    exact ⟨h1, b, o, ha, by omega, hr⟩
  · obtain ⟨hc, b, o, ha, hlo, hr⟩ := h8 ht
    exact ⟨hc, b, o, ha, by omega, hr⟩
theorem RdInV.lower {w : World} {lo lo' : Nat} {t : Bool} {l : List InD} {v : Value} (h : RdInV w lo t l v) (hl : lo' ≤ lo) : RdInV w lo' t l v := by
  obtain ⟨a, cap, rfl, h4, h5, h6, h7, h8⟩ := h
  refine ⟨a, cap, rfl, h4, h5, h6, fun i x hx => ?_, fun ht => ?_⟩
  · obtain ⟨h1, h2, h3, b, o, ha, hlo, hr⟩ := h7 i x hx
    exact ⟨h1, h2, h3, b, o, ha, by omega, hr⟩
  · obtain ⟨hc, b, o, ha, hlo, hr⟩ := h8 ht
    exact ⟨hc, b, o, ha, by omega, hr⟩
theorem RdFlV.lower {w : World} {lo lo' : Nat} {t : Bool} {l : List FlD} {v : Value} (h : RdFlV w lo t l v) (hl : lo' ≤ lo) : RdFlV w lo' t l v := by
  obtain ⟨a, cap, rfl, h4, h5, h6, h7, h8⟩ := h
  refine ⟨a, cap, rfl, h4, h5, h6, fun i x hx => ?_, fun ht => ?_⟩
  · obtain ⟨h1, h2, h3, h4, b, o, ha, hlo, hb, k0, k1, k2, k3, e1, e2, e3, v, hv, hr⟩ := h7 i x hx
    exact ⟨h1, h2, h3, h4, b, o, ha, by omega, hb, k0, k1, k2, k3, e1, e2, e3, v, hv.lower hl, hr⟩
  · obtain ⟨hc, b, o, ha, hlo, hr⟩ := h8 ht
    exact ⟨hc, b, o, ha, by omega, hr⟩
theorem RdExV.form {w : World} {lo : Nat} {t : Bool} {l : List Ex} {v : Value} (h : RdExV w lo t l v) : ∃ a cap, v = .slice a l.length cap ∧ fitsR l.length 56 ∧ l.length ≤ cap ∧ cap ≤ maxLen := by
  obtain ⟨a, cap, rfl, h1, h2, h3, _⟩ := h
  exact ⟨a, cap, rfl, h1, h2, h3⟩
theorem RdStrV.form {w : World} {lo : Nat} {t : Bool} {l : List ByteArray} {v : Value} (h : RdStrV w lo t l v) : ∃ a cap, v = .slice a l.length cap ∧ fitsR l.length 16 ∧ l.length ≤ cap ∧ cap ≤ maxLen := by
  obtain ⟨a, cap, rfl, h1, h2, h3, _⟩ := h
  exact ⟨a, cap, rfl, h1, h2, h3⟩
theorem RdInV.form {w : World} {lo : Nat} {t : Bool} {l : List InD} {v : Value} (h : RdInV w lo t l v) : ∃ a cap, v = .slice a l.length cap ∧ fitsR l.length 32 ∧ l.length ≤ cap ∧ cap ≤ maxLen := by
  obtain ⟨a, cap, rfl, h1, h2, h3, _⟩ := h
  exact ⟨a, cap, rfl, h1, h2, h3⟩
theorem RdFlV.form {w : World} {lo : Nat} {t : Bool} {l : List FlD} {v : Value} (h : RdFlV w lo t l v) : ∃ a cap, v = .slice a l.length cap ∧ fitsR l.length 96 ∧ l.length ≤ cap ∧ cap ≤ maxLen := by
  obtain ⟨a, cap, rfl, h1, h2, h3, _⟩ := h
  exact ⟨a, cap, rfl, h1, h2, h3⟩
/-- A program's value: its four cells. -/
def RdPr (w : World) (lo : Nat) (t : Bool) (p : PrD) (cs : Array Value) : Prop := ∃ vi vf vo, cs = #[.int .i64 p.st, vi, vf, vo] ∧ isI64 p.st ∧ RdInV w lo t p.ins vi ∧ RdFlV w lo t p.flows vf ∧ RdStrV w lo t p.outs vo
theorem RdExV.ext {w w1 : World} {lo : Nat} {t : Bool} {l : List Ex} {v : Value} (h : RdExV w lo t l v) (he : Ext w w1) : RdExV w1 lo t l v := h.far he (fun _ h => h.elim)
theorem RdStrV.ext {w w1 : World} {lo : Nat} {t : Bool} {l : List ByteArray} {v : Value} (h : RdStrV w lo t l v) (he : Ext w w1) : RdStrV w1 lo t l v := h.far he (fun _ h => h.elim)
theorem RdInV.ext {w w1 : World} {lo : Nat} {t : Bool} {l : List InD} {v : Value} (h : RdInV w lo t l v) (he : Ext w w1) : RdInV w1 lo t l v := h.far he (fun _ h => h.elim)
theorem RdFlV.ext {w w1 : World} {lo : Nat} {t : Bool} {l : List FlD} {v : Value} (h : RdFlV w lo t l v) (he : Ext w w1) : RdFlV w1 lo t l v := h.far he (fun _ h => h.elim)
theorem RdPr.ext {w w1 : World} {lo : Nat} {t : Bool} {p : PrD} {cs : Array Value} (h : RdPr w lo t p cs) (he : Ext w w1) : RdPr w1 lo t p cs := by
  obtain ⟨vi, vf, vo, rfl, h1, h2, h3, h4⟩ := h
  exact ⟨vi, vf, vo, rfl, h1, h2.ext he, h3.ext he, h4.ext he⟩
end Go.Proofs.YtgkbhonjodcakaaGreat
namespace Go.Proofs.YtgkbhonjodcakaaGreat
open Go.RowKit
set_option linter.unusedVariables false
def RetT (w : World) (e : Ending) (w' : World) : Prop := e = .returned (.bool true) ∧ Ext w w'
end Go.Proofs.YtgkbhonjodcakaaGreat
namespace Go.Proofs.YtgkbhonjodcakaaGreat
open Go.RowKit
set_option linter.unusedVariables false

/-- The first flow of the name, counted from i. -/
def findFl (s : ByteArray) : Nat → List FlD → Int × Int × Int × Bool
  | _, [] => (0, 0, 0, false)
  | i, x :: r => if x.name = s then (x.st, x.ty, (i : Int), true) else findFl s (i + 1) r
/-- The first that comes from without, else the first flow. -/
def findP (s : ByteArray) (fl : List FlD) : List InD → Int × Int × Int × Bool
  | [] => findFl s 0 fl
  | x :: r => if x.name = s then (x.st, x.ty, -1, true) else findP s fl r
def fourV (q : Int × Int × Int × Bool) : Value := .tuple #[.int .i64 q.1, .int .u8 q.2.1, .int .i64 q.2.2.1, .bool q.2.2.2]
theorem str_eq {a b : ByteArray} : (a.toList == b.toList) = true ↔ a = b := by
  rw [beq_iff_eq, ByteArray.toList_eq, ByteArray.toList_eq, Array.toList_inj]
  exact ⟨fun h => by cases a; cases b; cases h; rfl, fun h => by rw [h]⟩
theorem str_ne {a b : ByteArray} (h : (a.toList == b.toList) = false) : ¬ a = b := fun e => by rw [str_eq.2 e] at h; cases h
def RetFind (w : World) (p : PrD) (s : ByteArray) (e : Ending) (w' : World) : Prop := e = .returned (fourV (findP s p.flows p.ins)) ∧ Ext w w'
end Go.Proofs.YtgkbhonjodcakaaGreat
namespace Go.Proofs.YtgkbhonjodcakaaGreat
open Go.RowKit Go.Shelf
attribute [local go_sem] Oper.semAt_some
set_option linter.unusedVariables false

abbrev Thing := ByteArray × Int × Int × Int
def thingV (x : Thing) : Array Value := #[.string x.1, .agg #[.int .i64 x.2.1, .int .u8 x.2.2.1, .int .i64 x.2.2.2]]
def inT (x : InD) : Thing := (x.name, x.st, x.ty, -1)
def flT (i : Nat) (x : FlD) : Thing := (x.name, x.st, x.ty, (i : Int))
def flTs : Nat → List FlD → List Thing
  | _, [] => []
  | i, x :: r => flT i x :: flTs (i + 1) r
def thingsL (p : PrD) : List Thing := p.ins.map inT ++ flTs 0 p.flows
theorem flTs_len : ∀ (i : Nat) (l : List FlD), (flTs i l).length = l.length
  | _, [] => rfl
  | i, x :: r => by simp [flTs, flTs_len (i + 1) r]
theorem flTs_at : ∀ (i : Nat) (l : List FlD) (k : Nat), k < l.length → (flTs i l)[k]? = (l[k]?).map (flT (i + k))
  | _, [], k, h => by simp at h
  | i, x :: r, 0, h => by simp [flTs]
  | i, x :: r, k + 1, h => by
    have := flTs_at (i + 1) r k (by simpa using h)
    simp only [flTs, List.getElem?_cons_succ]
    rw [this, show i + 1 + k = i + (k + 1) from by omega]
theorem thingsL_len (p : PrD) : (thingsL p).length = p.ins.length + p.flows.length := by simp [thingsL, flTs_len]
theorem take_in {p : PrD} {k : Nat} {x : InD} (h : p.ins[k]? = some x) : (thingsL p).take (k + 1) = (thingsL p).take k ++ [inT x] := by
  obtain ⟨hk, e⟩ := List.getElem?_eq_some_iff.1 h
  have hl : k < (thingsL p).length := by rw [thingsL_len]; omega
  rw [List.take_succ_eq_append_getElem hl]
  congr 2
  have : (thingsL p)[k]? = some (inT x) := by
    unfold thingsL
    rw [List.getElem?_append_left (by simpa using hk), List.getElem?_map, h]; rfl
  rw [List.getElem?_eq_getElem hl] at this
  exact Option.some.inj this
theorem take_fl {p : PrD} {k : Nat} {x : FlD} (h : p.flows[k]? = some x) : (thingsL p).take (p.ins.length + k + 1) = (thingsL p).take (p.ins.length + k) ++ [flT k x] := by
  obtain ⟨hk, e⟩ := List.getElem?_eq_some_iff.1 h
  have hl : p.ins.length + k < (thingsL p).length := by rw [thingsL_len]; omega
  rw [List.take_succ_eq_append_getElem hl]
  congr 2
  have : (thingsL p)[p.ins.length + k]? = some (flT k x) := by
    unfold thingsL
    rw [List.getElem?_append_right (by simp), List.length_map, Nat.add_sub_cancel_left, flTs_at 0 _ k hk, h]; simp
  rw [List.getElem?_eq_getElem hl] at this
  exact Option.some.inj this
set_option maxRecDepth 100000 in
set_option maxHeartbeats 4000000 in
theorem things_iter (F : Fence) (n : Nat) (hf : F.fn 105) (hro : F.round = none) (hn : 1 ≤ n) (Bs : Nat) (p : PrD) (w : World) (ai af ao : Option Addr) (ci cf co : Nat)
    (hi : RdInV w 0 false p.ins (.slice ai p.ins.length ci)) (hfl : RdFlV w 0 false p.flows (.slice af p.flows.length cf)) (hB : Bs < w.heap.size)
    (b1 : w.cell? ⟨Bs, 1, none⟩ = some (.slice ai p.ins.length ci)) (b2 : w.cell? ⟨Bs, 2, none⟩ = some (.slice af p.flows.length cf)) :
    SeqStopsK F n Tryz.prog 105 #[.pointer (some ⟨Bs, 0, none⟩)] thingV (Below w.heap.size) (fun ys => ys = thingsL p) (fun pre => ∃ k, k ≤ (thingsL p).length ∧ pre = (thingsL p).take k) (thingsL p).length w := fun l J Jx W hW hJ hJx hY h0 => by
  have n1 : p.ins.length ≤ 9000000000000000000 := by obtain ⟨_, _, e, h, _⟩ := hi; unfold fitsR at h; omega
  have n2 : p.flows.length ≤ 9000000000000000000 := by obtain ⟨_, _, e, h, _⟩ := hfl; unfold fitsR at h; omega
  have hE0 : Ext w W := Ext.of_below hW
  have y1 := hE0.cell b1
  have hal : ∀ (pre : List Thing) (wr : World) (o : Obj), J pre wr → J pre (wr.alloc o) := fun pre wr o h => hJ pre wr _ none h ⟨rfl, rfl, rfl, by simp, fun k hk _ => Below.heap_alloc _ _ _ hk⟩ (fun r e => by cases e)
  refine callsIn_of_wp Tryz.func105 rfl hf ?_ hro
  simp only [Tryz.ntmps105, List.size_toArray, List.length_cons, List.length_nil, Nat.reduceAdd, Nat.reduceSub, Array.replicate_succ, Array.replicate_zero, List.push_toArray, List.append_toArray, List.nil_append, List.cons_append]
  gi_wp2
  gi_loopw [10] (fun i wr => ∃ k : Nat, k ≤ p.ins.length ∧ i = .int .i64 k ∧ J ((thingsL p).take k) wr ∧ Ext w wr) (fun i _ => p.ins.length - (intOf i).toNat)
  case atStart => exact ⟨0, Nat.zero_le _, rfl, h0, hE0⟩
  case round =>
    obtain ⟨k, hk, rfl, hJs, hE⟩ := hrel
    by_cases hlt : k < p.ins.length
    · have hx := List.getElem?_eq_getElem hlt
      obtain ⟨_, _, e, _, _, _, hr, _⟩ := hi.ext hE
      simp only [Value.slice.injEq, true_and] at e
      obtain ⟨rfl, rfl⟩ := e
      obtain ⟨_, _, _, b, o, rfl, _, hb, c0, c1, c2⟩ := hr k _ hx
      have htk := take_in hx
      generalize p.ins[k] = x at *
      have hJ2 := hal _ wr (.cells #[.string x.name, .int .u8 x.ty, .int .i64 x.st] 147) hJs
      obtain ⟨fn, tmps, assign, body, hy, hR⟩ := hY _ (inT x) _ hJ2 (by rw [List.length_take, thingsL_len]; omega)
      simp only [thingV, inT] at hy
      gi_wp2
      refine hR.mono ?_
      rintro e W3 (⟨rfl, hJ3, hk3⟩ | ⟨rfl, hJx3⟩)
      · have hE3 : Ext w W3 := Ext.of_below ((Ext.below (Chg.alloc hE _)).trans hk3)
        rw [← htk] at hJ3
        have H3 := Lib.hid hJ3
        clear hJ3 hk3 hy hR hr hJ2 hJs hE
        gi_wp2
        go_roundw
        case rel => exact ⟨k + 1, by omega, by go_num, H3.out, hE3⟩
        case measure => simp [intOf]; omega
      · rw [← htk] at hJx3
        have H3 := Lib.hid hJx3
        clear hJx3 hy hR hr hJ2 hJs hE
        gi_wp2
        refine bodyPost_ret (results_none rfl _ _ _) rfl ?_
        exact ⟨⟨_, rfl⟩, .inr ⟨_, ⟨k + 1, by rw [thingsL_len]; omega, rfl⟩, H3.out⟩⟩
    · obtain rfl : k = p.ins.length := by omega
      have y2 := hE.cell b2
      gi_wp2
      gi_loopw [28] (fun i wr => ∃ k : Nat, k ≤ p.flows.length ∧ i = .int .i64 k ∧ J ((thingsL p).take (p.ins.length + k)) wr ∧ Ext w wr) (fun i _ => p.flows.length - (intOf i).toNat)
      case atStart => exact ⟨0, Nat.zero_le _, rfl, hJs, hE⟩
      case round =>
        clear hJs hE y2
        obtain ⟨k, hk, rfl, hJs, hE⟩ := hrel
        by_cases hlt : k < p.flows.length
        · have hx := List.getElem?_eq_getElem hlt
          obtain ⟨_, _, e, _, _, _, hr, _⟩ := hfl.ext hE
          simp only [Value.slice.injEq, true_and] at e
          obtain ⟨rfl, rfl⟩ := e
          obtain ⟨_, _, _, _, b, o, rfl, _, hb, c0, c1, c2, c3, _, _, _, v, hvx, c4, c5, c6, c7⟩ := hr k _ hx
          obtain ⟨va, vc, rfl, _⟩ := hvx
          have htk := take_fl hx
          generalize p.flows[k] = x at *
          have hJ2 := hal _ wr (.cells #[.string x.name, .int .u8 x.ty, .int .i64 x.st, .int .i64 x.df, .int .u8 x.body.op, .int .i64 x.body.n, .string x.body.name, .slice va x.body.args.length vc] 43) hJs
          obtain ⟨fn, tmps, assign, body, hy, hR⟩ := hY _ (flT k x) _ hJ2 (by rw [List.length_take, thingsL_len]; omega)
          simp only [thingV, flT] at hy
          clear hr
          gi_wp2
          refine hR.mono ?_
          rintro e W3 (⟨rfl, hJ3, hk3⟩ | ⟨rfl, hJx3⟩)
          · have hE3 : Ext w W3 := Ext.of_below ((Ext.below (Chg.alloc hE _)).trans hk3)
            rw [← htk] at hJ3
            have H3 := Lib.hid hJ3
            clear hJ3 hk3 hy hR hJ2 hJs hE
            gi_wp2
            go_roundw
            case rel => exact ⟨k + 1, by omega, by go_num, H3.out, hE3⟩
            case measure => simp [intOf]; omega
          · rw [← htk] at hJx3
            have H3 := Lib.hid hJx3
            clear hJx3 hy hR hJ2 hJs hE
            gi_wp2
            refine bodyPost_ret (results_none rfl _ _ _) rfl ?_
            exact ⟨⟨_, rfl⟩, .inr ⟨_, ⟨p.ins.length + k + 1, by rw [thingsL_len]; omega, rfl⟩, H3.out⟩⟩
        · obtain rfl : k = p.flows.length := by omega
          rw [← thingsL_len, List.take_length] at hJs
          have H3 := Lib.hid hJs
          clear hJs
          gi_wp2
          go_end0
          exact ⟨⟨_, rfl⟩, .inl ⟨_, rfl, H3.out⟩⟩
end Go.Proofs.YtgkbhonjodcakaaGreat
namespace Go.Proofs.YtgkbhonjodcakaaGreat
open Go.RowKit
set_option linter.unusedVariables false

theorem str_eq0 {a b : ByteArray} : (a.toList == b.toList) = true ↔ a = b := by
  rw [beq_iff_eq, ByteArray.toList_eq, ByteArray.toList_eq, Array.toList_inj]
  exact ⟨fun h => by cases a; cases b; cases h; rfl, fun h => by rw [h]⟩
theorem str_ne0 {a b : ByteArray} (h : (a.toList == b.toList) = false) : ¬ a = b := fun e => by rw [str_eq0.2 e] at h; cases h
instance decBytes : DecidableEq ByteArray := fun a b => if h : a.data = b.data then .isTrue (by cases a; cases b; cases h; rfl) else .isFalse (fun e => h (by rw [e]))
def letR (c : Int) : Bool := (decide (97 ≤ c) && decide (c ≤ 122)) || (decide (65 ≤ c) && decide (c ≤ 90))
def digR (c : Int) : Bool := decide (48 ≤ c) && decide (c ≤ 57)
/-- May a word go on so; first: it begins there. -/
def goodR (later : Bool) (c : Int) : Bool := letR c || (later && (digR c || decide (c = 95)))
def goodB (s : ByteArray) (k : Nat) : Bool := if h : k < s.size then goodR (decide (0 < k)) ((s[k]'h).toNat : Int) else false
/-- So many bytes make a word. -/
def Word (s : ByteArray) (n : Nat) : Prop := n ≤ s.size ∧ (∀ k, k < n → goodB s k = true) ∧ (n < s.size → goodB s n = false)
theorem Word.all {s : ByteArray} {n : Nat} (h : Word s n) : n = s.size ↔ ∀ k, k < s.size → goodB s k = true := by
  obtain ⟨h1, h2, h3⟩ := h
  constructor
  · rintro rfl; exact h2
  · intro ha
    by_cases hn : n = s.size
    · exact hn
    · have := h3 (by omega)
      rw [ha n (by omega)] at this
      cases this
theorem letR_high {a : Bool} {c : Int} (h : 128 ≤ c) : goodR a c = false := by
  have e1 : decide (c ≤ 122) = false := decide_eq_false (by omega)
  have e2 : decide (c ≤ 90) = false := decide_eq_false (by omega)
  have e3 : decide (c ≤ 57) = false := decide_eq_false (by omega)
  have e4 : decide (c = 95) = false := decide_eq_false (by omega)
  simp [goodR, letR, digR, e1, e2, e3, e4]
theorem ret_b {a b : Bool} {w : World} (h : a = b) : Ending.returned (Value.bool a) = Ending.returned (Value.bool b) ∧ w = w := ⟨by rw [h], rfl⟩
theorem letter_one (c : Int) (w : World) : Calls Tryz.prog 163 #[.int .i32 c] w fun e w' => e = .returned (.bool (letR c)) ∧ w' = w := by
  go_enter Tryz.func163, Tryz.ntmps163
  go_wp2_with fail
  all_goals go_ret
  all_goals refine ret_b (Bool.eq_iff_iff.2 ?_)
  all_goals simp only [letR, Bool.or_eq_true, Bool.and_eq_true, decide_eq_true_eq, true_iff, Bool.false_eq_true, false_iff]
  all_goals omega
theorem digit_one (c : Int) (w : World) : Calls Tryz.prog 164 #[.int .i32 c] w fun e w' => e = .returned (.bool (digR c)) ∧ w' = w := by
  go_enter Tryz.func164, Tryz.ntmps164
  go_wp2_with fail
  all_goals go_ret
  all_goals refine ret_b (Bool.eq_iff_iff.2 ?_)
  all_goals simp only [digR, Bool.and_eq_true, decide_eq_true_eq, Bool.false_eq_true, false_iff]
  all_goals omega
theorem wordRune_one (k : Nat) (c : Int) (w : World) : Calls Tryz.prog 162 #[.int .i64 k, .int .i32 c] w fun e w' => e = .returned (.bool (goodR (decide (0 < k)) c)) ∧ w' = w := by
  have hl := letter_one c w
  have hd := digit_one c w
  generalize hL : letR c = L at *
  generalize hD : digR c = D at *
  have hG : goodR (decide (0 < k)) c = (L || (decide (0 < k) && (D || decide (c = 95)))) := by rw [goodR, hL, hD]
  rw [hG]
  clear hG hL hD
  go_enter Tryz.func162, Tryz.ntmps162
  go_wp2_with fail
  refine hl.mono ?_
  rintro e w' ⟨rfl, rfl⟩
  cases L
  · by_cases hk : 0 < k
    · have hk' : (0 : Int) < (k : Int) := by omega
      go_wp2_with fail
      refine hd.mono ?_
      rintro e w' ⟨rfl, rfl⟩
      cases D
      · go_wp2_with fail
        go_ret
        exact ret_b (by simp [hk]; rw [Bool.eq_iff_iff]; simp)
      · go_wp2_with fail
        go_ret
        exact ret_b (by simp [hk])
    · have hk' : ¬ (0 : Int) < (k : Int) := by omega
      go_wp2_with fail
      go_ret
      exact ret_b (by simp [hk])
  · go_wp2_with fail
    go_ret
    exact ret_b (by simp)
set_option maxHeartbeats 1000000 in
theorem run_one (s : ByteArray) (hs : s.size ≤ maxLen) (w : World) : Calls Tryz.prog 161 #[.string s, .func (.func 162) #[] #[]] w fun e w' => (∃ n : Nat, e = .returned (.int .i64 n) ∧ Word s n) ∧ Ext w w' := by
  go_enter Tryz.func161, Tryz.ntmps161
  go_wp2_with fail
  go_loopw [] (fun wr => ∃ k : Nat, k ≤ s.size ∧ (∀ j, j < k → goodB s j = true) ∧ wr.heap[w.heap.size]? = some (.stringIter s k) ∧ Ext w wr) (fun wr => s.size - wr.iterPos w.heap.size)
  case atStart =>
    refine ⟨0, Nat.zero_le _, fun j hj => by omega, ?_, (Chg.refl _ _).alloc _⟩
    have := World.iter_heap w s 0
    simpa using this
  case round =>
    obtain ⟨k, hk, hall, hit, hE⟩ := hrel
    by_cases hp : k < s.size
    · have hgB : goodB s k = goodR (decide (0 < k)) ((s[k]'hp).toNat : Int) := by rw [goodB, dif_pos hp]
      by_cases ha : (s[k]'hp).toNat < 128
      · have hnx : ∀ ty, (Instr.next (.pointer (some ⟨w.heap.size, 0, none⟩)) true ty).run Tryz.prog wr = _ := fun ty => Lib.run_next_ascii_at wr w.heap.size s k ty hit hp ha
        have hit2 := Lib.iterAt_heap wr w.heap.size s k (k + 1) hit
        generalize ((s[k]'hp).toNat : Int) = c at *
        have hc := wordRune_one k c
        rw [← hgB] at hc
        have E2 : Ext w (wr.iterAt w.heap.size s (k + 1)) := Ext.of_below (Lib.below_iterAt (Ext.below hE) (Nat.le_refl _) s (k + 1))
        go_wp2_with fail
        refine (hc _).mono ?_
        rintro e w1 ⟨rfl, rfl⟩
        cases hG : goodB s k
        · go_wp2_with fail
          go_ret
          exact ⟨⟨k, rfl, hk, hall, fun _ => hG⟩, E2⟩
        · go_wp2_with fail
          go_roundw
          case rel =>
            have hall' : ∀ j, j < k + 1 → goodB s j = true := fun j hj => by
              by_cases h : j < k
              · exact hall j h
              · obtain rfl : j = k := by omega
                exact hG
            exact ⟨k + 1, by omega, hall', hit2, E2⟩
          case measure => simp only [World.iterPos, hit2, hit]; omega
      · have hnx : ∀ ty, (Instr.next (.pointer (some ⟨w.heap.size, 0, none⟩)) true ty).run Tryz.prog wr = _ := fun ty => Lib.run_next_any_at wr w.heap.size s k ty hit hp
        have hG : goodB s k = false := by rw [hgB]; exact letR_high (by omega)
        have hd := (decode_high s k hp (by omega)).1
        have hc := wordRune_one k ((Utf8.decode s k).1 : Int)
        rw [letR_high (by omega)] at hc
        have E2 : Ext w (wr.iterAt w.heap.size s (k + (Utf8.decode s k).2)) := Ext.of_below (Lib.below_iterAt (Ext.below hE) (Nat.le_refl _) s _)
        generalize (Utf8.decode s k).2 = m at *
        generalize ((Utf8.decode s k).1 : Int) = c at *
        clear hd
        go_wp2_with fail
        refine (hc _).mono ?_
        rintro e w1 ⟨rfl, rfl⟩
        go_wp2_with fail
        go_ret
        exact ⟨⟨k, rfl, hk, hall, fun _ => hG⟩, E2⟩
    · have hnx : ∀ ty, (Instr.next (.pointer (some ⟨w.heap.size, 0, none⟩)) true ty).run Tryz.prog wr = _ := fun ty => Lib.run_next_end_at wr w.heap.size s k ty hit hp
      go_wp2_with fail
      go_ret
      exact ⟨⟨s.size, rfl, Nat.le_refl _, fun j hj => hall j (by omega), fun h => by omega⟩, hE⟩
theorem ofWord_one (s : ByteArray) (hs : s.size ≤ maxLen) (w : World) : Calls Tryz.prog 130 #[.string s] w fun e w' => (∃ n : Nat, e = .returned (.int .i64 n) ∧ Word s n) ∧ Ext w w' := by
  go_enter Tryz.func130, Tryz.ntmps130
  go_wp2_with fail
  refine (run_one s hs _).mono ?_
  rintro e w1 ⟨⟨n, rfl, hW⟩, hE⟩
  go_wp2_with fail
  go_ret
  exact ⟨⟨n, rfl, hW⟩, hE⟩
def RetIdx (l : List ByteArray) (s : ByteArray) (w : World) (e : Ending) (w' : World) : Prop := (∃ n : Int, e = .returned (.int .i64 n) ∧ (0 ≤ n ↔ s ∈ l)) ∧ Ext w w'
set_option maxHeartbeats 1000000 in
theorem sIndex_any (l : List ByteArray) (a : Option Addr) (cap : Nat) (s : ByteArray) (w : World) (h : RdStrV w 0 false l (.slice a l.length cap)) :
    Calls Tryz.prog 165 #[.slice a l.length cap, .string s] w (RetIdx l s w) := by
  have hn : l.length ≤ 9000000000000000000 := by obtain ⟨_, _, _, hf, _⟩ := h; unfold fitsR at hf; omega
  go_enter Tryz.func165, Tryz.ntmps165
  go_wp2_with fail
  go_loop [8] (fun i => ∃ k : Nat, k ≤ l.length ∧ i = .int .i64 k ∧ s ∉ l.take k) (fun i => l.length - (intOf i).toNat)
  case atStart => exact ⟨0, Nat.zero_le _, rfl, by simp⟩
  case round =>
    obtain ⟨k, hk, rfl, hE⟩ := hrel
    by_cases hlt : k < l.length
    · have hx := List.getElem?_eq_getElem hlt
      obtain ⟨_, _, e, _, _, _, hr, _⟩ := h
      simp only [Value.slice.injEq, true_and] at e
      obtain ⟨rfl, rfl⟩ := e
      obtain ⟨_, b, o, rfl, _, hb, c0⟩ := hr k _ hx
      have q1 : (k : Int) < (l.length : Int) := by omega
      have hmem : l[k] ∈ l := List.getElem_mem hlt
      have htake : l.take (k + 1) = l.take k ++ [l[k]] := by rw [List.take_add_one, hx]; rfl
      generalize l[k] = x at *
      clear hr hx
      go_wp2_with fail
      · have hxs := str_eq0.1 ‹(s.toList == x.toList) = true›
        go_ret
        exact ⟨⟨k, rfl, by simp [hxs, hmem]⟩, Chg.refl _ _⟩
      · have hxs := str_ne0 ‹(s.toList == x.toList) = false›
        go_round
        case rel => exact ⟨k + 1, by omega, by go_num, by rw [htake]; simp [hE, hxs]⟩
        case measure => simp [intOf]; omega
    · obtain rfl : k = l.length := by omega
      rw [List.take_length] at hE
      go_wp2_with fail
      go_ret
      exact ⟨⟨(-1 : Int), rfl, ⟨fun h => absurd h (by decide), fun h => absurd h hE⟩⟩, Chg.refl _ _⟩
theorem sContains_any (l : List ByteArray) (a : Option Addr) (cap : Nat) (s : ByteArray) (w : World) (h : RdStrV w 0 false l (.slice a l.length cap)) :
    Calls Tryz.prog 131 #[.slice a l.length cap, .string s] w fun e w' => e = .returned (.bool (l.any fun x => decide (x = s))) ∧ Ext w w' := by
  go_enter Tryz.func131, Tryz.ntmps131
  go_wp2_with fail
  refine (sIndex_any l a cap s w h).mono ?_
  rintro e w1 ⟨⟨n, rfl, hn⟩, hE⟩
  go_wp2_with fail
  go_ret
  refine ⟨congrArg (fun b => Ending.returned (Value.bool b)) (Bool.eq_iff_iff.2 ?_), hE⟩
  rw [decide_eq_true_eq, List.any_eq_true]
  exact ⟨fun h => ⟨s, hn.1 h, by simp⟩, fun ⟨x, hx, e⟩ => hn.2 (by rw [← of_decide_eq_true e]; exact hx)⟩
/-- The words that are no names. -/
def kwords : List ByteArray := [⟨#[115, 116, 97, 116, 105, 111, 110, 115]⟩, ⟨#[105, 110]⟩, ⟨#[97, 116]⟩, ⟨#[102, 108, 111, 119]⟩, ⟨#[100, 101, 102, 97, 117, 108, 116]⟩, ⟨#[111, 117, 116]⟩, ⟨#[105, 102]⟩, ⟨#[116, 104, 101, 110]⟩, ⟨#[101, 108, 115, 101]⟩, ⟨#[112, 114, 101]⟩, ⟨#[97, 110, 100]⟩, ⟨#[111, 114]⟩, ⟨#[110, 111, 116]⟩, ⟨#[116, 114, 117, 101]⟩, ⟨#[102, 97, 108, 115, 101]⟩, ⟨#[105, 110, 116]⟩, ⟨#[98, 111, 111, 108]⟩]
/-- The plain answer: may a text be a name? -/
def nameP (s : ByteArray) : Bool := decide (s.size ≠ 0) && decide (s.size ≤ 40) && decide (∀ k, k < s.size → goodB s k = true) && !(kwords.any fun x => decide (x = s))
def kwCells : Array Value := #[.string ⟨#[115, 116, 97, 116, 105, 111, 110, 115]⟩, .string ⟨#[105, 110]⟩, .string ⟨#[97, 116]⟩, .string ⟨#[102, 108, 111, 119]⟩, .string ⟨#[100, 101, 102, 97, 117, 108, 116]⟩, .string ⟨#[111, 117, 116]⟩, .string ⟨#[105, 102]⟩, .string ⟨#[116, 104, 101, 110]⟩, .string ⟨#[101, 108, 115, 101]⟩, .string ⟨#[112, 114, 101]⟩, .string ⟨#[97, 110, 100]⟩, .string ⟨#[111, 114]⟩, .string ⟨#[110, 111, 116]⟩, .string ⟨#[116, 114, 117, 101]⟩, .string ⟨#[102, 97, 108, 115, 101]⟩, .string ⟨#[105, 110, 116]⟩, .string ⟨#[98, 111, 111, 108]⟩]
theorem kw_rd (w : World) : RdStrV (w.alloc (.cells kwCells 9)) 0 false kwords (.slice (some ⟨w.heap.size, 0, none⟩) 17 17) := by
  refine ⟨some ⟨w.heap.size, 0, none⟩, 17, rfl, by simp [fitsR, kwords], by simp [kwords], by decide, fun i x hx => ?_, fun h => by simp at h⟩
  have hx' : kwords[i]? = some x := hx
  have hi : i < 17 := (List.getElem?_eq_some_iff.1 hx').1
  refine ⟨?_, _, _, rfl, Nat.zero_le _, by simp, ?_⟩
  · have : ∀ x, x ∈ kwords → x.size ≤ maxLen := by decide
    exact this x (List.mem_of_getElem? hx')
  · rw [Nat.zero_add, World.cell?_alloc_at _ _ _ _ rfl]
    show (kwords.map Value.string).toArray[i]? = _
    simp [hx']
theorem words_one (w : World) : Calls Tryz.prog 132 #[] w fun e w' => (∃ a, e = .returned (.slice a kwords.length 17) ∧ RdStrV w' 0 false kwords (.slice a kwords.length 17)) ∧ Ext w w' := by
  go_enter Tryz.func132, Tryz.ntmps132
  go_wp2_with fail
  go_ret
  exact ⟨⟨_, rfl, kw_rd w⟩, (Chg.refl _ _).alloc _⟩
theorem nil_of_size {s : ByteArray} (h : s.size = 0) : s.toList = [] := by
  obtain ⟨⟨l⟩⟩ := s
  have : l.length = 0 := h
  have : l = [] := List.length_eq_zero_iff.1 this
  subst this; simp [ByteArray.toList_eq]
theorem size_of_nil {s : ByteArray} (h : s.toList = []) : s.size = 0 := by
  rw [ByteArray.toList_eq] at h
  have := congrArg List.length h
  simpa using this
theorem nameP_of {s : ByteArray} (h0 : s.size ≠ 0) (h40 : s.size ≤ 40) {n : Nat} (hW : Word s n) : nameP s = (decide (n = s.size) && !(kwords.any fun x => decide (x = s))) := by
  have e : decide (∀ k, k < s.size → goodB s k = true) = decide (n = s.size) := by
    rw [Bool.eq_iff_iff, decide_eq_true_eq, decide_eq_true_eq]
    exact hW.all.symm
  simp [nameP, h0, h40, ← e]
set_option maxHeartbeats 1000000 in
theorem name_one (s : ByteArray) (hs : s.size ≤ maxLen) (w : World) : Calls Tryz.prog 104 #[.string s] w fun e w' => e = .returned (.bool (nameP s)) ∧ Ext w w' := by
  go_enter Tryz.func104, Tryz.ntmps104
  by_cases h0 : s.size = 0
  · have q0 := nil_of_size h0
    go_wp2_with fail
    go_ret
    exact ⟨by simp [nameP, h0], Chg.refl _ _⟩
  · have q0 : ¬ s.toList = [] := fun h => h0 (size_of_nil h)
    by_cases h40 : s.size ≤ 40
    · have q1 : (s.size : Int) ≤ 40 := by omega
      go_wp2_with fail
      refine (ofWord_one s hs _).mono ?_
      rintro e w1 ⟨⟨n, rfl, hW⟩, hE⟩
      have hN := nameP_of h0 h40 hW
      clear hW
      have HN := Lib.hid hN
      clear hN
      by_cases hn : n = s.size
      · subst hn
        go_wp2_with fail
        refine (words_one _).mono ?_
        rintro e w2 ⟨⟨a, rfl, hr⟩, hE2⟩
        go_wp2_with fail
        refine (sContains_any _ _ _ s _ hr).mono ?_
        rintro e w3 ⟨rfl, hE3⟩
        generalize (kwords.any fun x => decide (x = s)) = b at *
        go_wp2_with fail
        go_ret
        exact ⟨by rw [HN.out]; simp [q0], (hE.trans hE2).trans hE3⟩
      · have hn' : ¬ (n : Int) = (s.size : Int) := by omega
        go_wp2_with fail
        go_ret
        exact ⟨by rw [HN.out]; simp [hn], hE⟩
    · have q1 : ¬ (s.size : Int) ≤ 40 := by omega
      go_wp2_with fail
      go_ret
      exact ⟨by simp [nameP, h40], Chg.refl _ _⟩
end Go.Proofs.YtgkbhonjodcakaaGreat
