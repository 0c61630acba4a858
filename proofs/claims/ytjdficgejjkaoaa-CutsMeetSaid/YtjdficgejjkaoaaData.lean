/- Programs as plain data, and how they lie in memory. -/
import Derived.Test.YtjdficgejjkaoaaBase
namespace Go.Proofs.Ytjdficgejjkaoaa
open Go.RowKit
set_option linter.unusedVariables false

/-- What is worked out. -/
inductive Ex where
  | mk (op n : Int) (name : ByteArray) (args : List Ex)
def Ex.op : Ex → Int | .mk o _ _ _ => o
def Ex.n : Ex → Int | .mk _ n _ _ => n
def Ex.name : Ex → ByteArray | .mk _ _ s _ => s
def Ex.args : Ex → List Ex | .mk _ _ _ l => l
theorem Ex.ind {P : Ex → Prop} (h : ∀ op n nm args, (∀ x, x ∈ args → P x) → P (.mk op n nm args)) : ∀ x, P x
  | .mk op n nm args => h op n nm args fun x hx => Ex.ind h x
termination_by x => SizeOf.sizeOf x
decreasing_by
  have := List.sizeOf_lt_of_mem hx
  simp
  omega
structure InD where
  name : ByteArray
  ty : Int
  st : Int
structure FlD where
  name : ByteArray
  ty : Int
  st : Int
  df : Int
  body : Ex
structure PrD where
  st : Int
  ins : List InD
  flows : List FlD
  outs : List ByteArray

def isU8 (x : Int) : Prop := 0 ≤ x ∧ x ≤ 255
def isI64 (x : Int) : Prop := -9223372036854775808 ≤ x ∧ x ≤ 9223372036854775807
/-- As long as a slice of elements of so many bytes may be. -/
def fitsR (n bytes : Nat) : Prop := n * bytes ≤ 140737488351232
def spareS : ByteArray := ⟨#[115, 112, 97, 114, 101]⟩

mutual
/-- The cells tell what is worked out; t: with a mark in the room behind each list. -/
def RdEx (w : World) (lo : Nat) (t : Bool) : Ex → List Value → Prop
  | .mk op n nm args, cs => ∃ a cap, cs = [.int .u8 op, .int .i64 n, .string nm, .slice a args.length cap] ∧ isU8 op ∧ isI64 n ∧ nm.size ≤ maxLen ∧ fitsR args.length 56 ∧ args.length ≤ cap ∧ cap ≤ maxLen ∧
      RdExs w lo t a 0 args ∧ (t = true → args.length < cap ∧ ∃ b o, a = some ⟨b, o, none⟩ ∧ lo ≤ b ∧ b < w.heap.size ∧ ∃ (c0 c1 : Int) (c3 : Nat), w.cell? ⟨b, o + args.length * 4, none⟩ = some (.int .u8 c0) ∧ w.cell? ⟨b, o + args.length * 4 + 1, none⟩ = some (.int .i64 c1) ∧
        w.cell? ⟨b, o + args.length * 4 + 2, none⟩ = some (.string spareS) ∧ w.cell? ⟨b, o + args.length * 4 + 3, none⟩ = some (.slice none 0 c3))
def RdExs (w : World) (lo : Nat) (t : Bool) (a : Option Addr) : Nat → List Ex → Prop
  | _, [] => True
  | i, x :: r => (∃ b o c0 c1 c2 c3, a = some ⟨b, o, none⟩ ∧ lo ≤ b ∧ b < w.heap.size ∧ w.cell? ⟨b, o + i * 4, none⟩ = some c0 ∧ w.cell? ⟨b, o + i * 4 + 1, none⟩ = some c1 ∧ w.cell? ⟨b, o + i * 4 + 2, none⟩ = some c2 ∧
      w.cell? ⟨b, o + i * 4 + 3, none⟩ = some c3 ∧ RdEx w lo t x [c0, c1, c2, c3]) ∧ RdExs w lo t a (i + 1) r
end

theorem RdExs.get {w : World} {lo : Nat} {t : Bool} {a : Option Addr} : ∀ {l : List Ex} {k : Nat}, RdExs w lo t a k l → ∀ {i : Nat} {x : Ex}, l[i]? = some x →
    ∃ b o c0 c1 c2 c3, a = some ⟨b, o, none⟩ ∧ lo ≤ b ∧ b < w.heap.size ∧ w.cell? ⟨b, o + (k + i) * 4, none⟩ = some c0 ∧ w.cell? ⟨b, o + (k + i) * 4 + 1, none⟩ = some c1 ∧ w.cell? ⟨b, o + (k + i) * 4 + 2, none⟩ = some c2 ∧
      w.cell? ⟨b, o + (k + i) * 4 + 3, none⟩ = some c3 ∧ RdEx w lo t x [c0, c1, c2, c3]
  | [], _, _, i, x, hx => by simp at hx
  | y :: r, k, h, 0, x, hx => by
    simp only [List.getElem?_cons_zero, Option.some.injEq] at hx
    subst hx
    unfold RdExs at h
    exact h.1
  | y :: r, k, h, i + 1, x, hx => by
    simp only [List.getElem?_cons_succ] at hx
    unfold RdExs at h
    have := RdExs.get h.2 hx
    rw [show k + 1 + i = k + (i + 1) from by omega] at this
    exact this
theorem RdExs.mk {w : World} {lo : Nat} {t : Bool} {a : Option Addr} : ∀ {l : List Ex} {k : Nat}, (∀ {i : Nat} {x : Ex}, l[i]? = some x →
    ∃ b o c0 c1 c2 c3, a = some ⟨b, o, none⟩ ∧ lo ≤ b ∧ b < w.heap.size ∧ w.cell? ⟨b, o + (k + i) * 4, none⟩ = some c0 ∧ w.cell? ⟨b, o + (k + i) * 4 + 1, none⟩ = some c1 ∧ w.cell? ⟨b, o + (k + i) * 4 + 2, none⟩ = some c2 ∧
      w.cell? ⟨b, o + (k + i) * 4 + 3, none⟩ = some c3 ∧ RdEx w lo t x [c0, c1, c2, c3]) → RdExs w lo t a k l
  | [], _, _ => by unfold RdExs; trivial
  | y :: r, k, h => by
    unfold RdExs
    refine ⟨h (i := 0) rfl, RdExs.mk fun {i x} hx => ?_⟩
    have := h (i := i + 1) (x := x) (by simpa using hx)
    rw [show k + (i + 1) = k + 1 + i from by omega] at this
    exact this

mutual
theorem RdEx.far {w w1 : World} {lo : Nat} {t : Bool} {S : Nat → Prop} (he : Chg S w w1) (hS : ∀ k, S k → k < lo) : ∀ {x : Ex} {cs : List Value}, RdEx w lo t x cs → RdEx w1 lo t x cs
  | .mk op n nm args, cs, h => by
    unfold RdEx at h ⊢
    obtain ⟨a, cap, rfl, h1, h2, h3, h4, h5, h6, h7, h8⟩ := h
    refine ⟨a, cap, rfl, h1, h2, h3, h4, h5, h6, RdExs.far he hS h7, fun ht => ?_⟩
    obtain ⟨hc, b, o, ha, hlo, hb, c0, c1, c3, k0, k1, k2, k3⟩ := h8 ht
    exact ⟨hc, b, o, ha, hlo, by have := he.size; omega, c0, c1, c3, he.cell k0 (fun h => Nat.not_lt.2 hlo (hS _ h)), he.cell k1 (fun h => Nat.not_lt.2 hlo (hS _ h)), he.cell k2 (fun h => Nat.not_lt.2 hlo (hS _ h)), he.cell k3 (fun h => Nat.not_lt.2 hlo (hS _ h))⟩
theorem RdExs.far {w w1 : World} {lo : Nat} {t : Bool} {S : Nat → Prop} {a : Option Addr} (he : Chg S w w1) (hS : ∀ k, S k → k < lo) : ∀ {l : List Ex} {k : Nat}, RdExs w lo t a k l → RdExs w1 lo t a k l
  | [], _, _ => by unfold RdExs; trivial
  | x :: r, k, h => by
    unfold RdExs at h ⊢
    obtain ⟨⟨b, o, c0, c1, c2, c3, ha, hlo, hb, k0, k1, k2, k3, hx⟩, hr⟩ := h
    exact ⟨⟨b, o, c0, c1, c2, c3, ha, hlo, by have := he.size; omega, he.cell k0 (fun h => Nat.not_lt.2 hlo (hS _ h)), he.cell k1 (fun h => Nat.not_lt.2 hlo (hS _ h)), he.cell k2 (fun h => Nat.not_lt.2 hlo (hS _ h)), he.cell k3 (fun h => Nat.not_lt.2 hlo (hS _ h)), RdEx.far he hS hx⟩, RdExs.far he hS hr⟩
end
mutual
theorem RdEx.plain {w : World} {lo : Nat} {t : Bool} : ∀ {x : Ex} {cs : List Value}, RdEx w lo t x cs → RdEx w lo false x cs
  | .mk op n nm args, cs, h => by
    unfold RdEx at h ⊢
    obtain ⟨a, cap, rfl, h1, h2, h3, h4, h5, h6, h7, h8⟩ := h
    exact ⟨a, cap, rfl, h1, h2, h3, h4, h5, h6, RdExs.plain h7, fun ht => by simp at ht⟩
theorem RdExs.plain {w : World} {lo : Nat} {t : Bool} {a : Option Addr} : ∀ {l : List Ex} {k : Nat}, RdExs w lo t a k l → RdExs w lo false a k l
  | [], _, _ => by unfold RdExs; trivial
  | x :: r, k, h => by
    unfold RdExs at h ⊢
    obtain ⟨⟨b, o, c0, c1, c2, c3, ha, hlo, hb, k0, k1, k2, k3, hx⟩, hr⟩ := h
    exact ⟨⟨b, o, c0, c1, c2, c3, ha, hlo, hb, k0, k1, k2, k3, RdEx.plain hx⟩, RdExs.plain hr⟩
end
/-- A list of what is worked out, as a slice's value. -/
def RdExV (w : World) (lo : Nat) (t : Bool) (l : List Ex) (v : Value) : Prop := ∃ a cap, v = .slice a l.length cap ∧ fitsR l.length 56 ∧ l.length ≤ cap ∧ cap ≤ maxLen ∧ RdExs w lo t a 0 l ∧
  (t = true → l.length < cap ∧ ∃ b o, a = some ⟨b, o, none⟩ ∧ lo ≤ b ∧ b < w.heap.size ∧ ∃ (c0 c1 : Int) (c3 : Nat), w.cell? ⟨b, o + l.length * 4, none⟩ = some (.int .u8 c0) ∧ w.cell? ⟨b, o + l.length * 4 + 1, none⟩ = some (.int .i64 c1) ∧
    w.cell? ⟨b, o + l.length * 4 + 2, none⟩ = some (.string spareS) ∧ w.cell? ⟨b, o + l.length * 4 + 3, none⟩ = some (.slice none 0 c3))
theorem RdEx.open {w : World} {lo : Nat} {t : Bool} {op n : Int} {nm : ByteArray} {args : List Ex} {cs : List Value} (h : RdEx w lo t (.mk op n nm args) cs) :
    ∃ v, cs = [.int .u8 op, .int .i64 n, .string nm, v] ∧ isU8 op ∧ isI64 n ∧ nm.size ≤ maxLen ∧ RdExV w lo t args v := by
  unfold RdEx at h
  obtain ⟨a, cap, rfl, h1, h2, h3, h4, h5, h6, h7, h8⟩ := h
  exact ⟨_, rfl, h1, h2, h3, a, cap, rfl, h4, h5, h6, h7, h8⟩
theorem RdEx.shut {w : World} {lo : Nat} {t : Bool} {op n : Int} {nm : ByteArray} {args : List Ex} {v : Value} (h1 : isU8 op) (h2 : isI64 n) (h3 : nm.size ≤ maxLen) (h : RdExV w lo t args v) :
    RdEx w lo t (.mk op n nm args) [.int .u8 op, .int .i64 n, .string nm, v] := by
  obtain ⟨a, cap, rfl, h4, h5, h6, h7, h8⟩ := h
  unfold RdEx
  exact ⟨a, cap, rfl, h1, h2, h3, h4, h5, h6, h7, h8⟩
theorem RdExV.far {w w1 : World} {lo : Nat} {t : Bool} {S : Nat → Prop} {l : List Ex} {v : Value} (h : RdExV w lo t l v) (he : Chg S w w1) (hS : ∀ k, S k → k < lo) : RdExV w1 lo t l v := by
  obtain ⟨a, cap, rfl, h4, h5, h6, h7, h8⟩ := h
  refine ⟨a, cap, rfl, h4, h5, h6, h7.far he hS, fun ht => ?_⟩
  obtain ⟨hc, b, o, ha, hlo, hb, c0, c1, c3, k0, k1, k2, k3⟩ := h8 ht
  exact ⟨hc, b, o, ha, hlo, by have := he.size; omega, c0, c1, c3, he.cell k0 (fun h => Nat.not_lt.2 hlo (hS _ h)), he.cell k1 (fun h => Nat.not_lt.2 hlo (hS _ h)), he.cell k2 (fun h => Nat.not_lt.2 hlo (hS _ h)), he.cell k3 (fun h => Nat.not_lt.2 hlo (hS _ h))⟩
/-- Element i of such a list, cell by cell. -/
theorem RdExV.get {w : World} {lo : Nat} {t : Bool} {l : List Ex} {a : Option Addr} {n cap : Nat} (h : RdExV w lo t l (.slice a n cap)) {i : Nat} {x : Ex} (hx : l[i]? = some x) :
    ∃ b o v, a = some ⟨b, o, none⟩ ∧ lo ≤ b ∧ b < w.heap.size ∧ w.cell? ⟨b, o + i * 4, none⟩ = some (.int .u8 x.op) ∧ w.cell? ⟨b, o + i * 4 + 1, none⟩ = some (.int .i64 x.n) ∧ w.cell? ⟨b, o + i * 4 + 2, none⟩ = some (.string x.name) ∧
      w.cell? ⟨b, o + i * 4 + 3, none⟩ = some v ∧ isU8 x.op ∧ isI64 x.n ∧ x.name.size ≤ maxLen ∧ RdExV w lo t x.args v := by
  obtain ⟨a', cap', e, _, _, _, h7, _⟩ := h
  simp only [Value.slice.injEq] at e
  obtain ⟨rfl, _, _⟩ := e
  obtain ⟨b, o, c0, c1, c2, c3, ha, hlo, hb, k0, k1, k2, k3, hr⟩ := h7.get hx
  rw [Nat.zero_add] at k0 k1 k2 k3
  obtain ⟨op, n, nm, args⟩ := x
  obtain ⟨v, e, h1, h2, h3, hv⟩ := hr.open
  simp only [List.cons.injEq, and_true] at e
  obtain ⟨rfl, rfl, rfl, rfl⟩ := e
  exact ⟨b, o, _, ha, hlo, hb, k0, k1, k2, k3, h1, h2, h3, hv⟩

/-- A list of texts. -/
def RdStrV (w : World) (lo : Nat) (t : Bool) (l : List ByteArray) (v : Value) : Prop := ∃ a cap, v = .slice a l.length cap ∧ fitsR l.length 16 ∧ l.length ≤ cap ∧ cap ≤ maxLen ∧
  (∀ i x, l[i]? = some x → x.size ≤ maxLen ∧ ∃ b o, a = some ⟨b, o, none⟩ ∧ lo ≤ b ∧ b < w.heap.size ∧ w.cell? ⟨b, o + i, none⟩ = some (.string x)) ∧
  (t = true → l.length < cap ∧ ∃ b o, a = some ⟨b, o, none⟩ ∧ lo ≤ b ∧ b < w.heap.size ∧ w.cell? ⟨b, o + l.length, none⟩ = some (.string spareS))
/-- A list of what comes from without. -/
def RdInV (w : World) (lo : Nat) (t : Bool) (l : List InD) (v : Value) : Prop := ∃ a cap, v = .slice a l.length cap ∧ fitsR l.length 32 ∧ l.length ≤ cap ∧ cap ≤ maxLen ∧
  (∀ i x, l[i]? = some x → x.name.size ≤ maxLen ∧ isU8 x.ty ∧ isI64 x.st ∧ ∃ b o, a = some ⟨b, o, none⟩ ∧ lo ≤ b ∧ b < w.heap.size ∧ w.cell? ⟨b, o + i * 3, none⟩ = some (.string x.name) ∧
    w.cell? ⟨b, o + i * 3 + 1, none⟩ = some (.int .u8 x.ty) ∧ w.cell? ⟨b, o + i * 3 + 2, none⟩ = some (.int .i64 x.st)) ∧
  (t = true → l.length < cap ∧ ∃ b o, a = some ⟨b, o, none⟩ ∧ lo ≤ b ∧ b < w.heap.size ∧ ∃ (c1 c2 : Int), w.cell? ⟨b, o + l.length * 3, none⟩ = some (.string spareS) ∧
    w.cell? ⟨b, o + l.length * 3 + 1, none⟩ = some (.int .u8 c1) ∧ w.cell? ⟨b, o + l.length * 3 + 2, none⟩ = some (.int .i64 c2))
/-- The mark's cells behind a list of flows. -/
def flMark : List Value := [.string spareS, .int .u8 0, .int .i64 0, .int .i64 0, .int .u8 0, .int .i64 0, .string ⟨#[]⟩, .slice none 0 0]
/-- A list of flows. -/
def RdFlV (w : World) (lo : Nat) (t : Bool) (l : List FlD) (v : Value) : Prop := ∃ a cap, v = .slice a l.length cap ∧ fitsR l.length 96 ∧ l.length ≤ cap ∧ cap ≤ maxLen ∧
  (∀ i x, l[i]? = some x → x.name.size ≤ maxLen ∧ isU8 x.ty ∧ isI64 x.st ∧ isI64 x.df ∧ ∃ b o, a = some ⟨b, o, none⟩ ∧ lo ≤ b ∧ b < w.heap.size ∧ w.cell? ⟨b, o + i * 8, none⟩ = some (.string x.name) ∧
    w.cell? ⟨b, o + i * 8 + 1, none⟩ = some (.int .u8 x.ty) ∧ w.cell? ⟨b, o + i * 8 + 2, none⟩ = some (.int .i64 x.st) ∧ w.cell? ⟨b, o + i * 8 + 3, none⟩ = some (.int .i64 x.df) ∧
    isU8 x.body.op ∧ isI64 x.body.n ∧ x.body.name.size ≤ maxLen ∧ ∃ v, RdExV w lo t x.body.args v ∧ w.cell? ⟨b, o + i * 8 + 4, none⟩ = some (.int .u8 x.body.op) ∧ w.cell? ⟨b, o + i * 8 + 4 + 1, none⟩ = some (.int .i64 x.body.n) ∧
    w.cell? ⟨b, o + i * 8 + 4 + 2, none⟩ = some (.string x.body.name) ∧ w.cell? ⟨b, o + i * 8 + 4 + 3, none⟩ = some v) ∧
  (t = true → l.length < cap ∧ ∃ b o, a = some ⟨b, o, none⟩ ∧ lo ≤ b ∧ b < w.heap.size ∧ w.cell? ⟨b, o + l.length * 8, none⟩ = some (.string spareS) ∧ ∀ j, 1 ≤ j → j < 8 → ∃ c : {c : Value // flMark[j]? = some c}, w.cell? ⟨b, o + l.length * 8 + j, none⟩ = some c.1)
theorem RdStrV.far {w w1 : World} {lo : Nat} {t : Bool} {S : Nat → Prop} {l : List ByteArray} {v : Value} (h : RdStrV w lo t l v) (he : Chg S w w1) (hS : ∀ k, S k → k < lo) : RdStrV w1 lo t l v := by
  obtain ⟨a, cap, rfl, h4, h5, h6, h7, h8⟩ := h
  have hs := he.size
  refine ⟨a, cap, rfl, h4, h5, h6, fun i x hx => ?_, fun ht => ?_⟩
  · obtain ⟨h1, b, o, ha, hlo, hb, k0⟩ := h7 i x hx
    exact ⟨h1, b, o, ha, hlo, by omega, he.cell k0 (fun h => Nat.not_lt.2 hlo (hS _ h))⟩
  · obtain ⟨hc, b, o, ha, hlo, hb, k0⟩ := h8 ht
    exact ⟨hc, b, o, ha, hlo, by omega, he.cell k0 (fun h => Nat.not_lt.2 hlo (hS _ h))⟩
theorem RdInV.far {w w1 : World} {lo : Nat} {t : Bool} {S : Nat → Prop} {l : List InD} {v : Value} (h : RdInV w lo t l v) (he : Chg S w w1) (hS : ∀ k, S k → k < lo) : RdInV w1 lo t l v := by
  obtain ⟨a, cap, rfl, h4, h5, h6, h7, h8⟩ := h
  have hs := he.size
  refine ⟨a, cap, rfl, h4, h5, h6, fun i x hx => ?_, fun ht => ?_⟩
  · obtain ⟨h1, h2, h3, b, o, ha, hlo, hb, k0, k1, k2⟩ := h7 i x hx
    exact ⟨h1, h2, h3, b, o, ha, hlo, by omega, he.cell k0 (fun h => Nat.not_lt.2 hlo (hS _ h)), he.cell k1 (fun h => Nat.not_lt.2 hlo (hS _ h)), he.cell k2 (fun h => Nat.not_lt.2 hlo (hS _ h))⟩
  · obtain ⟨hc, b, o, ha, hlo, hb, c1, c2, k0, k1, k2⟩ := h8 ht
    exact ⟨hc, b, o, ha, hlo, by omega, c1, c2, he.cell k0 (fun h => Nat.not_lt.2 hlo (hS _ h)), he.cell k1 (fun h => Nat.not_lt.2 hlo (hS _ h)), he.cell k2 (fun h => Nat.not_lt.2 hlo (hS _ h))⟩
theorem RdFlV.far {w w1 : World} {lo : Nat} {t : Bool} {S : Nat → Prop} {l : List FlD} {v : Value} (h : RdFlV w lo t l v) (he : Chg S w w1) (hS : ∀ k, S k → k < lo) : RdFlV w1 lo t l v := by
  obtain ⟨a, cap, rfl, h4, h5, h6, h7, h8⟩ := h
  have hs := he.size
  refine ⟨a, cap, rfl, h4, h5, h6, fun i x hx => ?_, fun ht => ?_⟩
  · obtain ⟨h1, h2, h3, h4, b, o, ha, hlo, hb, k0, k1, k2, k3, e1, e2, e3, v, hv, k4, k5, k6, k7⟩ := h7 i x hx
    exact ⟨h1, h2, h3, h4, b, o, ha, hlo, by omega, he.cell k0 (fun h => Nat.not_lt.2 hlo (hS _ h)), he.cell k1 (fun h => Nat.not_lt.2 hlo (hS _ h)), he.cell k2 (fun h => Nat.not_lt.2 hlo (hS _ h)), he.cell k3 (fun h => Nat.not_lt.2 hlo (hS _ h)), e1, e2, e3, v, hv.far he hS, he.cell k4 (fun h => Nat.not_lt.2 hlo (hS _ h)), he.cell k5 (fun h => Nat.not_lt.2 hlo (hS _ h)), he.cell k6 (fun h => Nat.not_lt.2 hlo (hS _ h)), he.cell k7 (fun h => Nat.not_lt.2 hlo (hS _ h))⟩
  · obtain ⟨hc, b, o, ha, hlo, hb, k0, kj⟩ := h8 ht
    exact ⟨hc, b, o, ha, hlo, by omega, he.cell k0 (fun h => Nat.not_lt.2 hlo (hS _ h)), fun j h1 h2 => by obtain ⟨c, hc⟩ := kj j h1 h2; exact ⟨c, he.cell hc (fun h => Nat.not_lt.2 hlo (hS _ h))⟩⟩
mutual
theorem RdEx.lower {w : World} {lo lo' : Nat} {t : Bool} (hl : lo' ≤ lo) : ∀ {x : Ex} {cs : List Value}, RdEx w lo t x cs → RdEx w lo' t x cs
  | .mk op n nm args, cs, h => by
    unfold RdEx at h ⊢
    obtain ⟨a, cap, rfl, h1, h2, h3, h4, h5, h6, h7, h8⟩ := h
    refine ⟨a, cap, rfl, h1, h2, h3, h4, h5, h6, RdExs.lower hl h7, fun ht => ?_⟩
    obtain ⟨hc, b, o, ha, hlo, hr⟩ := h8 ht
    exact ⟨hc, b, o, ha, by omega, hr⟩
theorem RdExs.lower {w : World} {lo lo' : Nat} {t : Bool} {a : Option Addr} (hl : lo' ≤ lo) : ∀ {l : List Ex} {k : Nat}, RdExs w lo t a k l → RdExs w lo' t a k l
  | [], _, _ => by unfold RdExs; trivial
  | x :: r, k, h => by
    unfold RdExs at h ⊢
    obtain ⟨⟨b, o, c0, c1, c2, c3, ha, hlo, hb, k0, k1, k2, k3, hx⟩, hr⟩ := h
    exact ⟨⟨b, o, c0, c1, c2, c3, ha, by omega, hb, k0, k1, k2, k3, RdEx.lower hl hx⟩, RdExs.lower hl hr⟩
end
theorem RdExV.lower {w : World} {lo lo' : Nat} {t : Bool} {l : List Ex} {v : Value} (h : RdExV w lo t l v) (hl : lo' ≤ lo) : RdExV w lo' t l v := by
  obtain ⟨a, cap, rfl, h4, h5, h6, h7, h8⟩ := h
  refine ⟨a, cap, rfl, h4, h5, h6, h7.lower hl, fun ht => ?_⟩
  obtain ⟨hc, b, o, ha, hlo, hr⟩ := h8 ht
  exact ⟨hc, b, o, ha, by omega, hr⟩
theorem RdStrV.lower {w : World} {lo lo' : Nat} {t : Bool} {l : List ByteArray} {v : Value} (h : RdStrV w lo t l v) (hl : lo' ≤ lo) : RdStrV w lo' t l v := by
  obtain ⟨a, cap, rfl, h4, h5, h6, h7, h8⟩ := h
  refine ⟨a, cap, rfl, h4, h5, h6, fun i x hx => ?_, fun ht => ?_⟩
  · obtain ⟨h1, b, o, ha, hlo, hr⟩ := h7 i x hx
    exact ⟨h1, b, o, ha, by omega, hr⟩
  · obtain ⟨hc, b, o, ha, hlo, hr⟩ := h8 ht
    exact ⟨hc, b, o, ha, by omega, hr⟩
theorem RdInV.lower {w : World} {lo lo' : Nat} {t : Bool} {l : List InD} {v : Value} (h : RdInV w lo t l v) (hl : lo' ≤ lo) : RdInV w lo' t l v := by
  obtain ⟨a, cap, rfl, h4, h5, h6, h7, h8⟩ := h
  refine ⟨a, cap, rfl, h4, h5, h6, fun i x hx => ?_, fun ht => ?_⟩
  · obtain ⟨h1, h2, h3, b, o, ha, hlo, hr⟩ := h7 i x hx
    exact ⟨h1, h2, h3, b, o, ha, by omega, hr⟩
  · obtain ⟨hc, b, o, ha, hlo, hr⟩ := h8 ht
    exact ⟨hc, b, o, ha, by omega, hr⟩
theorem RdFlV.lower {w : World} {lo lo' : Nat} {t : Bool} {l : List FlD} {v : Value} (h : RdFlV w lo t l v) (hl : lo' ≤ lo) : RdFlV w lo' t l v := by
  obtain ⟨a, cap, rfl, h4, h5, h6, h7, h8⟩ := h
  refine ⟨a, cap, rfl, h4, h5, h6, fun i x hx => ?_, fun ht => ?_⟩
  · obtain ⟨h1, h2, h3, h4, b, o, ha, hlo, hb, k0, k1, k2, k3, e1, e2, e3, v, hv, hr⟩ := h7 i x hx
    exact ⟨h1, h2, h3, h4, b, o, ha, by omega, hb, k0, k1, k2, k3, e1, e2, e3, v, hv.lower hl, hr⟩
  · obtain ⟨hc, b, o, ha, hlo, hr⟩ := h8 ht
    exact ⟨hc, b, o, ha, by omega, hr⟩
theorem RdExV.plain {w : World} {lo : Nat} {t : Bool} {l : List Ex} {v : Value} (h : RdExV w lo t l v) : RdExV w lo false l v := by
  obtain ⟨a, cap, rfl, h4, h5, h6, h7, h8⟩ := h
  exact ⟨a, cap, rfl, h4, h5, h6, h7.plain, fun ht => by simp at ht⟩
theorem RdStrV.plain {w : World} {lo : Nat} {t : Bool} {l : List ByteArray} {v : Value} (h : RdStrV w lo t l v) : RdStrV w lo false l v := by
  obtain ⟨a, cap, rfl, h4, h5, h6, h7, h8⟩ := h
  exact ⟨a, cap, rfl, h4, h5, h6, h7, fun ht => by simp at ht⟩
theorem RdInV.plain {w : World} {lo : Nat} {t : Bool} {l : List InD} {v : Value} (h : RdInV w lo t l v) : RdInV w lo false l v := by
  obtain ⟨a, cap, rfl, h4, h5, h6, h7, h8⟩ := h
  exact ⟨a, cap, rfl, h4, h5, h6, h7, fun ht => by simp at ht⟩
theorem RdFlV.plain {w : World} {lo : Nat} {t : Bool} {l : List FlD} {v : Value} (h : RdFlV w lo t l v) : RdFlV w lo false l v := by
  obtain ⟨a, cap, rfl, h4, h5, h6, h7, h8⟩ := h
  refine ⟨a, cap, rfl, h4, h5, h6, fun i x hx => ?_, fun ht => by simp at ht⟩
  obtain ⟨h1, h2, h3, h4, b, o, ha, hlo, hb, k0, k1, k2, k3, e1, e2, e3, v, hv, k4, k5, k6, k7⟩ := h7 i x hx
  exact ⟨h1, h2, h3, h4, b, o, ha, hlo, hb, k0, k1, k2, k3, e1, e2, e3, v, hv.plain, k4, k5, k6, k7⟩
theorem RdExV.form {w : World} {lo : Nat} {t : Bool} {l : List Ex} {v : Value} (h : RdExV w lo t l v) : ∃ a cap, v = .slice a l.length cap ∧ fitsR l.length 56 ∧ l.length ≤ cap ∧ cap ≤ maxLen := by
  obtain ⟨a, cap, rfl, h1, h2, h3, _⟩ := h
  exact ⟨a, cap, rfl, h1, h2, h3⟩
theorem RdStrV.form {w : World} {lo : Nat} {t : Bool} {l : List ByteArray} {v : Value} (h : RdStrV w lo t l v) : ∃ a cap, v = .slice a l.length cap ∧ fitsR l.length 16 ∧ l.length ≤ cap ∧ cap ≤ maxLen := by
  obtain ⟨a, cap, rfl, h1, h2, h3, _⟩ := h
  exact ⟨a, cap, rfl, h1, h2, h3⟩
theorem RdInV.form {w : World} {lo : Nat} {t : Bool} {l : List InD} {v : Value} (h : RdInV w lo t l v) : ∃ a cap, v = .slice a l.length cap ∧ fitsR l.length 32 ∧ l.length ≤ cap ∧ cap ≤ maxLen := by
  obtain ⟨a, cap, rfl, h1, h2, h3, _⟩ := h
  exact ⟨a, cap, rfl, h1, h2, h3⟩
theorem RdFlV.form {w : World} {lo : Nat} {t : Bool} {l : List FlD} {v : Value} (h : RdFlV w lo t l v) : ∃ a cap, v = .slice a l.length cap ∧ fitsR l.length 96 ∧ l.length ≤ cap ∧ cap ≤ maxLen := by
  obtain ⟨a, cap, rfl, h1, h2, h3, _⟩ := h
  exact ⟨a, cap, rfl, h1, h2, h3⟩
/-- A program's value: its four cells. -/
def RdPr (w : World) (lo : Nat) (t : Bool) (p : PrD) (cs : Array Value) : Prop := ∃ vi vf vo, cs = #[.int .i64 p.st, vi, vf, vo] ∧ isI64 p.st ∧ RdInV w lo t p.ins vi ∧ RdFlV w lo t p.flows vf ∧ RdStrV w lo t p.outs vo
theorem RdExV.ext {w w1 : World} {lo : Nat} {t : Bool} {l : List Ex} {v : Value} (h : RdExV w lo t l v) (he : Ext w w1) : RdExV w1 lo t l v := h.far he (fun _ h => h.elim)
theorem RdStrV.ext {w w1 : World} {lo : Nat} {t : Bool} {l : List ByteArray} {v : Value} (h : RdStrV w lo t l v) (he : Ext w w1) : RdStrV w1 lo t l v := h.far he (fun _ h => h.elim)
theorem RdInV.ext {w w1 : World} {lo : Nat} {t : Bool} {l : List InD} {v : Value} (h : RdInV w lo t l v) (he : Ext w w1) : RdInV w1 lo t l v := h.far he (fun _ h => h.elim)
theorem RdFlV.ext {w w1 : World} {lo : Nat} {t : Bool} {l : List FlD} {v : Value} (h : RdFlV w lo t l v) (he : Ext w w1) : RdFlV w1 lo t l v := h.far he (fun _ h => h.elim)
theorem RdPr.ext {w w1 : World} {lo : Nat} {t : Bool} {p : PrD} {cs : Array Value} (h : RdPr w lo t p cs) (he : Ext w w1) : RdPr w1 lo t p cs := by
  obtain ⟨vi, vf, vo, rfl, h1, h2, h3, h4⟩ := h
  exact ⟨vi, vf, vo, rfl, h1, h2.ext he, h3.ext he, h4.ext he⟩
theorem RdPr.plain {w : World} {lo : Nat} {t : Bool} {p : PrD} {cs : Array Value} (h : RdPr w lo t p cs) : RdPr w lo false p cs := by
  obtain ⟨vi, vf, vo, rfl, h1, h2, h3, h4⟩ := h
  exact ⟨vi, vf, vo, rfl, h1, h2.plain, h3.plain, h4.plain⟩
end Go.Proofs.Ytjdficgejjkaoaa
