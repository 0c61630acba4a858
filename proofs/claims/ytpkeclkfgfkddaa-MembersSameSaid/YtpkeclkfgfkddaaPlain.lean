/- Plain facts on sets of eight stations as bytes. -/
import Derived.WalkKit
namespace Go.Proofs.Ytpkeclkfgfkddaa

def b2i (b : Bool) (n : Int) : Int := if b then n else 0
/-- A set of stations, from 0 on, as a byte. -/
def S8 (f : Nat → Bool) : Int := b2i (f 0) 1 + b2i (f 1) 2 + b2i (f 2) 4 + b2i (f 3) 8 + b2i (f 4) 16 + b2i (f 5) 32 + b2i (f 6) 64 + b2i (f 7) 128
theorem b2i_le (b : Bool) (n : Int) (h : 0 ≤ n) : 0 ≤ b2i b n ∧ b2i b n ≤ n := by unfold b2i; split <;> omega
theorem S8_range (f : Nat → Bool) : 0 ≤ S8 f ∧ S8 f ≤ 255 := by
  have h0 := b2i_le (f 0) 1 (by omega); have h1 := b2i_le (f 1) 2 (by omega); have h2 := b2i_le (f 2) 4 (by omega); have h3 := b2i_le (f 3) 8 (by omega)
  have h4 := b2i_le (f 4) 16 (by omega); have h5 := b2i_le (f 5) 32 (by omega); have h6 := b2i_le (f 6) 64 (by omega); have h7 := b2i_le (f 7) 128 (by omega)
  unfold S8; omega
theorem eight {k : Nat} (h : k < 8) : k = 0 ∨ k = 1 ∨ k = 2 ∨ k = 3 ∨ k = 4 ∨ k = 5 ∨ k = 6 ∨ k = 7 := by omega
theorem S8_congr {f g : Nat → Bool} (h : ∀ j, j < 8 → f j = g j) : S8 f = S8 g := by
  unfold S8; rw [h 0 (by omega), h 1 (by omega), h 2 (by omega), h 3 (by omega), h 4 (by omega), h 5 (by omega), h 6 (by omega), h 7 (by omega)]
theorem has_S8 (f : Nat → Bool) (k : Nat) (hk : k < 8) : (bits BinOp.and IntKind.u8 (S8 f / 2 ^ k) 1 == 1) = f k := by
  have key : ∀ a0 a1 a2 a3 a4 a5 a6 a7 : Bool, ∀ k : Fin 8, (bits BinOp.and IntKind.u8 ((b2i a0 1 + b2i a1 2 + b2i a2 4 + b2i a3 8 + b2i a4 16 + b2i a5 32 + b2i a6 64 + b2i a7 128) / 2 ^ k.val) 1 == 1) = [a0, a1, a2, a3, a4, a5, a6, a7].getD k.val false := by decide +kernel
  have := key (f 0) (f 1) (f 2) (f 3) (f 4) (f 5) (f 6) (f 7) ⟨k, hk⟩
  unfold S8
  rw [this]
  rcases eight hk with rfl | rfl | rfl | rfl | rfl | rfl | rfl | rfl <;> rfl
theorem with_S8 (f : Nat → Bool) (k : Nat) (hk : k < 8) : bits BinOp.or IntKind.u8 (S8 f) (2 ^ k % 256) = S8 (fun j => f j || j == k) := by
  have key : ∀ a0 a1 a2 a3 a4 a5 a6 a7 : Bool, ∀ k : Fin 8, bits BinOp.or IntKind.u8 (b2i a0 1 + b2i a1 2 + b2i a2 4 + b2i a3 8 + b2i a4 16 + b2i a5 32 + b2i a6 64 + b2i a7 128) (2 ^ k.val % 256) =
      b2i (a0 || 0 == k.val) 1 + b2i (a1 || 1 == k.val) 2 + b2i (a2 || 2 == k.val) 4 + b2i (a3 || 3 == k.val) 8 + b2i (a4 || 4 == k.val) 16 + b2i (a5 || 5 == k.val) 32 + b2i (a6 || 6 == k.val) 64 + b2i (a7 || 7 == k.val) 128 := by decide +kernel
  exact key (f 0) (f 1) (f 2) (f 3) (f 4) (f 5) (f 6) (f 7) ⟨k, hk⟩
theorem S8_inj {f g : Nat → Bool} (h : S8 f = S8 g) : ∀ j, j < 8 → f j = g j := fun j hj => by rw [← has_S8 f j hj, ← has_S8 g j hj, h]
theorem S8_zero (f : Nat → Bool) : S8 f = 0 ↔ ∀ j, j < 8 → f j = false := by
  have e : S8 (fun _ => false) = 0 := by decide
  constructor
  · intro h; exact S8_inj (h.trans e.symm)
  · intro h; rw [← e]; exact S8_congr h
theorem S8_full : ∀ n : Nat, 1 ≤ n → n ≤ 8 → IntKind.u8.wrap ((2 ^ n % 256 : Int) - 1) = S8 (fun j => decide (j < n)) := by
  have key : ∀ n : Fin 8, IntKind.u8.wrap ((2 ^ (n.val + 1) % 256 : Int) - 1) = S8 (fun j => decide (j < n.val + 1)) := by decide +kernel
  intro n h1 h8
  have := key ⟨n - 1, by omega⟩
  simpa [show n - 1 + 1 = n from by omega] using this

/-- One place of a row turned. -/
def upd {α : Type} (r : Nat → α) (k : Nat) (x : α) : Nat → α := fun j => if j = k then x else r j

/-- How many of the first i places hold x. -/
def cnt (r : Nat → Int) (x : Int) : Nat → Int
  | 0 => 0
  | i + 1 => cnt r x i + (if r i = x then 1 else 0)
theorem cnt_range (r : Nat → Int) (x : Int) : ∀ i : Nat, 0 ≤ cnt r x i ∧ cnt r x i ≤ i
  | 0 => by simp [cnt]
  | i + 1 => by have := cnt_range r x i; unfold cnt; split <;> omega

/-! The code's group: n stations, self (from 0 on), its members, what it was told. -/
def heardC (n s : Nat) (f : Nat → Bool) (r : Nat → Int) (st : Int) : Int :=
  if S8 f = 0 then 11 else if st < 1 ∨ (n : Int) < st ∨ st = (s : Int) + 1 then 1 else if r (st - 1).toNat ≠ 0 then 11 else 0
def heardV (f : Nat → Bool) (k : Nat) (came : Bool) (mem : Int) : Int := if came = false ∨ f k = false then 1 else if mem = S8 f then 2 else 3
def heardR (n s : Nat) (f : Nat → Bool) (r : Nat → Int) (st : Int) (came : Bool) (mem : Int) : Nat → Int :=
  if heardC n s f r st = 0 then upd r (st - 1).toNat (heardV f (st - 1).toNat came mem) else r
/-- Who is left at a round's end. -/
def endF (s : Nat) (r : Nat → Int) : Nat → Bool :=
  if 1 + cnt r 2 8 ≤ cnt r 3 8 then fun _ => false else fun j => j == s || r j == 2
end Go.Proofs.Ytpkeclkfgfkddaa
