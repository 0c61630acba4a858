/- MembersSame: plain facts on sets as bytes. -/
import Derived.Test.YtpkeclkfgfkddaaSim
import Derived.Test.YtpkeclkfgfkddaaBits
namespace Go.Proofs.Ytpkeclkfgfkddaa
open Go.RowKit
set_option linter.unusedVariables false

theorem has0_S8' (f : Nat → Bool) (k : Nat) (hk : k < 8) : (bits BinOp.and IntKind.u8 (S8 f / 2 ^ k) 1 == 0) = !f k := by
  have key : ∀ a0 a1 a2 a3 a4 a5 a6 a7 : Bool, ∀ k : Fin 8, (bits BinOp.and IntKind.u8 ((b2i a0 1 + b2i a1 2 + b2i a2 4 + b2i a3 8 + b2i a4 16 + b2i a5 32 + b2i a6 64 + b2i a7 128) / 2 ^ k.val) 1 == 0) = !([a0, a1, a2, a3, a4, a5, a6, a7].getD k.val false) := by decide +kernel
  have := key (f 0) (f 1) (f 2) (f 3) (f 4) (f 5) (f 6) (f 7) ⟨k, hk⟩
  unfold S8
  rw [this]
  rcases eight hk with rfl | rfl | rfl | rfl | rfl | rfl | rfl | rfl <;> rfl
theorem S8_all : ∀ x : Int, 0 ≤ x → x ≤ 255 → ∃ f, x = S8 f := by
  have key : ∀ x : Fin 256, (x.val : Int) = S8 (fun j => decide (x.val / 2 ^ j % 2 = 1)) := by decide +kernel
  intro x h0 h1
  have := key ⟨x.toNat, by omega⟩
  refine ⟨fun j => decide (x.toNat / 2 ^ j % 2 = 1), ?_⟩
  rw [← this]; simp; omega
theorem not_S8 (f : Nat → Bool) : 255 - S8 f = S8 (fun j => !f j) := by
  have key : ∀ a0 a1 a2 a3 a4 a5 a6 a7 : Bool, 255 - (b2i a0 1 + b2i a1 2 + b2i a2 4 + b2i a3 8 + b2i a4 16 + b2i a5 32 + b2i a6 64 + b2i a7 128) =
      b2i (!a0) 1 + b2i (!a1) 2 + b2i (!a2) 4 + b2i (!a3) 8 + b2i (!a4) 16 + b2i (!a5) 32 + b2i (!a6) 64 + b2i (!a7) 128 := by decide +kernel
  exact key (f 0) (f 1) (f 2) (f 3) (f 4) (f 5) (f 6) (f 7)

/-- Who is not silent. -/
def loud (n : Nat) (sil : Nat → Bool) : Nat → Bool := fun j => decide (j < n) && !sil j
/-- What a group was told by the first j stations. -/
def toldBy (k : Nat) (sil : Nat → Bool) (j : Nat) : Nat → Int := fun q => if q < j ∧ q ≠ k then (if sil q then 1 else 2) else 0
theorem toldBy_zero (k : Nat) (sil : Nat → Bool) : toldBy k sil 0 = fun _ => 0 := by funext q; unfold toldBy; rw [if_neg (by omega)]
theorem toldBy_self (k : Nat) (sil : Nat → Bool) : toldBy k sil (k + 1) = toldBy k sil k := by
  funext q; unfold toldBy
  by_cases h : q < k ∧ q ≠ k
  · rw [if_pos h, if_pos (by omega)]
  · rw [if_neg h, if_neg (by omega)]
theorem toldBy_step (k : Nat) (sil : Nat → Bool) (j : Nat) (hj : j ≠ k) : upd (toldBy k sil j) j (if sil j then 1 else 2) = toldBy k sil (j + 1) := by
  funext q; unfold upd toldBy
  by_cases e : q = j
  · subst e; rw [if_pos rfl, if_pos (show q < q + 1 ∧ q ≠ k from ⟨by omega, hj⟩)]
  · rw [if_neg e]
    by_cases h : q < j ∧ q ≠ k
    · rw [if_pos h, if_pos (show q < j + 1 ∧ q ≠ k from ⟨by omega, h.2⟩)]
    · rw [if_neg h, if_neg (show ¬ (q < j + 1 ∧ q ≠ k) from fun h' => h ⟨by omega, h'.2⟩)]
theorem cnt_none (r : Nat → Int) (x : Int) (h : ∀ j, r j ≠ x) : ∀ i, cnt r x i = 0
  | 0 => rfl
  | i + 1 => by unfold cnt; rw [cnt_none r x h i, if_neg (h i)]; rfl
theorem toldBy_ne (k : Nat) (sil : Nat → Bool) (n j : Nat) : toldBy k sil n j ≠ 3 := by
  unfold toldBy
  split
  · split <;> omega
  · omega
theorem endF_told (n k : Nat) (sil : Nat → Bool) (hk : k < n) (hs : sil k = false) : endF k (toldBy k sil n) = loud n sil := by
  unfold endF
  have h3 : cnt (toldBy k sil n) 3 8 = 0 := cnt_none _ _ (toldBy_ne k sil n) 8
  have h2 := cnt_range (toldBy k sil n) 2 8
  rw [if_neg (by omega)]
  funext j
  unfold loud toldBy
  by_cases e : j = k
  · subst e; simp [hs, hk]
  · by_cases hj : j < n
    · rw [if_pos ⟨hj, e⟩]; cases sil j <;> simp [hj, e]
    · rw [if_neg (by omega)]; simp [hj, e]
theorem xor_not_S8 (f : Nat → Bool) : bits BinOp.xor IntKind.u8 (if IntKind.u8.signed = true then -1 else IntKind.u8.max) (S8 f) = 255 - S8 f := by
  have key : ∀ a0 a1 a2 a3 a4 a5 a6 a7 : Bool, bits BinOp.xor IntKind.u8 (if IntKind.u8.signed = true then -1 else IntKind.u8.max) (b2i a0 1 + b2i a1 2 + b2i a2 4 + b2i a3 8 + b2i a4 16 + b2i a5 32 + b2i a6 64 + b2i a7 128) =
      255 - (b2i a0 1 + b2i a1 2 + b2i a2 4 + b2i a3 8 + b2i a4 16 + b2i a5 32 + b2i a6 64 + b2i a7 128) := by decide +kernel
  exact key (f 0) (f 1) (f 2) (f 3) (f 4) (f 5) (f 6) (f 7)
theorem loud_S8 (n : Nat) (sil : Nat → Bool) (h1 : 1 ≤ n) (h8 : n ≤ 8) : bits BinOp.and IntKind.u8 (255 - S8 sil) (IntKind.u8.wrap ((2 ^ n % 256 : Int) - 1)) = S8 (loud n sil) := by
  rw [not_S8, S8_full n h1 h8, and_S8]
  exact S8_congr fun j _ => by unfold loud; cases sil j <;> simp
theorem loud_test (n : Nat) (sil : Nat → Bool) (h1 : 1 ≤ n) (h8 : n ≤ 8) :
    (S8 (loud n sil) != bits BinOp.and IntKind.u8 (bits BinOp.xor IntKind.u8 (if IntKind.u8.signed = true then -1 else IntKind.u8.max) (S8 sil)) ((2 ^ n - 1) % 256)) = false := by
  have e : ((2 : Int) ^ n - 1) % 256 = IntKind.u8.wrap (2 ^ n % 256 - 1) := by
    show _ = (2 ^ n % 256 - 1) % 256
    omega
  rw [xor_not_S8, e, loud_S8 n sil h1 h8]
  simp
end Go.Proofs.Ytpkeclkfgfkddaa
