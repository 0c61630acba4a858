/- MembersLeave: the walk. -/
import Derived.Test.YtpkeclkfgfkddaaPlay
namespace Go.Proofs.Ytpkeclkfgfkddaa
open Go.RowKit
set_option linter.unusedVariables false

theorem has0_S8 (f : Nat → Bool) (k : Nat) (hk : k < 8) : (bits BinOp.and IntKind.u8 (S8 f / 2 ^ k) 1 == 0) = !f k := by
  have key : ∀ a0 a1 a2 a3 a4 a5 a6 a7 : Bool, ∀ k : Fin 8, (bits BinOp.and IntKind.u8 ((b2i a0 1 + b2i a1 2 + b2i a2 4 + b2i a3 8 + b2i a4 16 + b2i a5 32 + b2i a6 64 + b2i a7 128) / 2 ^ k.val) 1 == 0) = !([a0, a1, a2, a3, a4, a5, a6, a7].getD k.val false) := by decide +kernel
  have := key (f 0) (f 1) (f 2) (f 3) (f 4) (f 5) (f 6) (f 7) ⟨k, hk⟩
  unfold S8
  rw [this]
  rcases eight hk with rfl | rfl | rfl | rfl | rfl | rfl | rfl | rfl <;> rfl
theorem andNot_S8 (f g : Nat → Bool) : bits BinOp.andNot IntKind.u8 (S8 f) (S8 g) = S8 (fun j => f j && !g j) := by
  have key : ∀ a0 a1 a2 a3 a4 a5 a6 a7 b0 b1 b2 b3 b4 b5 b6 b7 : Bool, bits BinOp.andNot IntKind.u8 (b2i a0 1 + b2i a1 2 + b2i a2 4 + b2i a3 8 + b2i a4 16 + b2i a5 32 + b2i a6 64 + b2i a7 128)
      (b2i b0 1 + b2i b1 2 + b2i b2 4 + b2i b3 8 + b2i b4 16 + b2i b5 32 + b2i b6 64 + b2i b7 128) =
      b2i (a0 && !b0) 1 + b2i (a1 && !b1) 2 + b2i (a2 && !b2) 4 + b2i (a3 && !b3) 8 + b2i (a4 && !b4) 16 + b2i (a5 && !b5) 32 + b2i (a6 && !b6) 64 + b2i (a7 && !b7) 128 := by decide +kernel
  exact key (f 0) (f 1) (f 2) (f 3) (f 4) (f 5) (f 6) (f 7) (g 0) (g 1) (g 2) (g 3) (g 4) (g 5) (g 6) (g 7)

/-- Who may stay: nobody who is no member was taken; self is one. -/
structure Keep (s : Nat) (f : Nat → Bool) (r : Nat → Int) : Prop where
  took : ∀ j, j < 8 → r j = 2 → f j = true
  self : S8 f ≠ 0 → f s = true
theorem Keep.heard {n s : Nat} {f : Nat → Bool} {r : Nat → Int} (h : Keep s f r) (st : Int) (came : Bool) (mem : Int) : Keep s f (heardR n s f r st came mem) := by
  refine ⟨fun j hj hr => ?_, h.self⟩
  unfold heardR at hr
  split at hr
  · unfold upd at hr
    split at hr
    · rename_i e
      unfold heardV at hr
      split at hr
      · omega
      · rename_i h2
        rw [e]
        cases hf : f (st - 1).toNat
        · exact absurd (.inr hf) h2
        · rfl
    · exact h.took j hj hr
  · exact h.took j hj hr
theorem Keep.sub {s : Nat} {f : Nat → Bool} {r : Nat → Int} (h : Keep s f r) (hz : S8 f ≠ 0) : ∀ j, j < 8 → endF s r j = true → f j = true := by
  intro j hj he
  unfold endF at he
  split at he
  · simp at he
  · simp only [Bool.or_eq_true, beq_iff_eq] at he
    rcases he with rfl | he
    · exact h.self hz
    · exact h.took j hj he
theorem Keep.end {s : Nat} {f : Nat → Bool} {r : Nat → Int} (hs : s < 8) : Keep s (endF s r) (fun _ => 0) := by
  refine ⟨fun j _ h => by simp at h, fun hz => ?_⟩
  unfold endF at hz ⊢
  split
  · rename_i h
    rw [if_pos h] at hz
    exact absurd ((S8_zero _).2 (fun _ _ => rfl)) hz
  · simp
theorem Keep.cut {s : Nat} {f : Nat → Bool} {r : Nat → Int} (h : Keep s f r) (hz : S8 f ≠ 0) : bits BinOp.andNot IntKind.u8 (S8 (endF s r)) (S8 f) = 0 := by
  rw [andNot_S8, S8_zero]
  intro j hj
  cases he : endF s r j
  · rfl
  · rw [h.sub hz j hj he]; rfl
end Go.Proofs.Ytpkeclkfgfkddaa
