/- Two facts on bytes as sets, each by all cases. -/
import Derived.Test.YtpkeclkfgfkddaaPlain
namespace Go.Proofs.Ytpkeclkfgfkddaa
theorem or_S8 (f g : Nat → Bool) : bits BinOp.or IntKind.u8 (S8 f) (S8 g) = S8 (fun j => f j || g j) := by
  have key : ∀ a0 a1 a2 a3 a4 a5 a6 a7 b0 b1 b2 b3 b4 b5 b6 b7 : Bool, bits BinOp.or IntKind.u8 (b2i a0 1 + b2i a1 2 + b2i a2 4 + b2i a3 8 + b2i a4 16 + b2i a5 32 + b2i a6 64 + b2i a7 128)
      (b2i b0 1 + b2i b1 2 + b2i b2 4 + b2i b3 8 + b2i b4 16 + b2i b5 32 + b2i b6 64 + b2i b7 128) =
      b2i (a0 || b0) 1 + b2i (a1 || b1) 2 + b2i (a2 || b2) 4 + b2i (a3 || b3) 8 + b2i (a4 || b4) 16 + b2i (a5 || b5) 32 + b2i (a6 || b6) 64 + b2i (a7 || b7) 128 := by decide +kernel
  exact key (f 0) (f 1) (f 2) (f 3) (f 4) (f 5) (f 6) (f 7) (g 0) (g 1) (g 2) (g 3) (g 4) (g 5) (g 6) (g 7)
theorem and_S8 (f g : Nat → Bool) : bits BinOp.and IntKind.u8 (S8 f) (S8 g) = S8 (fun j => f j && g j) := by
  have key : ∀ a0 a1 a2 a3 a4 a5 a6 a7 b0 b1 b2 b3 b4 b5 b6 b7 : Bool, bits BinOp.and IntKind.u8 (b2i a0 1 + b2i a1 2 + b2i a2 4 + b2i a3 8 + b2i a4 16 + b2i a5 32 + b2i a6 64 + b2i a7 128)
      (b2i b0 1 + b2i b1 2 + b2i b2 4 + b2i b3 8 + b2i b4 16 + b2i b5 32 + b2i b6 64 + b2i b7 128) =
      b2i (a0 && b0) 1 + b2i (a1 && b1) 2 + b2i (a2 && b2) 4 + b2i (a3 && b3) 8 + b2i (a4 && b4) 16 + b2i (a5 && b5) 32 + b2i (a6 && b6) 64 + b2i (a7 && b7) 128 := by decide +kernel
  exact key (f 0) (f 1) (f 2) (f 3) (f 4) (f 5) (f 6) (f 7) (g 0) (g 1) (g 2) (g 3) (g 4) (g 5) (g 6) (g 7)
end Go.Proofs.Ytpkeclkfgfkddaa
