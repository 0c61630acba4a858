/- What the laws need besides. -/
import Derived.Test.YtgkbhonjodcakaaJ0
import Derived.Test.YtgkbhonjodcakaaJ1
import Derived.Test.YtgkbhonjodcakaaJ2
import Derived.Test.YtgkbhonjodcakaaJ3
import Derived.Test.YtgkbhonjodcakaaJ4
import Derived.Test.YtgkbhonjodcakaaJ5
import Derived.Test.YtgkbhonjodcakaaJ6
import Derived.Test.YtgkbhonjodcakaaJ7
import Derived.Test.YtgkbhonjodcakaaJ8
import Derived.Test.YtgkbhonjodcakaaJ9
import Derived.Test.YtgkbhonjodcakaaJ10
import Derived.Test.YtgkbhonjodcakaaJ11
import Derived.Test.YtgkbhonjodcakaaJ12
import Derived.Test.YtgkbhonjodcakaaJ13
import Derived.Test.YtgkbhonjodcakaaJ14
import Derived.Test.YtgkbhonjodcakaaJ15
import Derived.Test.YtgkbhonjodcakaaJ16
import Derived.Test.YtgkbhonjodcakaaJ17
namespace Go.Proofs.Ytgkbhonjodcakaa
open Go.RowKit

namespace Chg
variable {S T : Nat → Prop} {w w1 w2 : World}
end Chg

theorem Chg.of_alloc_grown {w w1 : World} {o : Obj} {g : Nat} (hg : (w.alloc o).grownBy w1 (some g)) : Chg (fun q => q = g) w w1 :=
  ⟨hg.os, hg.tape, hg.output, by have := hg.size; simp at this; omega, fun k hk hn => (hg.block k (by simp; omega) (fun e => hn (by simpa using e))).trans (Below.heap_alloc _ _ _ hk)⟩
end Go.Proofs.Ytgkbhonjodcakaa

namespace Go.Proofs.Ytgkbhonjodcakaa
open Go.RowKit
set_option linter.unusedVariables false
theorem spare_same : (spareS.toList == [115, 112, 97, 114, 101]) = true := by decide +kernel
end Go.Proofs.Ytgkbhonjodcakaa

namespace Go.Proofs.Ytgkbhonjodcakaa
open Go.RowKit
set_option linter.unusedVariables false

theorem flat_take {α : Type} (f : α → List Value) (l : List α) (k : Nat) (h : k < l.length) : (l.take (k + 1)).flatMap f = (l.take k).flatMap f ++ f l[k] := by
  rw [List.take_succ_eq_append_getElem h, List.flatMap_append]; simp

end Go.Proofs.Ytgkbhonjodcakaa

