/-
  NARROWER THAN 'FOR EVERY INPUT', by the rows' own cells (each row's printed sentence says how): StartsParts: loops · StartsLess: loops · StartsBegun: loops · StartsAny: loops · TypesParts: loops · TypesChanged: loops · TypesFlows: loops · TypesNames: loops · TypesTurned: loops.
  DERIVED. THE GIVEN ROWS OF THIS SEAT. 10 by the template 'for every input the law returns true; each argument reads behind the call as it read before'; 0 by the template 'total and deterministic' (their statements: YtcbdeoekehkbiaaTotals.lean).
  GIVEN WITH THE SEED: the statements are not yours to turn. If you find one false, say at which input.
  Laid BY PROGRAM, IN A SANDBOX (cutbox-rows.mjs): the forced cells as the released guide's own fill.sh prints them over the translation a5a77b7a971d3d20… (all of the seat's roots in one cut). By AI agents, Wed Nov 11 2026. No macro, syntax, notation, axiom, sorry.
-/
import Derived.Test.YtcbdeoekehkbiaaChecked
import GoSem.Claim
import GoSem.ClaimJoined
import GoSem.ClaimMapViews
import Derived.JoinedTies
import Derived.KernelRfl
namespace Go.Proofs.Ytcbdeoekehkbiaa
/- THE CELL 'sum', in the pinned program and in every row, IS THE sha256 OF THE DUMP (.gsa) THAT YtcbdeoekehkbiaaProg.lean LOADS. Nothing in Lean hashes anything: it is a label: what it is worth is what the hold of that sum in a sandbox is worth. -/
noncomputable def Try.pinned : Pinned := { name := "ytcbdeoekehkbiaa", sum := "a5a77b7a971d3d20b2219428b696be1fddd2d931b5664b27417266c20ce93fdf", checked := Try.checked }
namespace Rows
def none {H : Type} : Left H := { results := [], args := [] }

/-- 'belfrylaw10.StartsRows': WHATEVER THE INPUT: true; the input reads as it did. -/
def startsRowsSpec : ChangeSpec := { name := "startsRows", fn := fun _ => fun
  | [d] => { results := [.lit (.bool true)], args := [d] }
  | _ => none }
def startsRowsRow : OpenClaim := { program := "ytcbdeoekehkbiaa", sum := "a5a77b7a971d3d20b2219428b696be1fddd2d931b5664b27417266c20ce93fdf", func := "belfry/belfrylaw10.StartsRows", spec := "startsRows", unfollowed := true, recurses := true, plainKeys := false, apart := false }
def StartsRowsSaid : Prop := startsRowsRow.holds Try.pinned (OpenSpec.ofChange startsRowsSpec)

/-- ITS FALSE NEIGHBOUR: 'it returns false'. Refute it at one input. -/
def startsRowsWrong : ChangeSpec := { name := "startsRows", fn := fun _ => fun
  | [d] => { results := [.lit (.bool false)], args := [d] }
  | _ => none }
def StartsRowsWrongFalsely : Prop := startsRowsRow.holds Try.pinned (OpenSpec.ofChange startsRowsWrong)

/-- 'belfrylaw10.StartsParts': WHATEVER THE INPUT: true; the input reads as it did. -/
def startsPartsSpec : ChangeSpec := { name := "startsParts", fn := fun _ => fun
  | [d1, d2] => { results := [.lit (.bool true)], args := [d1, d2] }
  | _ => none }
def startsPartsRow : OpenClaim := { program := "ytcbdeoekehkbiaa", sum := "a5a77b7a971d3d20b2219428b696be1fddd2d931b5664b27417266c20ce93fdf", func := "belfry/belfrylaw10.StartsParts", spec := "startsParts", unfollowed := true, recurses := true, loops := true, plainKeys := false, apart := false }
def StartsPartsSaid : Prop := startsPartsRow.holds Try.pinned (OpenSpec.ofChange startsPartsSpec)

/-- ITS FALSE NEIGHBOUR: 'it returns false'. Refute it at one input. -/
def startsPartsWrong : ChangeSpec := { name := "startsParts", fn := fun _ => fun
  | [d1, d2] => { results := [.lit (.bool false)], args := [d1, d2] }
  | _ => none }
def StartsPartsWrongFalsely : Prop := startsPartsRow.holds Try.pinned (OpenSpec.ofChange startsPartsWrong)

/-- 'belfrylaw10.StartsLess': WHATEVER THE INPUT: true; the input reads as it did. -/
def startsLessSpec : ChangeSpec := { name := "startsLess", fn := fun _ => fun
  | [d1, d2, d3] => { results := [.lit (.bool true)], args := [d1, d2, d3] }
  | _ => none }
def startsLessRow : OpenClaim := { program := "ytcbdeoekehkbiaa", sum := "a5a77b7a971d3d20b2219428b696be1fddd2d931b5664b27417266c20ce93fdf", func := "belfry/belfrylaw10.StartsLess", spec := "startsLess", unfollowed := true, recurses := true, loops := true, plainKeys := false, apart := false }
def StartsLessSaid : Prop := startsLessRow.holds Try.pinned (OpenSpec.ofChange startsLessSpec)

/-- ITS FALSE NEIGHBOUR: 'it returns false'. Refute it at one input. -/
def startsLessWrong : ChangeSpec := { name := "startsLess", fn := fun _ => fun
  | [d1, d2, d3] => { results := [.lit (.bool false)], args := [d1, d2, d3] }
  | _ => none }
def StartsLessWrongFalsely : Prop := startsLessRow.holds Try.pinned (OpenSpec.ofChange startsLessWrong)

/-- 'belfrylaw10.StartsBegun': WHATEVER THE INPUT: true; the input reads as it did. -/
def startsBegunSpec : ChangeSpec := { name := "startsBegun", fn := fun _ => fun
  | [d1, d2] => { results := [.lit (.bool true)], args := [d1, d2] }
  | _ => none }
def startsBegunRow : OpenClaim := { program := "ytcbdeoekehkbiaa", sum := "a5a77b7a971d3d20b2219428b696be1fddd2d931b5664b27417266c20ce93fdf", func := "belfry/belfrylaw10.StartsBegun", spec := "startsBegun", unfollowed := true, recurses := true, loops := true, plainKeys := false, apart := false }
def StartsBegunSaid : Prop := startsBegunRow.holds Try.pinned (OpenSpec.ofChange startsBegunSpec)

/-- ITS FALSE NEIGHBOUR: 'it returns false'. Refute it at one input. -/
def startsBegunWrong : ChangeSpec := { name := "startsBegun", fn := fun _ => fun
  | [d1, d2] => { results := [.lit (.bool false)], args := [d1, d2] }
  | _ => none }
def StartsBegunWrongFalsely : Prop := startsBegunRow.holds Try.pinned (OpenSpec.ofChange startsBegunWrong)

/-- 'belfrylaw10.StartsAny': WHATEVER THE INPUT: true; the input reads as it did. -/
def startsAnySpec : ChangeSpec := { name := "startsAny", fn := fun _ => fun
  | [d1, d2] => { results := [.lit (.bool true)], args := [d1, d2] }
  | _ => none }
def startsAnyRow : OpenClaim := { program := "ytcbdeoekehkbiaa", sum := "a5a77b7a971d3d20b2219428b696be1fddd2d931b5664b27417266c20ce93fdf", func := "belfry/belfrylaw10.StartsAny", spec := "startsAny", unfollowed := true, recurses := true, loops := true, plainKeys := false, apart := false }
def StartsAnySaid : Prop := startsAnyRow.holds Try.pinned (OpenSpec.ofChange startsAnySpec)

/-- ITS FALSE NEIGHBOUR: 'it returns false'. Refute it at one input. -/
def startsAnyWrong : ChangeSpec := { name := "startsAny", fn := fun _ => fun
  | [d1, d2] => { results := [.lit (.bool false)], args := [d1, d2] }
  | _ => none }
def StartsAnyWrongFalsely : Prop := startsAnyRow.holds Try.pinned (OpenSpec.ofChange startsAnyWrong)

/-- 'belfrylaw08.TypesParts': WHATEVER THE INPUT: true; the input reads as it did. -/
def typesPartsSpec : ChangeSpec := { name := "typesParts", fn := fun _ => fun
  | [d1, d2] => { results := [.lit (.bool true)], args := [d1, d2] }
  | _ => none }
def typesPartsRow : OpenClaim := { program := "ytcbdeoekehkbiaa", sum := "a5a77b7a971d3d20b2219428b696be1fddd2d931b5664b27417266c20ce93fdf", func := "belfry/belfrylaw08.TypesParts", spec := "typesParts", unfollowed := true, recurses := true, loops := true, plainKeys := false, apart := false }
def TypesPartsSaid : Prop := typesPartsRow.holds Try.pinned (OpenSpec.ofChange typesPartsSpec)

/-- ITS FALSE NEIGHBOUR: 'it returns false'. Refute it at one input. -/
def typesPartsWrong : ChangeSpec := { name := "typesParts", fn := fun _ => fun
  | [d1, d2] => { results := [.lit (.bool false)], args := [d1, d2] }
  | _ => none }
def TypesPartsWrongFalsely : Prop := typesPartsRow.holds Try.pinned (OpenSpec.ofChange typesPartsWrong)

/-- 'belfrylaw08.TypesChanged': WHATEVER THE INPUT: true; the input reads as it did. -/
def typesChangedSpec : ChangeSpec := { name := "typesChanged", fn := fun _ => fun
  | [d1, d2, d3] => { results := [.lit (.bool true)], args := [d1, d2, d3] }
  | _ => none }
def typesChangedRow : OpenClaim := { program := "ytcbdeoekehkbiaa", sum := "a5a77b7a971d3d20b2219428b696be1fddd2d931b5664b27417266c20ce93fdf", func := "belfry/belfrylaw08.TypesChanged", spec := "typesChanged", unfollowed := true, recurses := true, loops := true, plainKeys := false, apart := false }
def TypesChangedSaid : Prop := typesChangedRow.holds Try.pinned (OpenSpec.ofChange typesChangedSpec)

/-- ITS FALSE NEIGHBOUR: 'it returns false'. Refute it at one input. -/
def typesChangedWrong : ChangeSpec := { name := "typesChanged", fn := fun _ => fun
  | [d1, d2, d3] => { results := [.lit (.bool false)], args := [d1, d2, d3] }
  | _ => none }
def TypesChangedWrongFalsely : Prop := typesChangedRow.holds Try.pinned (OpenSpec.ofChange typesChangedWrong)

/-- 'belfrylaw08.TypesFlows': WHATEVER THE INPUT: true; the input reads as it did. -/
def typesFlowsSpec : ChangeSpec := { name := "typesFlows", fn := fun _ => fun
  | [d1, d2] => { results := [.lit (.bool true)], args := [d1, d2] }
  | _ => none }
def typesFlowsRow : OpenClaim := { program := "ytcbdeoekehkbiaa", sum := "a5a77b7a971d3d20b2219428b696be1fddd2d931b5664b27417266c20ce93fdf", func := "belfry/belfrylaw08.TypesFlows", spec := "typesFlows", unfollowed := true, recurses := true, loops := true, plainKeys := false, apart := false }
def TypesFlowsSaid : Prop := typesFlowsRow.holds Try.pinned (OpenSpec.ofChange typesFlowsSpec)

/-- ITS FALSE NEIGHBOUR: 'it returns false'. Refute it at one input. -/
def typesFlowsWrong : ChangeSpec := { name := "typesFlows", fn := fun _ => fun
  | [d1, d2] => { results := [.lit (.bool false)], args := [d1, d2] }
  | _ => none }
def TypesFlowsWrongFalsely : Prop := typesFlowsRow.holds Try.pinned (OpenSpec.ofChange typesFlowsWrong)

/-- 'belfrylaw08.TypesNames': WHATEVER THE INPUT: true; the input reads as it did. -/
def typesNamesSpec : ChangeSpec := { name := "typesNames", fn := fun _ => fun
  | [d1, d2, d3] => { results := [.lit (.bool true)], args := [d1, d2, d3] }
  | _ => none }
def typesNamesRow : OpenClaim := { program := "ytcbdeoekehkbiaa", sum := "a5a77b7a971d3d20b2219428b696be1fddd2d931b5664b27417266c20ce93fdf", func := "belfry/belfrylaw08.TypesNames", spec := "typesNames", unfollowed := true, recurses := true, loops := true, plainKeys := false, apart := false }
def TypesNamesSaid : Prop := typesNamesRow.holds Try.pinned (OpenSpec.ofChange typesNamesSpec)

/-- ITS FALSE NEIGHBOUR: 'it returns false'. Refute it at one input. -/
def typesNamesWrong : ChangeSpec := { name := "typesNames", fn := fun _ => fun
  | [d1, d2, d3] => { results := [.lit (.bool false)], args := [d1, d2, d3] }
  | _ => none }
def TypesNamesWrongFalsely : Prop := typesNamesRow.holds Try.pinned (OpenSpec.ofChange typesNamesWrong)

/-- 'belfrylaw08.TypesTurned': WHATEVER THE INPUT: true; the input reads as it did. -/
def typesTurnedSpec : ChangeSpec := { name := "typesTurned", fn := fun _ => fun
  | [d] => { results := [.lit (.bool true)], args := [d] }
  | _ => none }
def typesTurnedRow : OpenClaim := { program := "ytcbdeoekehkbiaa", sum := "a5a77b7a971d3d20b2219428b696be1fddd2d931b5664b27417266c20ce93fdf", func := "belfry/belfrylaw08.TypesTurned", spec := "typesTurned", unfollowed := true, recurses := true, loops := true, plainKeys := false, apart := false }
def TypesTurnedSaid : Prop := typesTurnedRow.holds Try.pinned (OpenSpec.ofChange typesTurnedSpec)

/-- ITS FALSE NEIGHBOUR: 'it returns false'. Refute it at one input. -/
def typesTurnedWrong : ChangeSpec := { name := "typesTurned", fn := fun _ => fun
  | [d] => { results := [.lit (.bool false)], args := [d] }
  | _ => none }
def TypesTurnedWrongFalsely : Prop := typesTurnedRow.holds Try.pinned (OpenSpec.ofChange typesTurnedWrong)

/- THE SECOND FORM. 'bulk': how many values and letters a reading holds, each counted each time it is reached (what is shared counts as often as it is met; a slice's spare places count too). A statement '..UptoSaid' is the law's where the arguments, and the package variables that the reading takes, are together of bulk at most 1048576: NARROWER than '..Said'. Prove '..Said' where nothing that the law and all that it calls make is longer than what came in: it says more and counts as full. Else prove '..UptoSaid'. A law counts once. -/
mutual
def uptoBulk {H : Type} : DataW H → Nat
  | .lit (.string bytes) => bytes.length + 1
  | .lit _ => 1
  | .nil => 1
  | .ptr d => uptoBulk d + 1
  | .slice elems spare => uptoBulkAll elems + uptoBulkAll spare + 1
  | .agg parts => uptoBulkAll parts + 1
  | .iface _ d => uptoBulk d + 1
  | .map entries => uptoBulkEntries entries + 1
  | .held _ => 1
def uptoBulkAll {H : Type} : List (DataW H) → Nat
  | [] => 0
  | d :: r => uptoBulk d + uptoBulkAll r
def uptoBulkEntries {H : Type} : List (Lit × DataW H) → Nat
  | [] => 0
  | x :: r => uptoBulkEntry x + uptoBulkEntries r
def uptoBulkEntry {H : Type} : Lit × DataW H → Nat
  | (.string bytes, d) => bytes.length + uptoBulk d + 1
  | (_, d) => uptoBulk d + 1
 end
def uptoSmall : (H : Type) → List (DataW H) → Bool := fun _ ds => decide (uptoBulkAll ds ≤ 1048576)
def OpenSpec.upto (s : _root_.Go.ChangeSpec) : _root_.Go.OpenSpec := { _root_.Go.OpenSpec.ofChange s with cond := some uptoSmall }

/-- 'belfrylaw10.StartsRows', WHERE WHAT IT READS IS OF BULK AT MOST 1048576: true; the input reads as it did. -/
def startsRowsUptoRow : OpenClaim := { program := "ytcbdeoekehkbiaa", sum := "a5a77b7a971d3d20b2219428b696be1fddd2d931b5664b27417266c20ce93fdf", func := "belfry/belfrylaw10.StartsRows", spec := "startsRows", unfollowed := true, recurses := true, plainKeys := false, apart := false, narrowed := true }
def StartsRowsUptoSaid : Prop := startsRowsUptoRow.holds Try.pinned (OpenSpec.upto startsRowsSpec)

/-- 'belfrylaw10.StartsParts', WHERE WHAT IT READS IS OF BULK AT MOST 1048576: true; the input reads as it did. -/
def startsPartsUptoRow : OpenClaim := { program := "ytcbdeoekehkbiaa", sum := "a5a77b7a971d3d20b2219428b696be1fddd2d931b5664b27417266c20ce93fdf", func := "belfry/belfrylaw10.StartsParts", spec := "startsParts", unfollowed := true, recurses := true, loops := true, plainKeys := false, apart := false, narrowed := true }
def StartsPartsUptoSaid : Prop := startsPartsUptoRow.holds Try.pinned (OpenSpec.upto startsPartsSpec)

/-- 'belfrylaw10.StartsLess', WHERE WHAT IT READS IS OF BULK AT MOST 1048576: true; the input reads as it did. -/
def startsLessUptoRow : OpenClaim := { program := "ytcbdeoekehkbiaa", sum := "a5a77b7a971d3d20b2219428b696be1fddd2d931b5664b27417266c20ce93fdf", func := "belfry/belfrylaw10.StartsLess", spec := "startsLess", unfollowed := true, recurses := true, loops := true, plainKeys := false, apart := false, narrowed := true }
def StartsLessUptoSaid : Prop := startsLessUptoRow.holds Try.pinned (OpenSpec.upto startsLessSpec)

/-- 'belfrylaw10.StartsBegun', WHERE WHAT IT READS IS OF BULK AT MOST 1048576: true; the input reads as it did. -/
def startsBegunUptoRow : OpenClaim := { program := "ytcbdeoekehkbiaa", sum := "a5a77b7a971d3d20b2219428b696be1fddd2d931b5664b27417266c20ce93fdf", func := "belfry/belfrylaw10.StartsBegun", spec := "startsBegun", unfollowed := true, recurses := true, loops := true, plainKeys := false, apart := false, narrowed := true }
def StartsBegunUptoSaid : Prop := startsBegunUptoRow.holds Try.pinned (OpenSpec.upto startsBegunSpec)

/-- 'belfrylaw10.StartsAny', WHERE WHAT IT READS IS OF BULK AT MOST 1048576: true; the input reads as it did. -/
def startsAnyUptoRow : OpenClaim := { program := "ytcbdeoekehkbiaa", sum := "a5a77b7a971d3d20b2219428b696be1fddd2d931b5664b27417266c20ce93fdf", func := "belfry/belfrylaw10.StartsAny", spec := "startsAny", unfollowed := true, recurses := true, loops := true, plainKeys := false, apart := false, narrowed := true }
def StartsAnyUptoSaid : Prop := startsAnyUptoRow.holds Try.pinned (OpenSpec.upto startsAnySpec)

/-- 'belfrylaw08.TypesParts', WHERE WHAT IT READS IS OF BULK AT MOST 1048576: true; the input reads as it did. -/
def typesPartsUptoRow : OpenClaim := { program := "ytcbdeoekehkbiaa", sum := "a5a77b7a971d3d20b2219428b696be1fddd2d931b5664b27417266c20ce93fdf", func := "belfry/belfrylaw08.TypesParts", spec := "typesParts", unfollowed := true, recurses := true, loops := true, plainKeys := false, apart := false, narrowed := true }
def TypesPartsUptoSaid : Prop := typesPartsUptoRow.holds Try.pinned (OpenSpec.upto typesPartsSpec)

/-- 'belfrylaw08.TypesChanged', WHERE WHAT IT READS IS OF BULK AT MOST 1048576: true; the input reads as it did. -/
def typesChangedUptoRow : OpenClaim := { program := "ytcbdeoekehkbiaa", sum := "a5a77b7a971d3d20b2219428b696be1fddd2d931b5664b27417266c20ce93fdf", func := "belfry/belfrylaw08.TypesChanged", spec := "typesChanged", unfollowed := true, recurses := true, loops := true, plainKeys := false, apart := false, narrowed := true }
def TypesChangedUptoSaid : Prop := typesChangedUptoRow.holds Try.pinned (OpenSpec.upto typesChangedSpec)

/-- 'belfrylaw08.TypesFlows', WHERE WHAT IT READS IS OF BULK AT MOST 1048576: true; the input reads as it did. -/
def typesFlowsUptoRow : OpenClaim := { program := "ytcbdeoekehkbiaa", sum := "a5a77b7a971d3d20b2219428b696be1fddd2d931b5664b27417266c20ce93fdf", func := "belfry/belfrylaw08.TypesFlows", spec := "typesFlows", unfollowed := true, recurses := true, loops := true, plainKeys := false, apart := false, narrowed := true }
def TypesFlowsUptoSaid : Prop := typesFlowsUptoRow.holds Try.pinned (OpenSpec.upto typesFlowsSpec)

/-- 'belfrylaw08.TypesNames', WHERE WHAT IT READS IS OF BULK AT MOST 1048576: true; the input reads as it did. -/
def typesNamesUptoRow : OpenClaim := { program := "ytcbdeoekehkbiaa", sum := "a5a77b7a971d3d20b2219428b696be1fddd2d931b5664b27417266c20ce93fdf", func := "belfry/belfrylaw08.TypesNames", spec := "typesNames", unfollowed := true, recurses := true, loops := true, plainKeys := false, apart := false, narrowed := true }
def TypesNamesUptoSaid : Prop := typesNamesUptoRow.holds Try.pinned (OpenSpec.upto typesNamesSpec)

/-- 'belfrylaw08.TypesTurned', WHERE WHAT IT READS IS OF BULK AT MOST 1048576: true; the input reads as it did. -/
def typesTurnedUptoRow : OpenClaim := { program := "ytcbdeoekehkbiaa", sum := "a5a77b7a971d3d20b2219428b696be1fddd2d931b5664b27417266c20ce93fdf", func := "belfry/belfrylaw08.TypesTurned", spec := "typesTurned", unfollowed := true, recurses := true, loops := true, plainKeys := false, apart := false, narrowed := true }
def TypesTurnedUptoSaid : Prop := typesTurnedUptoRow.holds Try.pinned (OpenSpec.upto typesTurnedSpec)

end Rows
end Go.Proofs.Ytcbdeoekehkbiaa
