/-
  NARROWER THAN 'FOR EVERY INPUT', by the rows' own cells (each row's printed sentence says how): StartsOf: loops · TypesOf: loops · StartsChecks: loops · TypesChecks: loops.
  DERIVED. THE GIVEN ROWS OF THIS SEAT. 4 by the template 'for every input the law returns true; each argument reads behind the call as it read before'; 0 by the template 'total and deterministic' (their statements: YtgfidgbkklideaaTotals.lean).
  GIVEN WITH THE SEED: the statements are not yours to turn. If you find one false, say at which input.
  Laid BY PROGRAM, IN A SANDBOX (cutbox-rows.mjs): the forced cells as the released guide's own fill.sh prints them over the translation 83857ca0c41bbda4… (all of the seat's roots in one cut). By AI agents, Wed Nov 11 2026. No macro, syntax, notation, axiom, sorry.
-/
import Derived.Test.YtgfidgbkklideaaChecked
import GoSem.Claim
import GoSem.ClaimJoined
import GoSem.ClaimMapViews
import Derived.JoinedTies
import Derived.KernelRfl
namespace Go.Proofs.Ytgfidgbkklideaa
/- THE CELL 'sum', in the pinned program and in every row, IS THE sha256 OF THE DUMP (.gsa) THAT YtgfidgbkklideaaProg.lean LOADS. Nothing in Lean hashes anything: it is a label: what it is worth is what the hold of that sum in a sandbox is worth. -/
noncomputable def Try.pinned : Pinned := { name := "ytgfidgbkklideaa", sum := "83857ca0c41bbda432bf9c59f9b7312523a866256dd81ea172611199e80ee16e", checked := Try.checked }
namespace Rows
def none {H : Type} : Left H := { results := [], args := [] }

/-- 'belfrylaw10.StartsOf': WHATEVER THE INPUT: true; the input reads as it did. -/
def startsOfSpec : ChangeSpec := { name := "startsOf", fn := fun _ => fun
  | [d1, d2] => { results := [.lit (.bool true)], args := [d1, d2] }
  | _ => none }
def startsOfRow : OpenClaim := { program := "ytgfidgbkklideaa", sum := "83857ca0c41bbda432bf9c59f9b7312523a866256dd81ea172611199e80ee16e", func := "belfry/belfrylaw10.StartsOf", spec := "startsOf", unfollowed := true, recurses := true, loops := true, plainKeys := false, apart := false }
def StartsOfSaid : Prop := startsOfRow.holds Try.pinned (OpenSpec.ofChange startsOfSpec)

/-- ITS FALSE NEIGHBOUR: 'it returns false'. Refute it at one input. -/
def startsOfWrong : ChangeSpec := { name := "startsOf", fn := fun _ => fun
  | [d1, d2] => { results := [.lit (.bool false)], args := [d1, d2] }
  | _ => none }
def StartsOfWrongFalsely : Prop := startsOfRow.holds Try.pinned (OpenSpec.ofChange startsOfWrong)

/-- 'belfrylaw08.TypesOf': WHATEVER THE INPUT: true; the input reads as it did. -/
def typesOfSpec : ChangeSpec := { name := "typesOf", fn := fun _ => fun
  | [d1, d2] => { results := [.lit (.bool true)], args := [d1, d2] }
  | _ => none }
def typesOfRow : OpenClaim := { program := "ytgfidgbkklideaa", sum := "83857ca0c41bbda432bf9c59f9b7312523a866256dd81ea172611199e80ee16e", func := "belfry/belfrylaw08.TypesOf", spec := "typesOf", unfollowed := true, recurses := true, loops := true, plainKeys := false, apart := false }
def TypesOfSaid : Prop := typesOfRow.holds Try.pinned (OpenSpec.ofChange typesOfSpec)

/-- ITS FALSE NEIGHBOUR: 'it returns false'. Refute it at one input. -/
def typesOfWrong : ChangeSpec := { name := "typesOf", fn := fun _ => fun
  | [d1, d2] => { results := [.lit (.bool false)], args := [d1, d2] }
  | _ => none }
def TypesOfWrongFalsely : Prop := typesOfRow.holds Try.pinned (OpenSpec.ofChange typesOfWrong)

/-- 'belfrylaw10.StartsChecks': WHATEVER THE INPUT: true; the input reads as it did. -/
def startsChecksSpec : ChangeSpec := { name := "startsChecks", fn := fun _ => fun
  | [d] => { results := [.lit (.bool true)], args := [d] }
  | _ => none }
def startsChecksRow : OpenClaim := { program := "ytgfidgbkklideaa", sum := "83857ca0c41bbda432bf9c59f9b7312523a866256dd81ea172611199e80ee16e", func := "belfry/belfrylaw10.StartsChecks", spec := "startsChecks", unfollowed := true, recurses := true, loops := true, plainKeys := false, apart := false }
def StartsChecksSaid : Prop := startsChecksRow.holds Try.pinned (OpenSpec.ofChange startsChecksSpec)

/-- ITS FALSE NEIGHBOUR: 'it returns false'. Refute it at one input. -/
def startsChecksWrong : ChangeSpec := { name := "startsChecks", fn := fun _ => fun
  | [d] => { results := [.lit (.bool false)], args := [d] }
  | _ => none }
def StartsChecksWrongFalsely : Prop := startsChecksRow.holds Try.pinned (OpenSpec.ofChange startsChecksWrong)

/-- 'belfrylaw08.TypesChecks': WHATEVER THE INPUT: true; the input reads as it did. -/
def typesChecksSpec : ChangeSpec := { name := "typesChecks", fn := fun _ => fun
  | [d] => { results := [.lit (.bool true)], args := [d] }
  | _ => none }
def typesChecksRow : OpenClaim := { program := "ytgfidgbkklideaa", sum := "83857ca0c41bbda432bf9c59f9b7312523a866256dd81ea172611199e80ee16e", func := "belfry/belfrylaw08.TypesChecks", spec := "typesChecks", unfollowed := true, recurses := true, loops := true, plainKeys := false, apart := false }
def TypesChecksSaid : Prop := typesChecksRow.holds Try.pinned (OpenSpec.ofChange typesChecksSpec)

/-- ITS FALSE NEIGHBOUR: 'it returns false'. Refute it at one input. -/
def typesChecksWrong : ChangeSpec := { name := "typesChecks", fn := fun _ => fun
  | [d] => { results := [.lit (.bool false)], args := [d] }
  | _ => none }
def TypesChecksWrongFalsely : Prop := typesChecksRow.holds Try.pinned (OpenSpec.ofChange typesChecksWrong)

/- THE SECOND FORM. 'bulk': how many values and letters a reading holds, each counted each time it is reached (what is shared counts as often as it is met; a slice's spare places count too). A statement '..UptoSaid' is the law's where the arguments, and the package variables that the reading takes, are together of bulk at most 1048576: NARROWER than '..Said'. Prove '..Said' where nothing that the law and all that it calls make is longer than what came in: it says more and counts as full. Else prove '..UptoSaid'. A law counts once. -/
mutual
def uptoBulk {H : Type} : DataW H → Nat
  | .lit (.string bytes) => bytes.length + 1
  | .lit _ => 1
  | .nil => 1
  | .ptr d => uptoBulk d + 1
  | .slice elems spare => uptoBulkAll elems + uptoBulkAll spare + 1
  | .agg parts => uptoBulkAll parts + 1
  | .iface _ d => uptoBulk d + 1
  | .map entries => uptoBulkEntries entries + 1
  | .held _ => 1
def uptoBulkAll {H : Type} : List (DataW H) → Nat
  | [] => 0
  | d :: r => uptoBulk d + uptoBulkAll r
def uptoBulkEntries {H : Type} : List (Lit × DataW H) → Nat
  | [] => 0
  | x :: r => uptoBulkEntry x + uptoBulkEntries r
def uptoBulkEntry {H : Type} : Lit × DataW H → Nat
  | (.string bytes, d) => bytes.length + uptoBulk d + 1
  | (_, d) => uptoBulk d + 1
 end
def uptoSmall : (H : Type) → List (DataW H) → Bool := fun _ ds => decide (uptoBulkAll ds ≤ 1048576)
def OpenSpec.upto (s : _root_.Go.ChangeSpec) : _root_.Go.OpenSpec := { _root_.Go.OpenSpec.ofChange s with cond := some uptoSmall }

/-- 'belfrylaw10.StartsOf', WHERE WHAT IT READS IS OF BULK AT MOST 1048576: true; the input reads as it did. -/
def startsOfUptoRow : OpenClaim := { program := "ytgfidgbkklideaa", sum := "83857ca0c41bbda432bf9c59f9b7312523a866256dd81ea172611199e80ee16e", func := "belfry/belfrylaw10.StartsOf", spec := "startsOf", unfollowed := true, recurses := true, loops := true, plainKeys := false, apart := false, narrowed := true }
def StartsOfUptoSaid : Prop := startsOfUptoRow.holds Try.pinned (OpenSpec.upto startsOfSpec)

/-- 'belfrylaw08.TypesOf', WHERE WHAT IT READS IS OF BULK AT MOST 1048576: true; the input reads as it did. -/
def typesOfUptoRow : OpenClaim := { program := "ytgfidgbkklideaa", sum := "83857ca0c41bbda432bf9c59f9b7312523a866256dd81ea172611199e80ee16e", func := "belfry/belfrylaw08.TypesOf", spec := "typesOf", unfollowed := true, recurses := true, loops := true, plainKeys := false, apart := false, narrowed := true }
def TypesOfUptoSaid : Prop := typesOfUptoRow.holds Try.pinned (OpenSpec.upto typesOfSpec)

/-- 'belfrylaw10.StartsChecks', WHERE WHAT IT READS IS OF BULK AT MOST 1048576: true; the input reads as it did. -/
def startsChecksUptoRow : OpenClaim := { program := "ytgfidgbkklideaa", sum := "83857ca0c41bbda432bf9c59f9b7312523a866256dd81ea172611199e80ee16e", func := "belfry/belfrylaw10.StartsChecks", spec := "startsChecks", unfollowed := true, recurses := true, loops := true, plainKeys := false, apart := false, narrowed := true }
def StartsChecksUptoSaid : Prop := startsChecksUptoRow.holds Try.pinned (OpenSpec.upto startsChecksSpec)

/-- 'belfrylaw08.TypesChecks', WHERE WHAT IT READS IS OF BULK AT MOST 1048576: true; the input reads as it did. -/
def typesChecksUptoRow : OpenClaim := { program := "ytgfidgbkklideaa", sum := "83857ca0c41bbda432bf9c59f9b7312523a866256dd81ea172611199e80ee16e", func := "belfry/belfrylaw08.TypesChecks", spec := "typesChecks", unfollowed := true, recurses := true, loops := true, plainKeys := false, apart := false, narrowed := true }
def TypesChecksUptoSaid : Prop := typesChecksUptoRow.holds Try.pinned (OpenSpec.upto typesChecksSpec)

end Rows
end Go.Proofs.Ytgfidgbkklideaa
