/-
  NARROWER THAN 'FOR EVERY INPUT', by the rows' own cells (each row's printed sentence says how): NamesFinds: loops · NamesChecks: loops · NamesFound: loops · NamesLess: loops · NamesNew: loops · NamesTurned: loops.
  DERIVED. THE GIVEN ROWS OF THIS SEAT. 6 by the template 'for every input the law returns true; each argument reads behind the call as it read before'; 0 by the template 'total and deterministic' (their statements: YtgdlocjocjamgaaTotals.lean).
  GIVEN WITH THE SEED: the statements are not yours to turn. If you find one false, say at which input.
  Laid BY PROGRAM, IN A SANDBOX (cutbox-rows.mjs): the forced cells as the released guide's own fill.sh prints them over the translation 9cfc2b1cc6d3b648… (all of the seat's roots in one cut). By AI agents, Wed Nov 11 2026. No macro, syntax, notation, axiom, sorry.
-/
import Derived.Test.YtgdlocjocjamgaaChecked
import GoSem.Claim
import GoSem.ClaimJoined
import GoSem.ClaimMapViews
import Derived.JoinedTies
import Derived.KernelRfl
namespace Go.Proofs.Ytgdlocjocjamgaa
/- THE CELL 'sum', in the pinned program and in every row, IS THE sha256 OF THE DUMP (.gsa) THAT YtgdlocjocjamgaaProg.lean LOADS. Nothing in Lean hashes anything: it is a label: what it is worth is what the hold of that sum in a sandbox is worth. -/
noncomputable def Try.pinned : Pinned := { name := "ytgdlocjocjamgaa", sum := "9cfc2b1cc6d3b6486b689622762550115a63ff28ff7a559bba1b829e6ad7caa6", checked := Try.checked }
namespace Rows
def none {H : Type} : Left H := { results := [], args := [] }

/-- 'belfrylaw07.NamesFinds': WHATEVER THE INPUT: true; the input reads as it did. -/
def namesFindsSpec : ChangeSpec := { name := "namesFinds", fn := fun _ => fun
  | [d1, d2] => { results := [.lit (.bool true)], args := [d1, d2] }
  | _ => none }
def namesFindsRow : OpenClaim := { program := "ytgdlocjocjamgaa", sum := "9cfc2b1cc6d3b6486b689622762550115a63ff28ff7a559bba1b829e6ad7caa6", func := "belfry/belfrylaw07.NamesFinds", spec := "namesFinds", unfollowed := true, recurses := true, loops := true, plainKeys := false, apart := false }
def NamesFindsSaid : Prop := namesFindsRow.holds Try.pinned (OpenSpec.ofChange namesFindsSpec)

/-- ITS FALSE NEIGHBOUR: 'it returns false'. Refute it at one input. -/
def namesFindsWrong : ChangeSpec := { name := "namesFinds", fn := fun _ => fun
  | [d1, d2] => { results := [.lit (.bool false)], args := [d1, d2] }
  | _ => none }
def NamesFindsWrongFalsely : Prop := namesFindsRow.holds Try.pinned (OpenSpec.ofChange namesFindsWrong)

/-- 'belfrylaw07.NamesChecks': WHATEVER THE INPUT: true; the input reads as it did. -/
def namesChecksSpec : ChangeSpec := { name := "namesChecks", fn := fun _ => fun
  | [d] => { results := [.lit (.bool true)], args := [d] }
  | _ => none }
def namesChecksRow : OpenClaim := { program := "ytgdlocjocjamgaa", sum := "9cfc2b1cc6d3b6486b689622762550115a63ff28ff7a559bba1b829e6ad7caa6", func := "belfry/belfrylaw07.NamesChecks", spec := "namesChecks", unfollowed := true, recurses := true, loops := true, plainKeys := false, apart := false }
def NamesChecksSaid : Prop := namesChecksRow.holds Try.pinned (OpenSpec.ofChange namesChecksSpec)

/-- ITS FALSE NEIGHBOUR: 'it returns false'. Refute it at one input. -/
def namesChecksWrong : ChangeSpec := { name := "namesChecks", fn := fun _ => fun
  | [d] => { results := [.lit (.bool false)], args := [d] }
  | _ => none }
def NamesChecksWrongFalsely : Prop := namesChecksRow.holds Try.pinned (OpenSpec.ofChange namesChecksWrong)

/-- 'belfrylaw07.NamesFound': WHATEVER THE INPUT: true; the input reads as it did. -/
def namesFoundSpec : ChangeSpec := { name := "namesFound", fn := fun _ => fun
  | [d] => { results := [.lit (.bool true)], args := [d] }
  | _ => none }
def namesFoundRow : OpenClaim := { program := "ytgdlocjocjamgaa", sum := "9cfc2b1cc6d3b6486b689622762550115a63ff28ff7a559bba1b829e6ad7caa6", func := "belfry/belfrylaw07.NamesFound", spec := "namesFound", unfollowed := true, recurses := true, loops := true, plainKeys := false, apart := false }
def NamesFoundSaid : Prop := namesFoundRow.holds Try.pinned (OpenSpec.ofChange namesFoundSpec)

/-- ITS FALSE NEIGHBOUR: 'it returns false'. Refute it at one input. -/
def namesFoundWrong : ChangeSpec := { name := "namesFound", fn := fun _ => fun
  | [d] => { results := [.lit (.bool false)], args := [d] }
  | _ => none }
def NamesFoundWrongFalsely : Prop := namesFoundRow.holds Try.pinned (OpenSpec.ofChange namesFoundWrong)

/-- 'belfrylaw07.NamesLess': WHATEVER THE INPUT: true; the input reads as it did. -/
def namesLessSpec : ChangeSpec := { name := "namesLess", fn := fun _ => fun
  | [d1, d2] => { results := [.lit (.bool true)], args := [d1, d2] }
  | _ => none }
def namesLessRow : OpenClaim := { program := "ytgdlocjocjamgaa", sum := "9cfc2b1cc6d3b6486b689622762550115a63ff28ff7a559bba1b829e6ad7caa6", func := "belfry/belfrylaw07.NamesLess", spec := "namesLess", unfollowed := true, recurses := true, loops := true, plainKeys := false, apart := false }
def NamesLessSaid : Prop := namesLessRow.holds Try.pinned (OpenSpec.ofChange namesLessSpec)

/-- ITS FALSE NEIGHBOUR: 'it returns false'. Refute it at one input. -/
def namesLessWrong : ChangeSpec := { name := "namesLess", fn := fun _ => fun
  | [d1, d2] => { results := [.lit (.bool false)], args := [d1, d2] }
  | _ => none }
def NamesLessWrongFalsely : Prop := namesLessRow.holds Try.pinned (OpenSpec.ofChange namesLessWrong)

/-- 'belfrylaw07.NamesNew': WHATEVER THE INPUT: true; the input reads as it did. -/
def namesNewSpec : ChangeSpec := { name := "namesNew", fn := fun _ => fun
  | [d1, d2] => { results := [.lit (.bool true)], args := [d1, d2] }
  | _ => none }
def namesNewRow : OpenClaim := { program := "ytgdlocjocjamgaa", sum := "9cfc2b1cc6d3b6486b689622762550115a63ff28ff7a559bba1b829e6ad7caa6", func := "belfry/belfrylaw07.NamesNew", spec := "namesNew", unfollowed := true, recurses := true, loops := true, plainKeys := false, apart := false }
def NamesNewSaid : Prop := namesNewRow.holds Try.pinned (OpenSpec.ofChange namesNewSpec)

/-- ITS FALSE NEIGHBOUR: 'it returns false'. Refute it at one input. -/
def namesNewWrong : ChangeSpec := { name := "namesNew", fn := fun _ => fun
  | [d1, d2] => { results := [.lit (.bool false)], args := [d1, d2] }
  | _ => none }
def NamesNewWrongFalsely : Prop := namesNewRow.holds Try.pinned (OpenSpec.ofChange namesNewWrong)

/-- 'belfrylaw07.NamesTurned': WHATEVER THE INPUT: true; the input reads as it did. -/
def namesTurnedSpec : ChangeSpec := { name := "namesTurned", fn := fun _ => fun
  | [d] => { results := [.lit (.bool true)], args := [d] }
  | _ => none }
def namesTurnedRow : OpenClaim := { program := "ytgdlocjocjamgaa", sum := "9cfc2b1cc6d3b6486b689622762550115a63ff28ff7a559bba1b829e6ad7caa6", func := "belfry/belfrylaw07.NamesTurned", spec := "namesTurned", unfollowed := true, recurses := true, loops := true, plainKeys := false, apart := false }
def NamesTurnedSaid : Prop := namesTurnedRow.holds Try.pinned (OpenSpec.ofChange namesTurnedSpec)

/-- ITS FALSE NEIGHBOUR: 'it returns false'. Refute it at one input. -/
def namesTurnedWrong : ChangeSpec := { name := "namesTurned", fn := fun _ => fun
  | [d] => { results := [.lit (.bool false)], args := [d] }
  | _ => none }
def NamesTurnedWrongFalsely : Prop := namesTurnedRow.holds Try.pinned (OpenSpec.ofChange namesTurnedWrong)

/- THE SECOND FORM. 'bulk': how many values and letters a reading holds, each counted each time it is reached (what is shared counts as often as it is met; a slice's spare places count too). A statement '..UptoSaid' is the law's where the arguments, and the package variables that the reading takes, are together of bulk at most 1048576: NARROWER than '..Said'. Prove '..Said' where nothing that the law and all that it calls make is longer than what came in: it says more and counts as full. Else prove '..UptoSaid'. A law counts once. -/
mutual
def uptoBulk {H : Type} : DataW H → Nat
  | .lit (.string bytes) => bytes.length + 1
  | .lit _ => 1
  | .nil => 1
  | .ptr d => uptoBulk d + 1
  | .slice elems spare => uptoBulkAll elems + uptoBulkAll spare + 1
  | .agg parts => uptoBulkAll parts + 1
  | .iface _ d => uptoBulk d + 1
  | .map entries => uptoBulkEntries entries + 1
  | .held _ => 1
def uptoBulkAll {H : Type} : List (DataW H) → Nat
  | [] => 0
  | d :: r => uptoBulk d + uptoBulkAll r
def uptoBulkEntries {H : Type} : List (Lit × DataW H) → Nat
  | [] => 0
  | x :: r => uptoBulkEntry x + uptoBulkEntries r
def uptoBulkEntry {H : Type} : Lit × DataW H → Nat
  | (.string bytes, d) => bytes.length + uptoBulk d + 1
  | (_, d) => uptoBulk d + 1
 end
def uptoSmall : (H : Type) → List (DataW H) → Bool := fun _ ds => decide (uptoBulkAll ds ≤ 1048576)
def OpenSpec.upto (s : _root_.Go.ChangeSpec) : _root_.Go.OpenSpec := { _root_.Go.OpenSpec.ofChange s with cond := some uptoSmall }

/-- 'belfrylaw07.NamesFinds', WHERE WHAT IT READS IS OF BULK AT MOST 1048576: true; the input reads as it did. -/
def namesFindsUptoRow : OpenClaim := { program := "ytgdlocjocjamgaa", sum := "9cfc2b1cc6d3b6486b689622762550115a63ff28ff7a559bba1b829e6ad7caa6", func := "belfry/belfrylaw07.NamesFinds", spec := "namesFinds", unfollowed := true, recurses := true, loops := true, plainKeys := false, apart := false, narrowed := true }
def NamesFindsUptoSaid : Prop := namesFindsUptoRow.holds Try.pinned (OpenSpec.upto namesFindsSpec)

/-- 'belfrylaw07.NamesChecks', WHERE WHAT IT READS IS OF BULK AT MOST 1048576: true; the input reads as it did. -/
def namesChecksUptoRow : OpenClaim := { program := "ytgdlocjocjamgaa", sum := "9cfc2b1cc6d3b6486b689622762550115a63ff28ff7a559bba1b829e6ad7caa6", func := "belfry/belfrylaw07.NamesChecks", spec := "namesChecks", unfollowed := true, recurses := true, loops := true, plainKeys := false, apart := false, narrowed := true }
def NamesChecksUptoSaid : Prop := namesChecksUptoRow.holds Try.pinned (OpenSpec.upto namesChecksSpec)

/-- 'belfrylaw07.NamesFound', WHERE WHAT IT READS IS OF BULK AT MOST 1048576: true; the input reads as it did. -/
def namesFoundUptoRow : OpenClaim := { program := "ytgdlocjocjamgaa", sum := "9cfc2b1cc6d3b6486b689622762550115a63ff28ff7a559bba1b829e6ad7caa6", func := "belfry/belfrylaw07.NamesFound", spec := "namesFound", unfollowed := true, recurses := true, loops := true, plainKeys := false, apart := false, narrowed := true }
def NamesFoundUptoSaid : Prop := namesFoundUptoRow.holds Try.pinned (OpenSpec.upto namesFoundSpec)

/-- 'belfrylaw07.NamesLess', WHERE WHAT IT READS IS OF BULK AT MOST 1048576: true; the input reads as it did. -/
def namesLessUptoRow : OpenClaim := { program := "ytgdlocjocjamgaa", sum := "9cfc2b1cc6d3b6486b689622762550115a63ff28ff7a559bba1b829e6ad7caa6", func := "belfry/belfrylaw07.NamesLess", spec := "namesLess", unfollowed := true, recurses := true, loops := true, plainKeys := false, apart := false, narrowed := true }
def NamesLessUptoSaid : Prop := namesLessUptoRow.holds Try.pinned (OpenSpec.upto namesLessSpec)

/-- 'belfrylaw07.NamesNew', WHERE WHAT IT READS IS OF BULK AT MOST 1048576: true; the input reads as it did. -/
def namesNewUptoRow : OpenClaim := { program := "ytgdlocjocjamgaa", sum := "9cfc2b1cc6d3b6486b689622762550115a63ff28ff7a559bba1b829e6ad7caa6", func := "belfry/belfrylaw07.NamesNew", spec := "namesNew", unfollowed := true, recurses := true, loops := true, plainKeys := false, apart := false, narrowed := true }
def NamesNewUptoSaid : Prop := namesNewUptoRow.holds Try.pinned (OpenSpec.upto namesNewSpec)

/-- 'belfrylaw07.NamesTurned', WHERE WHAT IT READS IS OF BULK AT MOST 1048576: true; the input reads as it did. -/
def namesTurnedUptoRow : OpenClaim := { program := "ytgdlocjocjamgaa", sum := "9cfc2b1cc6d3b6486b689622762550115a63ff28ff7a559bba1b829e6ad7caa6", func := "belfry/belfrylaw07.NamesTurned", spec := "namesTurned", unfollowed := true, recurses := true, loops := true, plainKeys := false, apart := false, narrowed := true }
def NamesTurnedUptoSaid : Prop := namesTurnedUptoRow.holds Try.pinned (OpenSpec.upto namesTurnedSpec)

end Rows
end Go.Proofs.Ytgdlocjocjamgaa
