/-
  NARROWER THAN 'FOR EVERY INPUT', by the rows' own cells (each row's printed sentence says how): CodeFits: loops.
  DERIVED. THE GIVEN ROWS OF THIS SEAT. 4 by the template 'for every input the law returns true; each argument reads behind the call as it read before'; 0 by the template 'total and deterministic' (their statements: YtgkbhonjodcakaaGreatTotals.lean).
  GIVEN WITH THE SEED: the statements are not yours to turn. If you find one false, say at which input.
  Laid BY PROGRAM, IN A SANDBOX (cutbox-rows.mjs): the forced cells as the released guide's own fill.sh prints them over the translation 4885e539cf4ff9ef… (all of the seat's roots in one cut). By AI agents, Wed Nov 11 2026. No macro, syntax, notation, axiom, sorry.
-/
import Derived.Test.YtgkbhonjodcakaaGreatChecked
import GoSem.Claim
import GoSem.ClaimJoined
import GoSem.ClaimMapViews
import Derived.JoinedTies
import Derived.KernelRfl
namespace Go.Proofs.YtgkbhonjodcakaaGreat
/- THE CELL 'sum', in the pinned program and in every row, IS THE sha256 OF THE DUMP (.gsa) THAT YtgkbhonjodcakaaGreatProg.lean LOADS. Nothing in Lean hashes anything: it is a label: what it is worth is what the hold of that sum in a sandbox is worth. -/
noncomputable def Tryz.pinned : Pinned := { name := "ytgkbhonjodcakaagreat", sum := "4885e539cf4ff9efda1121318cc8820703f84b3acd055da309714f76be5e73c5", checked := Tryz.checked }
namespace Rows
def none {H : Type} : Left H := { results := [], args := [] }

/-- 'belfrylaw17.CodeFits': WHATEVER THE INPUT: true; the input reads as it did. -/
def codeFitsSpec : ChangeSpec := { name := "codeFits", fn := fun _ => fun
  | [d] => { results := [.lit (.bool true)], args := [d] }
  | _ => none }
def codeFitsRow : OpenClaim := { program := "ytgkbhonjodcakaagreat", sum := "4885e539cf4ff9efda1121318cc8820703f84b3acd055da309714f76be5e73c5", func := "belfry/belfrylaw17.CodeFits", spec := "codeFits", unfollowed := true, recurses := true, loops := true, plainKeys := false, apart := false }
def CodeFitsSaid : Prop := codeFitsRow.holds Tryz.pinned (OpenSpec.ofChange codeFitsSpec)

/-- ITS FALSE NEIGHBOUR: 'it returns false'. Refute it at one input. -/
def codeFitsWrong : ChangeSpec := { name := "codeFits", fn := fun _ => fun
  | [d] => { results := [.lit (.bool false)], args := [d] }
  | _ => none }
def CodeFitsWrongFalsely : Prop := codeFitsRow.holds Tryz.pinned (OpenSpec.ofChange codeFitsWrong)

/-- 'belfrylaw18.MachineDelay': WHATEVER THE INPUT: true; the input reads as it did. -/
def machineDelaySpec : ChangeSpec := { name := "machineDelay", fn := fun _ => fun
  | [d1, d2, d3] => { results := [.lit (.bool true)], args := [d1, d2, d3] }
  | _ => none }
def machineDelayRow : OpenClaim := { program := "ytgkbhonjodcakaagreat", sum := "4885e539cf4ff9efda1121318cc8820703f84b3acd055da309714f76be5e73c5", func := "belfry/belfrylaw18.MachineDelay", spec := "machineDelay", unfollowed := true, recurses := true, plainKeys := false, apart := false }
def MachineDelaySaid : Prop := machineDelayRow.holds Tryz.pinned (OpenSpec.ofChange machineDelaySpec)

/-- ITS FALSE NEIGHBOUR: 'it returns false'. Refute it at one input. -/
def machineDelayWrong : ChangeSpec := { name := "machineDelay", fn := fun _ => fun
  | [d1, d2, d3] => { results := [.lit (.bool false)], args := [d1, d2, d3] }
  | _ => none }
def MachineDelayWrongFalsely : Prop := machineDelayRow.holds Tryz.pinned (OpenSpec.ofChange machineDelayWrong)

/-- 'belfrylaw18.MachineAlike': WHATEVER THE INPUT: true; the input reads as it did. -/
def machineAlikeSpec : ChangeSpec := { name := "machineAlike", fn := fun _ => fun
  | [d1, d2, d3] => { results := [.lit (.bool true)], args := [d1, d2, d3] }
  | _ => none }
def machineAlikeRow : OpenClaim := { program := "ytgkbhonjodcakaagreat", sum := "4885e539cf4ff9efda1121318cc8820703f84b3acd055da309714f76be5e73c5", func := "belfry/belfrylaw18.MachineAlike", spec := "machineAlike", unfollowed := true, recurses := true, plainKeys := false, apart := false }
def MachineAlikeSaid : Prop := machineAlikeRow.holds Tryz.pinned (OpenSpec.ofChange machineAlikeSpec)

/-- ITS FALSE NEIGHBOUR: 'it returns false'. Refute it at one input. -/
def machineAlikeWrong : ChangeSpec := { name := "machineAlike", fn := fun _ => fun
  | [d1, d2, d3] => { results := [.lit (.bool false)], args := [d1, d2, d3] }
  | _ => none }
def MachineAlikeWrongFalsely : Prop := machineAlikeRow.holds Tryz.pinned (OpenSpec.ofChange machineAlikeWrong)

/-- 'belfrylaw18.MachineLate': WHATEVER THE INPUT: true; the input reads as it did. -/
def machineLateSpec : ChangeSpec := { name := "machineLate", fn := fun _ => fun
  | [d1, d2] => { results := [.lit (.bool true)], args := [d1, d2] }
  | _ => none }
def machineLateRow : OpenClaim := { program := "ytgkbhonjodcakaagreat", sum := "4885e539cf4ff9efda1121318cc8820703f84b3acd055da309714f76be5e73c5", func := "belfry/belfrylaw18.MachineLate", spec := "machineLate", unfollowed := true, recurses := true, plainKeys := false, apart := false }
def MachineLateSaid : Prop := machineLateRow.holds Tryz.pinned (OpenSpec.ofChange machineLateSpec)

/-- ITS FALSE NEIGHBOUR: 'it returns false'. Refute it at one input. -/
def machineLateWrong : ChangeSpec := { name := "machineLate", fn := fun _ => fun
  | [d1, d2] => { results := [.lit (.bool false)], args := [d1, d2] }
  | _ => none }
def MachineLateWrongFalsely : Prop := machineLateRow.holds Tryz.pinned (OpenSpec.ofChange machineLateWrong)

/- THE SECOND FORM. 'bulk': how many values and letters a reading holds, each counted each time it is reached (what is shared counts as often as it is met; a slice's spare places count too). A statement '..UptoSaid' is the law's where the arguments, and the package variables that the reading takes, are together of bulk at most 1048576: NARROWER than '..Said'. Prove '..Said' where nothing that the law and all that it calls make is longer than what came in: it says more and counts as full. Else prove '..UptoSaid'. A law counts once. -/
mutual
def uptoBulk {H : Type} : DataW H → Nat
  | .lit (.string bytes) => bytes.length + 1
  | .lit _ => 1
  | .nil => 1
  | .ptr d => uptoBulk d + 1
  | .slice elems spare => uptoBulkAll elems + uptoBulkAll spare + 1
  | .agg parts => uptoBulkAll parts + 1
  | .iface _ d => uptoBulk d + 1
  | .map entries => uptoBulkEntries entries + 1
  | .held _ => 1
def uptoBulkAll {H : Type} : List (DataW H) → Nat
  | [] => 0
  | d :: r => uptoBulk d + uptoBulkAll r
def uptoBulkEntries {H : Type} : List (Lit × DataW H) → Nat
  | [] => 0
  | x :: r => uptoBulkEntry x + uptoBulkEntries r
def uptoBulkEntry {H : Type} : Lit × DataW H → Nat
  | (.string bytes, d) => bytes.length + uptoBulk d + 1
  | (_, d) => uptoBulk d + 1
 end
def uptoSmall : (H : Type) → List (DataW H) → Bool := fun _ ds => decide (uptoBulkAll ds ≤ 1048576)
def OpenSpec.upto (s : _root_.Go.ChangeSpec) : _root_.Go.OpenSpec := { _root_.Go.OpenSpec.ofChange s with cond := some uptoSmall }

/-- 'belfrylaw17.CodeFits', WHERE WHAT IT READS IS OF BULK AT MOST 1048576: true; the input reads as it did. -/
def codeFitsUptoRow : OpenClaim := { program := "ytgkbhonjodcakaagreat", sum := "4885e539cf4ff9efda1121318cc8820703f84b3acd055da309714f76be5e73c5", func := "belfry/belfrylaw17.CodeFits", spec := "codeFits", unfollowed := true, recurses := true, loops := true, plainKeys := false, apart := false, narrowed := true }
def CodeFitsUptoSaid : Prop := codeFitsUptoRow.holds Tryz.pinned (OpenSpec.upto codeFitsSpec)

/-- 'belfrylaw18.MachineDelay', WHERE WHAT IT READS IS OF BULK AT MOST 1048576: true; the input reads as it did. -/
def machineDelayUptoRow : OpenClaim := { program := "ytgkbhonjodcakaagreat", sum := "4885e539cf4ff9efda1121318cc8820703f84b3acd055da309714f76be5e73c5", func := "belfry/belfrylaw18.MachineDelay", spec := "machineDelay", unfollowed := true, recurses := true, plainKeys := false, apart := false, narrowed := true }
def MachineDelayUptoSaid : Prop := machineDelayUptoRow.holds Tryz.pinned (OpenSpec.upto machineDelaySpec)

/-- 'belfrylaw18.MachineAlike', WHERE WHAT IT READS IS OF BULK AT MOST 1048576: true; the input reads as it did. -/
def machineAlikeUptoRow : OpenClaim := { program := "ytgkbhonjodcakaagreat", sum := "4885e539cf4ff9efda1121318cc8820703f84b3acd055da309714f76be5e73c5", func := "belfry/belfrylaw18.MachineAlike", spec := "machineAlike", unfollowed := true, recurses := true, plainKeys := false, apart := false, narrowed := true }
def MachineAlikeUptoSaid : Prop := machineAlikeUptoRow.holds Tryz.pinned (OpenSpec.upto machineAlikeSpec)

/-- 'belfrylaw18.MachineLate', WHERE WHAT IT READS IS OF BULK AT MOST 1048576: true; the input reads as it did. -/
def machineLateUptoRow : OpenClaim := { program := "ytgkbhonjodcakaagreat", sum := "4885e539cf4ff9efda1121318cc8820703f84b3acd055da309714f76be5e73c5", func := "belfry/belfrylaw18.MachineLate", spec := "machineLate", unfollowed := true, recurses := true, plainKeys := false, apart := false, narrowed := true }
def MachineLateUptoSaid : Prop := machineLateUptoRow.holds Tryz.pinned (OpenSpec.upto machineLateSpec)

end Rows
end Go.Proofs.YtgkbhonjodcakaaGreat
