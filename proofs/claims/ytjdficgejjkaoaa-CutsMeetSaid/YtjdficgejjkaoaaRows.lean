/-
  NARROWER THAN 'FOR EVERY INPUT', by the rows' own cells (each row's printed sentence says how): LateTells: loops · LateLeast: loops · LateMore: loops · CutsMeet: loops · CutsNear: loops.
  DERIVED. THE GIVEN ROWS OF THIS SEAT. 6 by the template 'for every input the law returns true; each argument reads behind the call as it read before'; 0 by the template 'total and deterministic' (their statements: YtjdficgejjkaoaaTotals.lean).
  GIVEN WITH THE SEED: the statements are not yours to turn. If you find one false, say at which input.
  Laid BY PROGRAM, IN A SANDBOX (cutbox-rows.mjs): the forced cells as the released guide's own fill.sh prints them over the translation 95e22ef9b000eac7… (all of the seat's roots in one cut). By AI agents, Wed Nov 11 2026. No macro, syntax, notation, axiom, sorry.
-/
import Derived.Test.YtjdficgejjkaoaaChecked
import GoSem.Claim
import GoSem.ClaimJoined
import GoSem.ClaimMapViews
import Derived.JoinedTies
import Derived.KernelRfl
namespace Go.Proofs.Ytjdficgejjkaoaa
/- THE CELL 'sum', in the pinned program and in every row, IS THE sha256 OF THE DUMP (.gsa) THAT YtjdficgejjkaoaaProg.lean LOADS. Nothing in Lean hashes anything: it is a label: what it is worth is what the hold of that sum in a sandbox is worth. -/
noncomputable def Try.pinned : Pinned := { name := "ytjdficgejjkaoaa", sum := "95e22ef9b000eac7df8e219b5120ac69b31c3d020bad3e1f7f29bb8df66a92b0", checked := Try.checked }
namespace Rows
def none {H : Type} : Left H := { results := [], args := [] }

/-- 'belfrylaw14.LateTells': WHATEVER THE INPUT: true; the input reads as it did. -/
def lateTellsSpec : ChangeSpec := { name := "lateTells", fn := fun _ => fun
  | [d] => { results := [.lit (.bool true)], args := [d] }
  | _ => none }
def lateTellsRow : OpenClaim := { program := "ytjdficgejjkaoaa", sum := "95e22ef9b000eac7df8e219b5120ac69b31c3d020bad3e1f7f29bb8df66a92b0", func := "belfry/belfrylaw14.LateTells", spec := "lateTells", unfollowed := true, recurses := true, loops := true, plainKeys := false, apart := false }
def LateTellsSaid : Prop := lateTellsRow.holds Try.pinned (OpenSpec.ofChange lateTellsSpec)

/-- ITS FALSE NEIGHBOUR: 'it returns false'. Refute it at one input. -/
def lateTellsWrong : ChangeSpec := { name := "lateTells", fn := fun _ => fun
  | [d] => { results := [.lit (.bool false)], args := [d] }
  | _ => none }
def LateTellsWrongFalsely : Prop := lateTellsRow.holds Try.pinned (OpenSpec.ofChange lateTellsWrong)

/-- 'belfrylaw14.LateLeast': WHATEVER THE INPUT: true; the input reads as it did. -/
def lateLeastSpec : ChangeSpec := { name := "lateLeast", fn := fun _ => fun
  | [d1, d2] => { results := [.lit (.bool true)], args := [d1, d2] }
  | _ => none }
def lateLeastRow : OpenClaim := { program := "ytjdficgejjkaoaa", sum := "95e22ef9b000eac7df8e219b5120ac69b31c3d020bad3e1f7f29bb8df66a92b0", func := "belfry/belfrylaw14.LateLeast", spec := "lateLeast", unfollowed := true, recurses := true, loops := true, plainKeys := false, apart := false }
def LateLeastSaid : Prop := lateLeastRow.holds Try.pinned (OpenSpec.ofChange lateLeastSpec)

/-- ITS FALSE NEIGHBOUR: 'it returns false'. Refute it at one input. -/
def lateLeastWrong : ChangeSpec := { name := "lateLeast", fn := fun _ => fun
  | [d1, d2] => { results := [.lit (.bool false)], args := [d1, d2] }
  | _ => none }
def LateLeastWrongFalsely : Prop := lateLeastRow.holds Try.pinned (OpenSpec.ofChange lateLeastWrong)

/-- 'belfrylaw14.LateChain': WHATEVER THE INPUT: true; the input reads as it did. -/
def lateChainSpec : ChangeSpec := { name := "lateChain", fn := fun _ => fun
  | [d1, d2] => { results := [.lit (.bool true)], args := [d1, d2] }
  | _ => none }
def lateChainRow : OpenClaim := { program := "ytjdficgejjkaoaa", sum := "95e22ef9b000eac7df8e219b5120ac69b31c3d020bad3e1f7f29bb8df66a92b0", func := "belfry/belfrylaw14.LateChain", spec := "lateChain", unfollowed := true, recurses := true, plainKeys := false, apart := false }
def LateChainSaid : Prop := lateChainRow.holds Try.pinned (OpenSpec.ofChange lateChainSpec)

/-- ITS FALSE NEIGHBOUR: 'it returns false'. Refute it at one input. -/
def lateChainWrong : ChangeSpec := { name := "lateChain", fn := fun _ => fun
  | [d1, d2] => { results := [.lit (.bool false)], args := [d1, d2] }
  | _ => none }
def LateChainWrongFalsely : Prop := lateChainRow.holds Try.pinned (OpenSpec.ofChange lateChainWrong)

/-- 'belfrylaw14.LateMore': WHATEVER THE INPUT: true; the input reads as it did. -/
def lateMoreSpec : ChangeSpec := { name := "lateMore", fn := fun _ => fun
  | [d1, d2, d3] => { results := [.lit (.bool true)], args := [d1, d2, d3] }
  | _ => none }
def lateMoreRow : OpenClaim := { program := "ytjdficgejjkaoaa", sum := "95e22ef9b000eac7df8e219b5120ac69b31c3d020bad3e1f7f29bb8df66a92b0", func := "belfry/belfrylaw14.LateMore", spec := "lateMore", unfollowed := true, recurses := true, loops := true, plainKeys := false, apart := false }
def LateMoreSaid : Prop := lateMoreRow.holds Try.pinned (OpenSpec.ofChange lateMoreSpec)

/-- ITS FALSE NEIGHBOUR: 'it returns false'. Refute it at one input. -/
def lateMoreWrong : ChangeSpec := { name := "lateMore", fn := fun _ => fun
  | [d1, d2, d3] => { results := [.lit (.bool false)], args := [d1, d2, d3] }
  | _ => none }
def LateMoreWrongFalsely : Prop := lateMoreRow.holds Try.pinned (OpenSpec.ofChange lateMoreWrong)

/-- 'belfrylaw15.CutsMeet': WHATEVER THE INPUT: true; the input reads as it did. -/
def cutsMeetSpec : ChangeSpec := { name := "cutsMeet", fn := fun _ => fun
  | [d] => { results := [.lit (.bool true)], args := [d] }
  | _ => none }
def cutsMeetRow : OpenClaim := { program := "ytjdficgejjkaoaa", sum := "95e22ef9b000eac7df8e219b5120ac69b31c3d020bad3e1f7f29bb8df66a92b0", func := "belfry/belfrylaw15.CutsMeet", spec := "cutsMeet", unfollowed := true, recurses := true, loops := true, plainKeys := false, apart := false }
def CutsMeetSaid : Prop := cutsMeetRow.holds Try.pinned (OpenSpec.ofChange cutsMeetSpec)

/-- ITS FALSE NEIGHBOUR: 'it returns false'. Refute it at one input. -/
def cutsMeetWrong : ChangeSpec := { name := "cutsMeet", fn := fun _ => fun
  | [d] => { results := [.lit (.bool false)], args := [d] }
  | _ => none }
def CutsMeetWrongFalsely : Prop := cutsMeetRow.holds Try.pinned (OpenSpec.ofChange cutsMeetWrong)

/-- 'belfrylaw15.CutsNear': WHATEVER THE INPUT: true; the input reads as it did. -/
def cutsNearSpec : ChangeSpec := { name := "cutsNear", fn := fun _ => fun
  | [d1, d2] => { results := [.lit (.bool true)], args := [d1, d2] }
  | _ => none }
def cutsNearRow : OpenClaim := { program := "ytjdficgejjkaoaa", sum := "95e22ef9b000eac7df8e219b5120ac69b31c3d020bad3e1f7f29bb8df66a92b0", func := "belfry/belfrylaw15.CutsNear", spec := "cutsNear", unfollowed := true, recurses := true, loops := true, plainKeys := false, apart := false }
def CutsNearSaid : Prop := cutsNearRow.holds Try.pinned (OpenSpec.ofChange cutsNearSpec)

/-- ITS FALSE NEIGHBOUR: 'it returns false'. Refute it at one input. -/
def cutsNearWrong : ChangeSpec := { name := "cutsNear", fn := fun _ => fun
  | [d1, d2] => { results := [.lit (.bool false)], args := [d1, d2] }
  | _ => none }
def CutsNearWrongFalsely : Prop := cutsNearRow.holds Try.pinned (OpenSpec.ofChange cutsNearWrong)

/- THE SECOND FORM. 'bulk': how many values and letters a reading holds, each counted each time it is reached (what is shared counts as often as it is met; a slice's spare places count too). A statement '..UptoSaid' is the law's where the arguments, and the package variables that the reading takes, are together of bulk at most 1048576: NARROWER than '..Said'. Prove '..Said' where nothing that the law and all that it calls make is longer than what came in: it says more and counts as full. Else prove '..UptoSaid'. A law counts once. -/
mutual
def uptoBulk {H : Type} : DataW H → Nat
  | .lit (.string bytes) => bytes.length + 1
  | .lit _ => 1
  | .nil => 1
  | .ptr d => uptoBulk d + 1
  | .slice elems spare => uptoBulkAll elems + uptoBulkAll spare + 1
  | .agg parts => uptoBulkAll parts + 1
  | .iface _ d => uptoBulk d + 1
  | .map entries => uptoBulkEntries entries + 1
  | .held _ => 1
def uptoBulkAll {H : Type} : List (DataW H) → Nat
  | [] => 0
  | d :: r => uptoBulk d + uptoBulkAll r
def uptoBulkEntries {H : Type} : List (Lit × DataW H) → Nat
  | [] => 0
  | x :: r => uptoBulkEntry x + uptoBulkEntries r
def uptoBulkEntry {H : Type} : Lit × DataW H → Nat
  | (.string bytes, d) => bytes.length + uptoBulk d + 1
  | (_, d) => uptoBulk d + 1
 end
def uptoSmall : (H : Type) → List (DataW H) → Bool := fun _ ds => decide (uptoBulkAll ds ≤ 1048576)
def OpenSpec.upto (s : _root_.Go.ChangeSpec) : _root_.Go.OpenSpec := { _root_.Go.OpenSpec.ofChange s with cond := some uptoSmall }

/-- 'belfrylaw14.LateTells', WHERE WHAT IT READS IS OF BULK AT MOST 1048576: true; the input reads as it did. -/
def lateTellsUptoRow : OpenClaim := { program := "ytjdficgejjkaoaa", sum := "95e22ef9b000eac7df8e219b5120ac69b31c3d020bad3e1f7f29bb8df66a92b0", func := "belfry/belfrylaw14.LateTells", spec := "lateTells", unfollowed := true, recurses := true, loops := true, plainKeys := false, apart := false, narrowed := true }
def LateTellsUptoSaid : Prop := lateTellsUptoRow.holds Try.pinned (OpenSpec.upto lateTellsSpec)

/-- 'belfrylaw14.LateLeast', WHERE WHAT IT READS IS OF BULK AT MOST 1048576: true; the input reads as it did. -/
def lateLeastUptoRow : OpenClaim := { program := "ytjdficgejjkaoaa", sum := "95e22ef9b000eac7df8e219b5120ac69b31c3d020bad3e1f7f29bb8df66a92b0", func := "belfry/belfrylaw14.LateLeast", spec := "lateLeast", unfollowed := true, recurses := true, loops := true, plainKeys := false, apart := false, narrowed := true }
def LateLeastUptoSaid : Prop := lateLeastUptoRow.holds Try.pinned (OpenSpec.upto lateLeastSpec)

/-- 'belfrylaw14.LateChain', WHERE WHAT IT READS IS OF BULK AT MOST 1048576: true; the input reads as it did. -/
def lateChainUptoRow : OpenClaim := { program := "ytjdficgejjkaoaa", sum := "95e22ef9b000eac7df8e219b5120ac69b31c3d020bad3e1f7f29bb8df66a92b0", func := "belfry/belfrylaw14.LateChain", spec := "lateChain", unfollowed := true, recurses := true, plainKeys := false, apart := false, narrowed := true }
def LateChainUptoSaid : Prop := lateChainUptoRow.holds Try.pinned (OpenSpec.upto lateChainSpec)

/-- 'belfrylaw14.LateMore', WHERE WHAT IT READS IS OF BULK AT MOST 1048576: true; the input reads as it did. -/
def lateMoreUptoRow : OpenClaim := { program := "ytjdficgejjkaoaa", sum := "95e22ef9b000eac7df8e219b5120ac69b31c3d020bad3e1f7f29bb8df66a92b0", func := "belfry/belfrylaw14.LateMore", spec := "lateMore", unfollowed := true, recurses := true, loops := true, plainKeys := false, apart := false, narrowed := true }
def LateMoreUptoSaid : Prop := lateMoreUptoRow.holds Try.pinned (OpenSpec.upto lateMoreSpec)

/-- 'belfrylaw15.CutsMeet', WHERE WHAT IT READS IS OF BULK AT MOST 1048576: true; the input reads as it did. -/
def cutsMeetUptoRow : OpenClaim := { program := "ytjdficgejjkaoaa", sum := "95e22ef9b000eac7df8e219b5120ac69b31c3d020bad3e1f7f29bb8df66a92b0", func := "belfry/belfrylaw15.CutsMeet", spec := "cutsMeet", unfollowed := true, recurses := true, loops := true, plainKeys := false, apart := false, narrowed := true }
def CutsMeetUptoSaid : Prop := cutsMeetUptoRow.holds Try.pinned (OpenSpec.upto cutsMeetSpec)

/-- 'belfrylaw15.CutsNear', WHERE WHAT IT READS IS OF BULK AT MOST 1048576: true; the input reads as it did. -/
def cutsNearUptoRow : OpenClaim := { program := "ytjdficgejjkaoaa", sum := "95e22ef9b000eac7df8e219b5120ac69b31c3d020bad3e1f7f29bb8df66a92b0", func := "belfry/belfrylaw15.CutsNear", spec := "cutsNear", unfollowed := true, recurses := true, loops := true, plainKeys := false, apart := false, narrowed := true }
def CutsNearUptoSaid : Prop := cutsNearUptoRow.holds Try.pinned (OpenSpec.upto cutsNearSpec)

end Rows
end Go.Proofs.Ytjdficgejjkaoaa
