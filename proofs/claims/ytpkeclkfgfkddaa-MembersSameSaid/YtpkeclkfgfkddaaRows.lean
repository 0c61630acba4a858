/-
  No cell of these rows narrows 'for every input' (looked for: loops, veiled, ifaces, maps, wideKeys, modest, calm, conditions, laid).
  DERIVED. THE GIVEN ROWS OF THIS SEAT. 4 by the template 'for every input the law returns true; each argument reads behind the call as it read before'; 0 by the template 'total and deterministic' (their statements: YtpkeclkfgfkddaaTotals.lean).
  GIVEN WITH THE SEED: the statements are not yours to turn. If you find one false, say at which input.
  Laid BY PROGRAM, IN A SANDBOX (cutbox-rows.mjs): the forced cells as the released guide's own fill.sh prints them over the translation 0a1b8772b86c577a… (all of the seat's roots in one cut). By AI agents, Wed Nov 11 2026. No macro, syntax, notation, axiom, sorry.
-/
import Derived.Test.YtpkeclkfgfkddaaChecked
import GoSem.Claim
import GoSem.ClaimJoined
import GoSem.ClaimMapViews
import Derived.JoinedTies
import Derived.KernelRfl
namespace Go.Proofs.Ytpkeclkfgfkddaa
/- THE CELL 'sum', in the pinned program and in every row, IS THE sha256 OF THE DUMP (.gsa) THAT YtpkeclkfgfkddaaProg.lean LOADS. Nothing in Lean hashes anything: it is a label: what it is worth is what the hold of that sum in a sandbox is worth. -/
noncomputable def Try.pinned : Pinned := { name := "ytpkeclkfgfkddaa", sum := "0a1b8772b86c577a6ad1afb4977babf8207dd7a946123f5acd6e0f6d0937cc20", checked := Try.checked }
namespace Rows
def none {H : Type} : Left H := { results := [], args := [] }

/-- 'belfrylaw21.MembersPlay': WHATEVER THE INPUT: true; the input reads as it did. -/
def membersPlaySpec : ChangeSpec := { name := "membersPlay", fn := fun _ => fun
  | [d1, d2, d3] => { results := [.lit (.bool true)], args := [d1, d2, d3] }
  | _ => none }
def membersPlayRow : OpenClaim := { program := "ytpkeclkfgfkddaa", sum := "0a1b8772b86c577a6ad1afb4977babf8207dd7a946123f5acd6e0f6d0937cc20", func := "belfry/belfrylaw21.MembersPlay", spec := "membersPlay", unfollowed := true, recurses := true, apart := false }
def MembersPlaySaid : Prop := membersPlayRow.holds Try.pinned (OpenSpec.ofChange membersPlaySpec)

/-- ITS FALSE NEIGHBOUR: 'it returns false'. Refute it at one input. -/
def membersPlayWrong : ChangeSpec := { name := "membersPlay", fn := fun _ => fun
  | [d1, d2, d3] => { results := [.lit (.bool false)], args := [d1, d2, d3] }
  | _ => none }
def MembersPlayWrongFalsely : Prop := membersPlayRow.holds Try.pinned (OpenSpec.ofChange membersPlayWrong)

/-- 'belfrylaw21.MembersLeave': WHATEVER THE INPUT: true; the input reads as it did. -/
def membersLeaveSpec : ChangeSpec := { name := "membersLeave", fn := fun _ => fun
  | [d1, d2, d3] => { results := [.lit (.bool true)], args := [d1, d2, d3] }
  | _ => none }
def membersLeaveRow : OpenClaim := { program := "ytpkeclkfgfkddaa", sum := "0a1b8772b86c577a6ad1afb4977babf8207dd7a946123f5acd6e0f6d0937cc20", func := "belfry/belfrylaw21.MembersLeave", spec := "membersLeave", unfollowed := true, recurses := true, apart := false }
def MembersLeaveSaid : Prop := membersLeaveRow.holds Try.pinned (OpenSpec.ofChange membersLeaveSpec)

/-- ITS FALSE NEIGHBOUR: 'it returns false'. Refute it at one input. -/
def membersLeaveWrong : ChangeSpec := { name := "membersLeave", fn := fun _ => fun
  | [d1, d2, d3] => { results := [.lit (.bool false)], args := [d1, d2, d3] }
  | _ => none }
def MembersLeaveWrongFalsely : Prop := membersLeaveRow.holds Try.pinned (OpenSpec.ofChange membersLeaveWrong)

/-- 'belfrylaw21.MembersSame': WHATEVER THE INPUT: true; the input reads as it did. -/
def membersSameSpec : ChangeSpec := { name := "membersSame", fn := fun _ => fun
  | [d1, d2] => { results := [.lit (.bool true)], args := [d1, d2] }
  | _ => none }
def membersSameRow : OpenClaim := { program := "ytpkeclkfgfkddaa", sum := "0a1b8772b86c577a6ad1afb4977babf8207dd7a946123f5acd6e0f6d0937cc20", func := "belfry/belfrylaw21.MembersSame", spec := "membersSame", unfollowed := true, recurses := true, apart := false }
def MembersSameSaid : Prop := membersSameRow.holds Try.pinned (OpenSpec.ofChange membersSameSpec)

/-- ITS FALSE NEIGHBOUR: 'it returns false'. Refute it at one input. -/
def membersSameWrong : ChangeSpec := { name := "membersSame", fn := fun _ => fun
  | [d1, d2] => { results := [.lit (.bool false)], args := [d1, d2] }
  | _ => none }
def MembersSameWrongFalsely : Prop := membersSameRow.holds Try.pinned (OpenSpec.ofChange membersSameWrong)

/-- 'belfrylaw21.MembersAlone': WHATEVER THE INPUT: true; the input reads as it did. -/
def membersAloneSpec : ChangeSpec := { name := "membersAlone", fn := fun _ => fun
  | [d] => { results := [.lit (.bool true)], args := [d] }
  | _ => none }
def membersAloneRow : OpenClaim := { program := "ytpkeclkfgfkddaa", sum := "0a1b8772b86c577a6ad1afb4977babf8207dd7a946123f5acd6e0f6d0937cc20", func := "belfry/belfrylaw21.MembersAlone", spec := "membersAlone", unfollowed := true, recurses := true, apart := false }
def MembersAloneSaid : Prop := membersAloneRow.holds Try.pinned (OpenSpec.ofChange membersAloneSpec)

/-- ITS FALSE NEIGHBOUR: 'it returns false'. Refute it at one input. -/
def membersAloneWrong : ChangeSpec := { name := "membersAlone", fn := fun _ => fun
  | [d] => { results := [.lit (.bool false)], args := [d] }
  | _ => none }
def MembersAloneWrongFalsely : Prop := membersAloneRow.holds Try.pinned (OpenSpec.ofChange membersAloneWrong)

/- THE SECOND FORM. 'bulk': how many values and letters a reading holds, each counted each time it is reached (what is shared counts as often as it is met; a slice's spare places count too). A statement '..UptoSaid' is the law's where the arguments, and the package variables that the reading takes, are together of bulk at most 1048576: NARROWER than '..Said'. Prove '..Said' where nothing that the law and all that it calls make is longer than what came in: it says more and counts as full. Else prove '..UptoSaid'. A law counts once. -/
mutual
def uptoBulk {H : Type} : DataW H → Nat
  | .lit (.string bytes) => bytes.length + 1
  | .lit _ => 1
  | .nil => 1
  | .ptr d => uptoBulk d + 1
  | .slice elems spare => uptoBulkAll elems + uptoBulkAll spare + 1
  | .agg parts => uptoBulkAll parts + 1
  | .iface _ d => uptoBulk d + 1
  | .map entries => uptoBulkEntries entries + 1
  | .held _ => 1
def uptoBulkAll {H : Type} : List (DataW H) → Nat
  | [] => 0
  | d :: r => uptoBulk d + uptoBulkAll r
def uptoBulkEntries {H : Type} : List (Lit × DataW H) → Nat
  | [] => 0
  | x :: r => uptoBulkEntry x + uptoBulkEntries r
def uptoBulkEntry {H : Type} : Lit × DataW H → Nat
  | (.string bytes, d) => bytes.length + uptoBulk d + 1
  | (_, d) => uptoBulk d + 1
 end
def uptoSmall : (H : Type) → List (DataW H) → Bool := fun _ ds => decide (uptoBulkAll ds ≤ 1048576)
def OpenSpec.upto (s : _root_.Go.ChangeSpec) : _root_.Go.OpenSpec := { _root_.Go.OpenSpec.ofChange s with cond := some uptoSmall }

/-- 'belfrylaw21.MembersPlay', WHERE WHAT IT READS IS OF BULK AT MOST 1048576: true; the input reads as it did. -/
def membersPlayUptoRow : OpenClaim := { program := "ytpkeclkfgfkddaa", sum := "0a1b8772b86c577a6ad1afb4977babf8207dd7a946123f5acd6e0f6d0937cc20", func := "belfry/belfrylaw21.MembersPlay", spec := "membersPlay", unfollowed := true, recurses := true, apart := false, narrowed := true }
def MembersPlayUptoSaid : Prop := membersPlayUptoRow.holds Try.pinned (OpenSpec.upto membersPlaySpec)

/-- 'belfrylaw21.MembersLeave', WHERE WHAT IT READS IS OF BULK AT MOST 1048576: true; the input reads as it did. -/
def membersLeaveUptoRow : OpenClaim := { program := "ytpkeclkfgfkddaa", sum := "0a1b8772b86c577a6ad1afb4977babf8207dd7a946123f5acd6e0f6d0937cc20", func := "belfry/belfrylaw21.MembersLeave", spec := "membersLeave", unfollowed := true, recurses := true, apart := false, narrowed := true }
def MembersLeaveUptoSaid : Prop := membersLeaveUptoRow.holds Try.pinned (OpenSpec.upto membersLeaveSpec)

/-- 'belfrylaw21.MembersSame', WHERE WHAT IT READS IS OF BULK AT MOST 1048576: true; the input reads as it did. -/
def membersSameUptoRow : OpenClaim := { program := "ytpkeclkfgfkddaa", sum := "0a1b8772b86c577a6ad1afb4977babf8207dd7a946123f5acd6e0f6d0937cc20", func := "belfry/belfrylaw21.MembersSame", spec := "membersSame", unfollowed := true, recurses := true, apart := false, narrowed := true }
def MembersSameUptoSaid : Prop := membersSameUptoRow.holds Try.pinned (OpenSpec.upto membersSameSpec)

/-- 'belfrylaw21.MembersAlone', WHERE WHAT IT READS IS OF BULK AT MOST 1048576: true; the input reads as it did. -/
def membersAloneUptoRow : OpenClaim := { program := "ytpkeclkfgfkddaa", sum := "0a1b8772b86c577a6ad1afb4977babf8207dd7a946123f5acd6e0f6d0937cc20", func := "belfry/belfrylaw21.MembersAlone", spec := "membersAlone", unfollowed := true, recurses := true, apart := false, narrowed := true }
def MembersAloneUptoSaid : Prop := membersAloneUptoRow.holds Try.pinned (OpenSpec.upto membersAloneSpec)

end Rows
end Go.Proofs.Ytpkeclkfgfkddaa
