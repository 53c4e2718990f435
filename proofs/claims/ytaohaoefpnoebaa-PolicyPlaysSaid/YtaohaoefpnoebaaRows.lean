/-
  No cell of these rows narrows 'for every input' (looked for: loops, veiled, ifaces, maps, wideKeys, modest, calm, conditions, laid).
  DERIVED. THE GIVEN ROWS OF THIS SEAT. 3 by the template 'for every input the law returns true; each argument reads behind the call as it read before'; 0 by the template 'total and deterministic' (their statements: YtaohaoefpnoebaaTotals.lean).
  GIVEN WITH THE SEED: the statements are not yours to turn. If you find one false, say at which input.
  Laid BY PROGRAM, IN A SANDBOX (cutbox-rows.mjs): the forced cells as the released guide's own fill.sh prints them over the translation cfc5d4a9bccdcf6e… (all of the seat's roots in one cut). By AI agents, Wed Nov 11 2026. No macro, syntax, notation, axiom, sorry.
-/
import Derived.Test.YtaohaoefpnoebaaChecked
import GoSem.Claim
import GoSem.ClaimJoined
import GoSem.ClaimMapViews
import Derived.JoinedTies
import Derived.KernelRfl
namespace Go.Proofs.Ytaohaoefpnoebaa
/- THE CELL 'sum', in the pinned program and in every row, IS THE sha256 OF THE DUMP (.gsa) THAT YtaohaoefpnoebaaProg.lean LOADS. Nothing in Lean hashes anything: it is a label: what it is worth is what the hold of that sum in a sandbox is worth. -/
noncomputable def Try.pinned : Pinned := { name := "ytaohaoefpnoebaa", sum := "cfc5d4a9bccdcf6e5a323d4c7e3d169799b4740db391d52800c3c63eb8f8efe5", checked := Try.checked }
namespace Rows
def none {H : Type} : Left H := { results := [], args := [] }

/-- 'harrierlaw28.PolicyPlays': WHATEVER THE INPUT: true; the input reads as it did. -/
def policyPlaysSpec : ChangeSpec := { name := "policyPlays", fn := fun _ => fun
  | [d1, d2] => { results := [.lit (.bool true)], args := [d1, d2] }
  | _ => none }
def policyPlaysRow : OpenClaim := { program := "ytaohaoefpnoebaa", sum := "cfc5d4a9bccdcf6e5a323d4c7e3d169799b4740db391d52800c3c63eb8f8efe5", func := "harrier/harrierlaw28.PolicyPlays", spec := "policyPlays", unfollowed := true, recurses := true, apart := false }
def PolicyPlaysSaid : Prop := policyPlaysRow.holds Try.pinned (OpenSpec.ofChange policyPlaysSpec)

/-- ITS FALSE NEIGHBOUR: 'it returns false'. Refute it at one input. -/
def policyPlaysWrong : ChangeSpec := { name := "policyPlays", fn := fun _ => fun
  | [d1, d2] => { results := [.lit (.bool false)], args := [d1, d2] }
  | _ => none }
def PolicyPlaysWrongFalsely : Prop := policyPlaysRow.holds Try.pinned (OpenSpec.ofChange policyPlaysWrong)

/-- 'harrierlaw28.PolicyMoves': WHATEVER THE INPUT: true; the input reads as it did. -/
def policyMovesSpec : ChangeSpec := { name := "policyMoves", fn := fun _ => fun
  | [d1, d2, d3] => { results := [.lit (.bool true)], args := [d1, d2, d3] }
  | _ => none }
def policyMovesRow : OpenClaim := { program := "ytaohaoefpnoebaa", sum := "cfc5d4a9bccdcf6e5a323d4c7e3d169799b4740db391d52800c3c63eb8f8efe5", func := "harrier/harrierlaw28.PolicyMoves", spec := "policyMoves", unfollowed := true, recurses := true, apart := false }
def PolicyMovesSaid : Prop := policyMovesRow.holds Try.pinned (OpenSpec.ofChange policyMovesSpec)

/-- ITS FALSE NEIGHBOUR: 'it returns false'. Refute it at one input. -/
def policyMovesWrong : ChangeSpec := { name := "policyMoves", fn := fun _ => fun
  | [d1, d2, d3] => { results := [.lit (.bool false)], args := [d1, d2, d3] }
  | _ => none }
def PolicyMovesWrongFalsely : Prop := policyMovesRow.holds Try.pinned (OpenSpec.ofChange policyMovesWrong)

/-- 'harrierlaw28.PolicyNil': WHATEVER THE INPUT: true; the input reads as it did. -/
def policyNilSpec : ChangeSpec := { name := "policyNil", fn := fun _ => fun
  | [d] => { results := [.lit (.bool true)], args := [d] }
  | _ => none }
def policyNilRow : OpenClaim := { program := "ytaohaoefpnoebaa", sum := "cfc5d4a9bccdcf6e5a323d4c7e3d169799b4740db391d52800c3c63eb8f8efe5", func := "harrier/harrierlaw28.PolicyNil", spec := "policyNil", unfollowed := true, recurses := true, apart := false }
def PolicyNilSaid : Prop := policyNilRow.holds Try.pinned (OpenSpec.ofChange policyNilSpec)

/-- ITS FALSE NEIGHBOUR: 'it returns false'. Refute it at one input. -/
def policyNilWrong : ChangeSpec := { name := "policyNil", fn := fun _ => fun
  | [d] => { results := [.lit (.bool false)], args := [d] }
  | _ => none }
def PolicyNilWrongFalsely : Prop := policyNilRow.holds Try.pinned (OpenSpec.ofChange policyNilWrong)

/- THE SECOND FORM. 'bulk': how many values and letters a reading holds, each counted each time it is reached (what is shared counts as often as it is met; a slice's spare places count too). A statement '..UptoSaid' is the law's where the arguments, and the package variables that the reading takes, are together of bulk at most 1048576: NARROWER than '..Said'. Prove '..Said' where nothing that the law and all that it calls make is longer than what came in: it says more and counts as full. Else prove '..UptoSaid'. A law counts once. -/
mutual
def uptoBulk {H : Type} : DataW H → Nat
  | .lit (.string bytes) => bytes.length + 1
  | .lit _ => 1
  | .nil => 1
  | .ptr d => uptoBulk d + 1
  | .slice elems spare => uptoBulkAll elems + uptoBulkAll spare + 1
  | .agg parts => uptoBulkAll parts + 1
  | .iface _ d => uptoBulk d + 1
  | .map entries => uptoBulkEntries entries + 1
  | .held _ => 1
def uptoBulkAll {H : Type} : List (DataW H) → Nat
  | [] => 0
  | d :: r => uptoBulk d + uptoBulkAll r
def uptoBulkEntries {H : Type} : List (Lit × DataW H) → Nat
  | [] => 0
  | x :: r => uptoBulkEntry x + uptoBulkEntries r
def uptoBulkEntry {H : Type} : Lit × DataW H → Nat
  | (.string bytes, d) => bytes.length + uptoBulk d + 1
  | (_, d) => uptoBulk d + 1
 end
def uptoSmall : (H : Type) → List (DataW H) → Bool := fun _ ds => decide (uptoBulkAll ds ≤ 1048576)
def OpenSpec.upto (s : _root_.Go.ChangeSpec) : _root_.Go.OpenSpec := { _root_.Go.OpenSpec.ofChange s with cond := some uptoSmall }

/-- 'harrierlaw28.PolicyPlays', WHERE WHAT IT READS IS OF BULK AT MOST 1048576: true; the input reads as it did. -/
def policyPlaysUptoRow : OpenClaim := { program := "ytaohaoefpnoebaa", sum := "cfc5d4a9bccdcf6e5a323d4c7e3d169799b4740db391d52800c3c63eb8f8efe5", func := "harrier/harrierlaw28.PolicyPlays", spec := "policyPlays", unfollowed := true, recurses := true, apart := false, narrowed := true }
def PolicyPlaysUptoSaid : Prop := policyPlaysUptoRow.holds Try.pinned (OpenSpec.upto policyPlaysSpec)

/-- 'harrierlaw28.PolicyMoves', WHERE WHAT IT READS IS OF BULK AT MOST 1048576: true; the input reads as it did. -/
def policyMovesUptoRow : OpenClaim := { program := "ytaohaoefpnoebaa", sum := "cfc5d4a9bccdcf6e5a323d4c7e3d169799b4740db391d52800c3c63eb8f8efe5", func := "harrier/harrierlaw28.PolicyMoves", spec := "policyMoves", unfollowed := true, recurses := true, apart := false, narrowed := true }
def PolicyMovesUptoSaid : Prop := policyMovesUptoRow.holds Try.pinned (OpenSpec.upto policyMovesSpec)

/-- 'harrierlaw28.PolicyNil', WHERE WHAT IT READS IS OF BULK AT MOST 1048576: true; the input reads as it did. -/
def policyNilUptoRow : OpenClaim := { program := "ytaohaoefpnoebaa", sum := "cfc5d4a9bccdcf6e5a323d4c7e3d169799b4740db391d52800c3c63eb8f8efe5", func := "harrier/harrierlaw28.PolicyNil", spec := "policyNil", unfollowed := true, recurses := true, apart := false, narrowed := true }
def PolicyNilUptoSaid : Prop := policyNilUptoRow.holds Try.pinned (OpenSpec.upto policyNilSpec)

end Rows
end Go.Proofs.Ytaohaoefpnoebaa
