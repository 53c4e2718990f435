/-
  No cell of these rows narrows 'for every input' (looked for: loops, veiled, ifaces, maps, wideKeys, modest, calm, conditions, laid).
  DERIVED. THE GIVEN ROWS OF THIS SEAT. 3 by the template 'for every input the law returns true; each argument reads behind the call as it read before'; 0 by the template 'total and deterministic' (their statements: YtikceomnkkpljaaTotals.lean).
  GIVEN WITH THE SEED: the statements are not yours to turn. If you find one false, say at which input.
  Laid BY PROGRAM, IN A SANDBOX (cutbox-rows.mjs): the forced cells as the released guide's own fill.sh prints them over the translation 0bf6ca5e15d91214… (all of the seat's roots in one cut). By AI agents, Wed Nov 11 2026. No macro, syntax, notation, axiom, sorry.
-/
import Derived.Test.YtikceomnkkpljaaChecked
import GoSem.Claim
import GoSem.ClaimJoined
import GoSem.ClaimMapViews
import Derived.JoinedTies
import Derived.KernelRfl
namespace Go.Proofs.Ytikceomnkkpljaa
/- THE CELL 'sum', in the pinned program and in every row, IS THE sha256 OF THE DUMP (.gsa) THAT YtikceomnkkpljaaProg.lean LOADS. Nothing in Lean hashes anything: it is a label: what it is worth is what the hold of that sum in a sandbox is worth. -/
noncomputable def Try.pinned : Pinned := { name := "ytikceomnkkpljaa", sum := "0bf6ca5e15d91214f331393778c04a52012f4ecf73f1280078b6c802d2f3bc93", checked := Try.checked }
namespace Rows
def none {H : Type} : Left H := { results := [], args := [] }

/-- 'harrierlaw32.HuntSyns': WHATEVER THE INPUT: true; the input reads as it did. -/
def huntSynsSpec : ChangeSpec := { name := "huntSyns", fn := fun _ => fun
  | [d1, d2] => { results := [.lit (.bool true)], args := [d1, d2] }
  | _ => none }
def huntSynsRow : OpenClaim := { program := "ytikceomnkkpljaa", sum := "0bf6ca5e15d91214f331393778c04a52012f4ecf73f1280078b6c802d2f3bc93", func := "harrier/harrierlaw32.HuntSyns", spec := "huntSyns", unfollowed := true, recurses := true, apart := false }
def HuntSynsSaid : Prop := huntSynsRow.holds Try.pinned (OpenSpec.ofChange huntSynsSpec)

/-- ITS FALSE NEIGHBOUR: 'it returns false'. Refute it at one input. -/
def huntSynsWrong : ChangeSpec := { name := "huntSyns", fn := fun _ => fun
  | [d1, d2] => { results := [.lit (.bool false)], args := [d1, d2] }
  | _ => none }
def HuntSynsWrongFalsely : Prop := huntSynsRow.holds Try.pinned (OpenSpec.ofChange huntSynsWrong)

/-- 'harrierlaw32.HuntSearches': WHATEVER THE INPUT: true; the input reads as it did. -/
def huntSearchesSpec : ChangeSpec := { name := "huntSearches", fn := fun _ => fun
  | [d1, d2, d3] => { results := [.lit (.bool true)], args := [d1, d2, d3] }
  | _ => none }
def huntSearchesRow : OpenClaim := { program := "ytikceomnkkpljaa", sum := "0bf6ca5e15d91214f331393778c04a52012f4ecf73f1280078b6c802d2f3bc93", func := "harrier/harrierlaw32.HuntSearches", spec := "huntSearches", unfollowed := true, recurses := true, apart := false }
def HuntSearchesSaid : Prop := huntSearchesRow.holds Try.pinned (OpenSpec.ofChange huntSearchesSpec)

/-- ITS FALSE NEIGHBOUR: 'it returns false'. Refute it at one input. -/
def huntSearchesWrong : ChangeSpec := { name := "huntSearches", fn := fun _ => fun
  | [d1, d2, d3] => { results := [.lit (.bool false)], args := [d1, d2, d3] }
  | _ => none }
def HuntSearchesWrongFalsely : Prop := huntSearchesRow.holds Try.pinned (OpenSpec.ofChange huntSearchesWrong)

/-- 'harrierlaw32.HuntWitnesses': WHATEVER THE INPUT: true; the input reads as it did. -/
def huntWitnessesSpec : ChangeSpec := { name := "huntWitnesses", fn := fun _ => fun
  | [d1, d2] => { results := [.lit (.bool true)], args := [d1, d2] }
  | _ => none }
def huntWitnessesRow : OpenClaim := { program := "ytikceomnkkpljaa", sum := "0bf6ca5e15d91214f331393778c04a52012f4ecf73f1280078b6c802d2f3bc93", func := "harrier/harrierlaw32.HuntWitnesses", spec := "huntWitnesses", unfollowed := true, recurses := true, apart := false }
def HuntWitnessesSaid : Prop := huntWitnessesRow.holds Try.pinned (OpenSpec.ofChange huntWitnessesSpec)

/-- ITS FALSE NEIGHBOUR: 'it returns false'. Refute it at one input. -/
def huntWitnessesWrong : ChangeSpec := { name := "huntWitnesses", fn := fun _ => fun
  | [d1, d2] => { results := [.lit (.bool false)], args := [d1, d2] }
  | _ => none }
def HuntWitnessesWrongFalsely : Prop := huntWitnessesRow.holds Try.pinned (OpenSpec.ofChange huntWitnessesWrong)

/- THE SECOND FORM. 'bulk': how many values and letters a reading holds, each counted each time it is reached (what is shared counts as often as it is met; a slice's spare places count too). A statement '..UptoSaid' is the law's where the arguments, and the package variables that the reading takes, are together of bulk at most 1048576: NARROWER than '..Said'. Prove '..Said' where nothing that the law and all that it calls make is longer than what came in: it says more and counts as full. Else prove '..UptoSaid'. A law counts once. -/
mutual
def uptoBulk {H : Type} : DataW H → Nat
  | .lit (.string bytes) => bytes.length + 1
  | .lit _ => 1
  | .nil => 1
  | .ptr d => uptoBulk d + 1
  | .slice elems spare => uptoBulkAll elems + uptoBulkAll spare + 1
  | .agg parts => uptoBulkAll parts + 1
  | .iface _ d => uptoBulk d + 1
  | .map entries => uptoBulkEntries entries + 1
  | .held _ => 1
def uptoBulkAll {H : Type} : List (DataW H) → Nat
  | [] => 0
  | d :: r => uptoBulk d + uptoBulkAll r
def uptoBulkEntries {H : Type} : List (Lit × DataW H) → Nat
  | [] => 0
  | x :: r => uptoBulkEntry x + uptoBulkEntries r
def uptoBulkEntry {H : Type} : Lit × DataW H → Nat
  | (.string bytes, d) => bytes.length + uptoBulk d + 1
  | (_, d) => uptoBulk d + 1
 end
def uptoSmall : (H : Type) → List (DataW H) → Bool := fun _ ds => decide (uptoBulkAll ds ≤ 1048576)
def OpenSpec.upto (s : _root_.Go.ChangeSpec) : _root_.Go.OpenSpec := { _root_.Go.OpenSpec.ofChange s with cond := some uptoSmall }

/-- 'harrierlaw32.HuntSyns', WHERE WHAT IT READS IS OF BULK AT MOST 1048576: true; the input reads as it did. -/
def huntSynsUptoRow : OpenClaim := { program := "ytikceomnkkpljaa", sum := "0bf6ca5e15d91214f331393778c04a52012f4ecf73f1280078b6c802d2f3bc93", func := "harrier/harrierlaw32.HuntSyns", spec := "huntSyns", unfollowed := true, recurses := true, apart := false, narrowed := true }
def HuntSynsUptoSaid : Prop := huntSynsUptoRow.holds Try.pinned (OpenSpec.upto huntSynsSpec)

/-- 'harrierlaw32.HuntSearches', WHERE WHAT IT READS IS OF BULK AT MOST 1048576: true; the input reads as it did. -/
def huntSearchesUptoRow : OpenClaim := { program := "ytikceomnkkpljaa", sum := "0bf6ca5e15d91214f331393778c04a52012f4ecf73f1280078b6c802d2f3bc93", func := "harrier/harrierlaw32.HuntSearches", spec := "huntSearches", unfollowed := true, recurses := true, apart := false, narrowed := true }
def HuntSearchesUptoSaid : Prop := huntSearchesUptoRow.holds Try.pinned (OpenSpec.upto huntSearchesSpec)

/-- 'harrierlaw32.HuntWitnesses', WHERE WHAT IT READS IS OF BULK AT MOST 1048576: true; the input reads as it did. -/
def huntWitnessesUptoRow : OpenClaim := { program := "ytikceomnkkpljaa", sum := "0bf6ca5e15d91214f331393778c04a52012f4ecf73f1280078b6c802d2f3bc93", func := "harrier/harrierlaw32.HuntWitnesses", spec := "huntWitnesses", unfollowed := true, recurses := true, apart := false, narrowed := true }
def HuntWitnessesUptoSaid : Prop := huntWitnessesUptoRow.holds Try.pinned (OpenSpec.upto huntWitnessesSpec)

end Rows
end Go.Proofs.Ytikceomnkkpljaa
