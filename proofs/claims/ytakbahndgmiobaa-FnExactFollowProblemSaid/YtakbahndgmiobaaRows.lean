/-
  No cell of these rows narrows 'for every input' (looked for: loops, veiled, ifaces, maps, wideKeys, modest, calm, conditions, laid).
  DERIVED. THE GIVEN ROWS OF THIS SEAT. 3 by the template 'for every input the law returns true; each argument reads behind the call as it read before'; 0 by the template 'total and deterministic' (their statements: YtakbahndgmiobaaTotals.lean).
  GIVEN WITH THE SEED: the statements are not yours to turn. If you find one false, say at which input.
  Laid BY PROGRAM, IN A SANDBOX (cutbox-rows.mjs): the forced cells as the released guide's own fill.sh prints them over the translation 295f6b8bae78a497… (all of the seat's roots in one cut). By AI agents, Wed Nov 11 2026. No macro, syntax, notation, axiom, sorry.
-/
import Derived.Test.YtakbahndgmiobaaChecked
import GoSem.Claim
import GoSem.ClaimJoined
import GoSem.ClaimMapViews
import Derived.JoinedTies
import Derived.KernelRfl
namespace Go.Proofs.Ytakbahndgmiobaa
/- THE CELL 'sum', in the pinned program and in every row, IS THE sha256 OF THE DUMP (.gsa) THAT YtakbahndgmiobaaProg.lean LOADS. Nothing in Lean hashes anything: it is a label: what it is worth is what the hold of that sum in a sandbox is worth. -/
noncomputable def Try.pinned : Pinned := { name := "ytakbahndgmiobaa", sum := "295f6b8bae78a4976438af8f1bf2226d404cdbfba9b5be7e2e800473d53f6807", checked := Try.checked }
namespace Rows
def none {H : Type} : Left H := { results := [], args := [] }

/-- 'laws.FnExactSetAt': WHATEVER THE INPUT: true; the input reads as it did. -/
def fnExactSetAtSpec : ChangeSpec := { name := "fnExactSetAt", fn := fun _ => fun
  | [d1, d2, d3] => { results := [.lit (.bool true)], args := [d1, d2, d3] }
  | _ => none }
def fnExactSetAtRow : OpenClaim := { program := "ytakbahndgmiobaa", sum := "295f6b8bae78a4976438af8f1bf2226d404cdbfba9b5be7e2e800473d53f6807", func := "loop.example/g01343/laws.FnExactSetAt", spec := "fnExactSetAt", unfollowed := true, recurses := true, apart := false }
def FnExactSetAtSaid : Prop := fnExactSetAtRow.holds Try.pinned (OpenSpec.ofChange fnExactSetAtSpec)

/-- ITS FALSE NEIGHBOUR: 'it returns false'. Refute it at one input. -/
def fnExactSetAtWrong : ChangeSpec := { name := "fnExactSetAt", fn := fun _ => fun
  | [d1, d2, d3] => { results := [.lit (.bool false)], args := [d1, d2, d3] }
  | _ => none }
def FnExactSetAtWrongFalsely : Prop := fnExactSetAtRow.holds Try.pinned (OpenSpec.ofChange fnExactSetAtWrong)

/-- 'laws.FnExactLemkeHowson': WHATEVER THE INPUT: true; the input reads as it did. -/
def fnExactLemkeHowsonSpec : ChangeSpec := { name := "fnExactLemkeHowson", fn := fun _ => fun
  | [d1, d2] => { results := [.lit (.bool true)], args := [d1, d2] }
  | _ => none }
def fnExactLemkeHowsonRow : OpenClaim := { program := "ytakbahndgmiobaa", sum := "295f6b8bae78a4976438af8f1bf2226d404cdbfba9b5be7e2e800473d53f6807", func := "loop.example/g01343/laws.FnExactLemkeHowson", spec := "fnExactLemkeHowson", unfollowed := true, recurses := true, apart := false }
def FnExactLemkeHowsonSaid : Prop := fnExactLemkeHowsonRow.holds Try.pinned (OpenSpec.ofChange fnExactLemkeHowsonSpec)

/-- ITS FALSE NEIGHBOUR: 'it returns false'. Refute it at one input. -/
def fnExactLemkeHowsonWrong : ChangeSpec := { name := "fnExactLemkeHowson", fn := fun _ => fun
  | [d1, d2] => { results := [.lit (.bool false)], args := [d1, d2] }
  | _ => none }
def FnExactLemkeHowsonWrongFalsely : Prop := fnExactLemkeHowsonRow.holds Try.pinned (OpenSpec.ofChange fnExactLemkeHowsonWrong)

/-- 'laws.FnExactFollowProblem': WHATEVER THE INPUT: true; the input reads as it did. -/
def fnExactFollowProblemSpec : ChangeSpec := { name := "fnExactFollowProblem", fn := fun _ => fun
  | [d1, d2] => { results := [.lit (.bool true)], args := [d1, d2] }
  | _ => none }
def fnExactFollowProblemRow : OpenClaim := { program := "ytakbahndgmiobaa", sum := "295f6b8bae78a4976438af8f1bf2226d404cdbfba9b5be7e2e800473d53f6807", func := "loop.example/g01343/laws.FnExactFollowProblem", spec := "fnExactFollowProblem", unfollowed := true, recurses := true, apart := false }
def FnExactFollowProblemSaid : Prop := fnExactFollowProblemRow.holds Try.pinned (OpenSpec.ofChange fnExactFollowProblemSpec)

/-- ITS FALSE NEIGHBOUR: 'it returns false'. Refute it at one input. -/
def fnExactFollowProblemWrong : ChangeSpec := { name := "fnExactFollowProblem", fn := fun _ => fun
  | [d1, d2] => { results := [.lit (.bool false)], args := [d1, d2] }
  | _ => none }
def FnExactFollowProblemWrongFalsely : Prop := fnExactFollowProblemRow.holds Try.pinned (OpenSpec.ofChange fnExactFollowProblemWrong)

/- THE SECOND FORM. 'bulk': how many values and letters a reading holds, each counted each time it is reached (what is shared counts as often as it is met; a slice's spare places count too). A statement '..UptoSaid' is the law's where the arguments, and the package variables that the reading takes, are together of bulk at most 1048576: NARROWER than '..Said'. Prove '..Said' where nothing that the law and all that it calls make is longer than what came in: it says more and counts as full. Else prove '..UptoSaid'. A law counts once. -/
mutual
def uptoBulk {H : Type} : DataW H → Nat
  | .lit (.string bytes) => bytes.length + 1
  | .lit _ => 1
  | .nil => 1
  | .ptr d => uptoBulk d + 1
  | .slice elems spare => uptoBulkAll elems + uptoBulkAll spare + 1
  | .agg parts => uptoBulkAll parts + 1
  | .iface _ d => uptoBulk d + 1
  | .map entries => uptoBulkEntries entries + 1
  | .held _ => 1
def uptoBulkAll {H : Type} : List (DataW H) → Nat
  | [] => 0
  | d :: r => uptoBulk d + uptoBulkAll r
def uptoBulkEntries {H : Type} : List (Lit × DataW H) → Nat
  | [] => 0
  | x :: r => uptoBulkEntry x + uptoBulkEntries r
def uptoBulkEntry {H : Type} : Lit × DataW H → Nat
  | (.string bytes, d) => bytes.length + uptoBulk d + 1
  | (_, d) => uptoBulk d + 1
 end
def uptoSmall : (H : Type) → List (DataW H) → Bool := fun _ ds => decide (uptoBulkAll ds ≤ 1048576)
def OpenSpec.upto (s : _root_.Go.ChangeSpec) : _root_.Go.OpenSpec := { _root_.Go.OpenSpec.ofChange s with cond := some uptoSmall }

/-- 'laws.FnExactSetAt', WHERE WHAT IT READS IS OF BULK AT MOST 1048576: true; the input reads as it did. -/
def fnExactSetAtUptoRow : OpenClaim := { program := "ytakbahndgmiobaa", sum := "295f6b8bae78a4976438af8f1bf2226d404cdbfba9b5be7e2e800473d53f6807", func := "loop.example/g01343/laws.FnExactSetAt", spec := "fnExactSetAt", unfollowed := true, recurses := true, apart := false, narrowed := true }
def FnExactSetAtUptoSaid : Prop := fnExactSetAtUptoRow.holds Try.pinned (OpenSpec.upto fnExactSetAtSpec)

/-- 'laws.FnExactLemkeHowson', WHERE WHAT IT READS IS OF BULK AT MOST 1048576: true; the input reads as it did. -/
def fnExactLemkeHowsonUptoRow : OpenClaim := { program := "ytakbahndgmiobaa", sum := "295f6b8bae78a4976438af8f1bf2226d404cdbfba9b5be7e2e800473d53f6807", func := "loop.example/g01343/laws.FnExactLemkeHowson", spec := "fnExactLemkeHowson", unfollowed := true, recurses := true, apart := false, narrowed := true }
def FnExactLemkeHowsonUptoSaid : Prop := fnExactLemkeHowsonUptoRow.holds Try.pinned (OpenSpec.upto fnExactLemkeHowsonSpec)

/-- 'laws.FnExactFollowProblem', WHERE WHAT IT READS IS OF BULK AT MOST 1048576: true; the input reads as it did. -/
def fnExactFollowProblemUptoRow : OpenClaim := { program := "ytakbahndgmiobaa", sum := "295f6b8bae78a4976438af8f1bf2226d404cdbfba9b5be7e2e800473d53f6807", func := "loop.example/g01343/laws.FnExactFollowProblem", spec := "fnExactFollowProblem", unfollowed := true, recurses := true, apart := false, narrowed := true }
def FnExactFollowProblemUptoSaid : Prop := fnExactFollowProblemUptoRow.holds Try.pinned (OpenSpec.upto fnExactFollowProblemSpec)

end Rows
end Go.Proofs.Ytakbahndgmiobaa
