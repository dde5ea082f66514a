/-
  No cell of these rows narrows 'for every input' (looked for: loops, veiled, ifaces, maps, wideKeys, modest, calm, conditions, laid).
  DERIVED. THE GIVEN ROWS OF THIS SEAT. 4 by the template 'for every input the law returns true; each argument reads behind the call as it read before'; 0 by the template 'total and deterministic' (their statements: YtioleipoomgmhaaTotals.lean).
  GIVEN WITH THE SEED: the statements are not yours to turn. If you find one false, say at which input.
  Laid BY PROGRAM, IN A SANDBOX (cutbox-rows.mjs): the forced cells as the released guide's own fill.sh prints them over the translation 190b59dc55c98661… (all of the seat's roots in one cut). By AI agents, Wed Nov 11 2026. No macro, syntax, notation, axiom, sorry.
-/
import Derived.Test.YtioleipoomgmhaaChecked
import GoSem.Claim
import GoSem.ClaimJoined
import GoSem.ClaimMapViews
import Derived.JoinedTies
import Derived.KernelRfl
namespace Go.Proofs.Ytioleipoomgmhaa
/- THE CELL 'sum', in the pinned program and in every row, IS THE sha256 OF THE DUMP (.gsa) THAT YtioleipoomgmhaaProg.lean LOADS. Nothing in Lean hashes anything: it is a label: what it is worth is what the hold of that sum in a sandbox is worth. -/
noncomputable def Try.pinned : Pinned := { name := "ytioleipoomgmhaa", sum := "190b59dc55c98661b648b9cb551297a7c0f786cd49e23b015ce5e29f00ce6590", checked := Try.checked }
namespace Rows
def none {H : Type} : Left H := { results := [], args := [] }

/-- 'laws.FnExactGameProblem': WHATEVER THE INPUT: true; the input reads as it did. -/
def fnExactGameProblemSpec : ChangeSpec := { name := "fnExactGameProblem", fn := fun _ => fun
  | [d] => { results := [.lit (.bool true)], args := [d] }
  | _ => none }
def fnExactGameProblemRow : OpenClaim := { program := "ytioleipoomgmhaa", sum := "190b59dc55c98661b648b9cb551297a7c0f786cd49e23b015ce5e29f00ce6590", func := "loop.example/g01343/laws.FnExactGameProblem", spec := "fnExactGameProblem", unfollowed := true, recurses := true, apart := false }
def FnExactGameProblemSaid : Prop := fnExactGameProblemRow.holds Try.pinned (OpenSpec.ofChange fnExactGameProblemSpec)

/-- ITS FALSE NEIGHBOUR: 'it returns false'. Refute it at one input. -/
def fnExactGameProblemWrong : ChangeSpec := { name := "fnExactGameProblem", fn := fun _ => fun
  | [d] => { results := [.lit (.bool false)], args := [d] }
  | _ => none }
def FnExactGameProblemWrongFalsely : Prop := fnExactGameProblemRow.holds Try.pinned (OpenSpec.ofChange fnExactGameProblemWrong)

/-- 'laws.FnExactAddPrograms': WHATEVER THE INPUT: true; the input reads as it did. -/
def fnExactAddProgramsSpec : ChangeSpec := { name := "fnExactAddPrograms", fn := fun _ => fun
  | [d1, d2] => { results := [.lit (.bool true)], args := [d1, d2] }
  | _ => none }
def fnExactAddProgramsRow : OpenClaim := { program := "ytioleipoomgmhaa", sum := "190b59dc55c98661b648b9cb551297a7c0f786cd49e23b015ce5e29f00ce6590", func := "loop.example/g01343/laws.FnExactAddPrograms", spec := "fnExactAddPrograms", unfollowed := true, recurses := true, apart := false }
def FnExactAddProgramsSaid : Prop := fnExactAddProgramsRow.holds Try.pinned (OpenSpec.ofChange fnExactAddProgramsSpec)

/-- ITS FALSE NEIGHBOUR: 'it returns false'. Refute it at one input. -/
def fnExactAddProgramsWrong : ChangeSpec := { name := "fnExactAddPrograms", fn := fun _ => fun
  | [d1, d2] => { results := [.lit (.bool false)], args := [d1, d2] }
  | _ => none }
def FnExactAddProgramsWrongFalsely : Prop := fnExactAddProgramsRow.holds Try.pinned (OpenSpec.ofChange fnExactAddProgramsWrong)

/-- 'laws.FnExactLemkeHowson': WHATEVER THE INPUT: true; the input reads as it did. -/
def fnExactLemkeHowsonSpec : ChangeSpec := { name := "fnExactLemkeHowson", fn := fun _ => fun
  | [d1, d2] => { results := [.lit (.bool true)], args := [d1, d2] }
  | _ => none }
def fnExactLemkeHowsonRow : OpenClaim := { program := "ytioleipoomgmhaa", sum := "190b59dc55c98661b648b9cb551297a7c0f786cd49e23b015ce5e29f00ce6590", func := "loop.example/g01343/laws.FnExactLemkeHowson", spec := "fnExactLemkeHowson", unfollowed := true, recurses := true, apart := false }
def FnExactLemkeHowsonSaid : Prop := fnExactLemkeHowsonRow.holds Try.pinned (OpenSpec.ofChange fnExactLemkeHowsonSpec)

/-- ITS FALSE NEIGHBOUR: 'it returns false'. Refute it at one input. -/
def fnExactLemkeHowsonWrong : ChangeSpec := { name := "fnExactLemkeHowson", fn := fun _ => fun
  | [d1, d2] => { results := [.lit (.bool false)], args := [d1, d2] }
  | _ => none }
def FnExactLemkeHowsonWrongFalsely : Prop := fnExactLemkeHowsonRow.holds Try.pinned (OpenSpec.ofChange fnExactLemkeHowsonWrong)

/-- 'laws.FnExactEquilibriaBySets': WHATEVER THE INPUT: true; the input reads as it did. -/
def fnExactEquilibriaBySetsSpec : ChangeSpec := { name := "fnExactEquilibriaBySets", fn := fun _ => fun
  | [d] => { results := [.lit (.bool true)], args := [d] }
  | _ => none }
def fnExactEquilibriaBySetsRow : OpenClaim := { program := "ytioleipoomgmhaa", sum := "190b59dc55c98661b648b9cb551297a7c0f786cd49e23b015ce5e29f00ce6590", func := "loop.example/g01343/laws.FnExactEquilibriaBySets", spec := "fnExactEquilibriaBySets", unfollowed := true, recurses := true, apart := false }
def FnExactEquilibriaBySetsSaid : Prop := fnExactEquilibriaBySetsRow.holds Try.pinned (OpenSpec.ofChange fnExactEquilibriaBySetsSpec)

/-- ITS FALSE NEIGHBOUR: 'it returns false'. Refute it at one input. -/
def fnExactEquilibriaBySetsWrong : ChangeSpec := { name := "fnExactEquilibriaBySets", fn := fun _ => fun
  | [d] => { results := [.lit (.bool false)], args := [d] }
  | _ => none }
def FnExactEquilibriaBySetsWrongFalsely : Prop := fnExactEquilibriaBySetsRow.holds Try.pinned (OpenSpec.ofChange fnExactEquilibriaBySetsWrong)

/- THE SECOND FORM. 'bulk': how many values and letters a reading holds, each counted each time it is reached (what is shared counts as often as it is met; a slice's spare places count too). A statement '..UptoSaid' is the law's where the arguments, and the package variables that the reading takes, are together of bulk at most 1048576: NARROWER than '..Said'. Prove '..Said' where nothing that the law and all that it calls make is longer than what came in: it says more and counts as full. Else prove '..UptoSaid'. A law counts once. -/
mutual
def uptoBulk {H : Type} : DataW H → Nat
  | .lit (.string bytes) => bytes.length + 1
  | .lit _ => 1
  | .nil => 1
  | .ptr d => uptoBulk d + 1
  | .slice elems spare => uptoBulkAll elems + uptoBulkAll spare + 1
  | .agg parts => uptoBulkAll parts + 1
  | .iface _ d => uptoBulk d + 1
  | .map entries => uptoBulkEntries entries + 1
  | .held _ => 1
def uptoBulkAll {H : Type} : List (DataW H) → Nat
  | [] => 0
  | d :: r => uptoBulk d + uptoBulkAll r
def uptoBulkEntries {H : Type} : List (Lit × DataW H) → Nat
  | [] => 0
  | x :: r => uptoBulkEntry x + uptoBulkEntries r
def uptoBulkEntry {H : Type} : Lit × DataW H → Nat
  | (.string bytes, d) => bytes.length + uptoBulk d + 1
  | (_, d) => uptoBulk d + 1
 end
def uptoSmall : (H : Type) → List (DataW H) → Bool := fun _ ds => decide (uptoBulkAll ds ≤ 1048576)
def OpenSpec.upto (s : _root_.Go.ChangeSpec) : _root_.Go.OpenSpec := { _root_.Go.OpenSpec.ofChange s with cond := some uptoSmall }

/-- 'laws.FnExactGameProblem', WHERE WHAT IT READS IS OF BULK AT MOST 1048576: true; the input reads as it did. -/
def fnExactGameProblemUptoRow : OpenClaim := { program := "ytioleipoomgmhaa", sum := "190b59dc55c98661b648b9cb551297a7c0f786cd49e23b015ce5e29f00ce6590", func := "loop.example/g01343/laws.FnExactGameProblem", spec := "fnExactGameProblem", unfollowed := true, recurses := true, apart := false, narrowed := true }
def FnExactGameProblemUptoSaid : Prop := fnExactGameProblemUptoRow.holds Try.pinned (OpenSpec.upto fnExactGameProblemSpec)

/-- 'laws.FnExactAddPrograms', WHERE WHAT IT READS IS OF BULK AT MOST 1048576: true; the input reads as it did. -/
def fnExactAddProgramsUptoRow : OpenClaim := { program := "ytioleipoomgmhaa", sum := "190b59dc55c98661b648b9cb551297a7c0f786cd49e23b015ce5e29f00ce6590", func := "loop.example/g01343/laws.FnExactAddPrograms", spec := "fnExactAddPrograms", unfollowed := true, recurses := true, apart := false, narrowed := true }
def FnExactAddProgramsUptoSaid : Prop := fnExactAddProgramsUptoRow.holds Try.pinned (OpenSpec.upto fnExactAddProgramsSpec)

/-- 'laws.FnExactLemkeHowson', WHERE WHAT IT READS IS OF BULK AT MOST 1048576: true; the input reads as it did. -/
def fnExactLemkeHowsonUptoRow : OpenClaim := { program := "ytioleipoomgmhaa", sum := "190b59dc55c98661b648b9cb551297a7c0f786cd49e23b015ce5e29f00ce6590", func := "loop.example/g01343/laws.FnExactLemkeHowson", spec := "fnExactLemkeHowson", unfollowed := true, recurses := true, apart := false, narrowed := true }
def FnExactLemkeHowsonUptoSaid : Prop := fnExactLemkeHowsonUptoRow.holds Try.pinned (OpenSpec.upto fnExactLemkeHowsonSpec)

/-- 'laws.FnExactEquilibriaBySets', WHERE WHAT IT READS IS OF BULK AT MOST 1048576: true; the input reads as it did. -/
def fnExactEquilibriaBySetsUptoRow : OpenClaim := { program := "ytioleipoomgmhaa", sum := "190b59dc55c98661b648b9cb551297a7c0f786cd49e23b015ce5e29f00ce6590", func := "loop.example/g01343/laws.FnExactEquilibriaBySets", spec := "fnExactEquilibriaBySets", unfollowed := true, recurses := true, apart := false, narrowed := true }
def FnExactEquilibriaBySetsUptoSaid : Prop := fnExactEquilibriaBySetsUptoRow.holds Try.pinned (OpenSpec.upto fnExactEquilibriaBySetsSpec)

end Rows
end Go.Proofs.Ytioleipoomgmhaa
