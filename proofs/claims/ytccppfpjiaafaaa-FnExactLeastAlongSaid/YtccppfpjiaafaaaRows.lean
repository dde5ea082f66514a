/-
  No cell of these rows narrows 'for every input' (looked for: loops, veiled, ifaces, maps, wideKeys, modest, calm, conditions, laid).
  DERIVED. THE GIVEN ROWS OF THIS SEAT. 8 by the template 'for every input the law returns true; each argument reads behind the call as it read before'; 0 by the template 'total and deterministic' (their statements: YtccppfpjiaafaaaTotals.lean).
  GIVEN WITH THE SEED: the statements are not yours to turn. If you find one false, say at which input.
  Laid BY PROGRAM, IN A SANDBOX (cutbox-rows.mjs): the forced cells as the released guide's own fill.sh prints them over the translation b87cb32605ced86a… (all of the seat's roots in one cut). By AI agents, Wed Nov 11 2026. No macro, syntax, notation, axiom, sorry.
-/
import Derived.Test.YtccppfpjiaafaaaChecked
import GoSem.Claim
import GoSem.ClaimJoined
import GoSem.ClaimMapViews
import Derived.JoinedTies
import Derived.KernelRfl
namespace Go.Proofs.Ytccppfpjiaafaaa
/- THE CELL 'sum', in the pinned program and in every row, IS THE sha256 OF THE DUMP (.gsa) THAT YtccppfpjiaafaaaProg.lean LOADS. Nothing in Lean hashes anything: it is a label: what it is worth is what the hold of that sum in a sandbox is worth. -/
noncomputable def Try.pinned : Pinned := { name := "ytccppfpjiaafaaa", sum := "b87cb32605ced86af533f2c5d100a59e55222e565fd2e6c454ad4b50a12e4a73", checked := Try.checked }
namespace Rows
def none {H : Type} : Left H := { results := [], args := [] }

/-- 'laws.FnExactIsProgram': WHATEVER THE INPUT: true; the input reads as it did. -/
def fnExactIsProgramSpec : ChangeSpec := { name := "fnExactIsProgram", fn := fun _ => fun
  | [d] => { results := [.lit (.bool true)], args := [d] }
  | _ => none }
def fnExactIsProgramRow : OpenClaim := { program := "ytccppfpjiaafaaa", sum := "b87cb32605ced86af533f2c5d100a59e55222e565fd2e6c454ad4b50a12e4a73", func := "loop.example/g01343/laws.FnExactIsProgram", spec := "fnExactIsProgram", unfollowed := true, recurses := true, apart := false }
def FnExactIsProgramSaid : Prop := fnExactIsProgramRow.holds Try.pinned (OpenSpec.ofChange fnExactIsProgramSpec)

/-- ITS FALSE NEIGHBOUR: 'it returns false'. Refute it at one input. -/
def fnExactIsProgramWrong : ChangeSpec := { name := "fnExactIsProgram", fn := fun _ => fun
  | [d] => { results := [.lit (.bool false)], args := [d] }
  | _ => none }
def FnExactIsProgramWrongFalsely : Prop := fnExactIsProgramRow.holds Try.pinned (OpenSpec.ofChange fnExactIsProgramWrong)

/-- 'laws.FnExactRenumberProblem': WHATEVER THE INPUT: true; the input reads as it did. -/
def fnExactRenumberProblemSpec : ChangeSpec := { name := "fnExactRenumberProblem", fn := fun _ => fun
  | [d1, d2] => { results := [.lit (.bool true)], args := [d1, d2] }
  | _ => none }
def fnExactRenumberProblemRow : OpenClaim := { program := "ytccppfpjiaafaaa", sum := "b87cb32605ced86af533f2c5d100a59e55222e565fd2e6c454ad4b50a12e4a73", func := "loop.example/g01343/laws.FnExactRenumberProblem", spec := "fnExactRenumberProblem", unfollowed := true, recurses := true, apart := false }
def FnExactRenumberProblemSaid : Prop := fnExactRenumberProblemRow.holds Try.pinned (OpenSpec.ofChange fnExactRenumberProblemSpec)

/-- ITS FALSE NEIGHBOUR: 'it returns false'. Refute it at one input. -/
def fnExactRenumberProblemWrong : ChangeSpec := { name := "fnExactRenumberProblem", fn := fun _ => fun
  | [d1, d2] => { results := [.lit (.bool false)], args := [d1, d2] }
  | _ => none }
def FnExactRenumberProblemWrongFalsely : Prop := fnExactRenumberProblemRow.holds Try.pinned (OpenSpec.ofChange fnExactRenumberProblemWrong)

/-- 'laws.FnExactGameProblem': WHATEVER THE INPUT: true; the input reads as it did. -/
def fnExactGameProblemSpec : ChangeSpec := { name := "fnExactGameProblem", fn := fun _ => fun
  | [d] => { results := [.lit (.bool true)], args := [d] }
  | _ => none }
def fnExactGameProblemRow : OpenClaim := { program := "ytccppfpjiaafaaa", sum := "b87cb32605ced86af533f2c5d100a59e55222e565fd2e6c454ad4b50a12e4a73", func := "loop.example/g01343/laws.FnExactGameProblem", spec := "fnExactGameProblem", unfollowed := true, recurses := true, apart := false }
def FnExactGameProblemSaid : Prop := fnExactGameProblemRow.holds Try.pinned (OpenSpec.ofChange fnExactGameProblemSpec)

/-- ITS FALSE NEIGHBOUR: 'it returns false'. Refute it at one input. -/
def fnExactGameProblemWrong : ChangeSpec := { name := "fnExactGameProblem", fn := fun _ => fun
  | [d] => { results := [.lit (.bool false)], args := [d] }
  | _ => none }
def FnExactGameProblemWrongFalsely : Prop := fnExactGameProblemRow.holds Try.pinned (OpenSpec.ofChange fnExactGameProblemWrong)

/-- 'laws.FnExactProgramProblem': WHATEVER THE INPUT: true; the input reads as it did. -/
def fnExactProgramProblemSpec : ChangeSpec := { name := "fnExactProgramProblem", fn := fun _ => fun
  | [d] => { results := [.lit (.bool true)], args := [d] }
  | _ => none }
def fnExactProgramProblemRow : OpenClaim := { program := "ytccppfpjiaafaaa", sum := "b87cb32605ced86af533f2c5d100a59e55222e565fd2e6c454ad4b50a12e4a73", func := "loop.example/g01343/laws.FnExactProgramProblem", spec := "fnExactProgramProblem", unfollowed := true, recurses := true, apart := false }
def FnExactProgramProblemSaid : Prop := fnExactProgramProblemRow.holds Try.pinned (OpenSpec.ofChange fnExactProgramProblemSpec)

/-- ITS FALSE NEIGHBOUR: 'it returns false'. Refute it at one input. -/
def fnExactProgramProblemWrong : ChangeSpec := { name := "fnExactProgramProblem", fn := fun _ => fun
  | [d] => { results := [.lit (.bool false)], args := [d] }
  | _ => none }
def FnExactProgramProblemWrongFalsely : Prop := fnExactProgramProblemRow.holds Try.pinned (OpenSpec.ofChange fnExactProgramProblemWrong)

/-- 'laws.FnExactAddPrograms': WHATEVER THE INPUT: true; the input reads as it did. -/
def fnExactAddProgramsSpec : ChangeSpec := { name := "fnExactAddPrograms", fn := fun _ => fun
  | [d1, d2] => { results := [.lit (.bool true)], args := [d1, d2] }
  | _ => none }
def fnExactAddProgramsRow : OpenClaim := { program := "ytccppfpjiaafaaa", sum := "b87cb32605ced86af533f2c5d100a59e55222e565fd2e6c454ad4b50a12e4a73", func := "loop.example/g01343/laws.FnExactAddPrograms", spec := "fnExactAddPrograms", unfollowed := true, recurses := true, apart := false }
def FnExactAddProgramsSaid : Prop := fnExactAddProgramsRow.holds Try.pinned (OpenSpec.ofChange fnExactAddProgramsSpec)

/-- ITS FALSE NEIGHBOUR: 'it returns false'. Refute it at one input. -/
def fnExactAddProgramsWrong : ChangeSpec := { name := "fnExactAddPrograms", fn := fun _ => fun
  | [d1, d2] => { results := [.lit (.bool false)], args := [d1, d2] }
  | _ => none }
def FnExactAddProgramsWrongFalsely : Prop := fnExactAddProgramsRow.holds Try.pinned (OpenSpec.ofChange fnExactAddProgramsWrong)

/-- 'laws.FnExactScaleProgram': WHATEVER THE INPUT: true; the input reads as it did. -/
def fnExactScaleProgramSpec : ChangeSpec := { name := "fnExactScaleProgram", fn := fun _ => fun
  | [d1, d2] => { results := [.lit (.bool true)], args := [d1, d2] }
  | _ => none }
def fnExactScaleProgramRow : OpenClaim := { program := "ytccppfpjiaafaaa", sum := "b87cb32605ced86af533f2c5d100a59e55222e565fd2e6c454ad4b50a12e4a73", func := "loop.example/g01343/laws.FnExactScaleProgram", spec := "fnExactScaleProgram", unfollowed := true, recurses := true, apart := false }
def FnExactScaleProgramSaid : Prop := fnExactScaleProgramRow.holds Try.pinned (OpenSpec.ofChange fnExactScaleProgramSpec)

/-- ITS FALSE NEIGHBOUR: 'it returns false'. Refute it at one input. -/
def fnExactScaleProgramWrong : ChangeSpec := { name := "fnExactScaleProgram", fn := fun _ => fun
  | [d1, d2] => { results := [.lit (.bool false)], args := [d1, d2] }
  | _ => none }
def FnExactScaleProgramWrongFalsely : Prop := fnExactScaleProgramRow.holds Try.pinned (OpenSpec.ofChange fnExactScaleProgramWrong)

/-- 'laws.FnExactLeastAlong': WHATEVER THE INPUT: true; the input reads as it did. -/
def fnExactLeastAlongSpec : ChangeSpec := { name := "fnExactLeastAlong", fn := fun _ => fun
  | [d1, d2, d3] => { results := [.lit (.bool true)], args := [d1, d2, d3] }
  | _ => none }
def fnExactLeastAlongRow : OpenClaim := { program := "ytccppfpjiaafaaa", sum := "b87cb32605ced86af533f2c5d100a59e55222e565fd2e6c454ad4b50a12e4a73", func := "loop.example/g01343/laws.FnExactLeastAlong", spec := "fnExactLeastAlong", unfollowed := true, recurses := true, apart := false }
def FnExactLeastAlongSaid : Prop := fnExactLeastAlongRow.holds Try.pinned (OpenSpec.ofChange fnExactLeastAlongSpec)

/-- ITS FALSE NEIGHBOUR: 'it returns false'. Refute it at one input. -/
def fnExactLeastAlongWrong : ChangeSpec := { name := "fnExactLeastAlong", fn := fun _ => fun
  | [d1, d2, d3] => { results := [.lit (.bool false)], args := [d1, d2, d3] }
  | _ => none }
def FnExactLeastAlongWrongFalsely : Prop := fnExactLeastAlongRow.holds Try.pinned (OpenSpec.ofChange fnExactLeastAlongWrong)

/-- 'laws.FnExactDualProgram': WHATEVER THE INPUT: true; the input reads as it did. -/
def fnExactDualProgramSpec : ChangeSpec := { name := "fnExactDualProgram", fn := fun _ => fun
  | [d] => { results := [.lit (.bool true)], args := [d] }
  | _ => none }
def fnExactDualProgramRow : OpenClaim := { program := "ytccppfpjiaafaaa", sum := "b87cb32605ced86af533f2c5d100a59e55222e565fd2e6c454ad4b50a12e4a73", func := "loop.example/g01343/laws.FnExactDualProgram", spec := "fnExactDualProgram", unfollowed := true, recurses := true, apart := false }
def FnExactDualProgramSaid : Prop := fnExactDualProgramRow.holds Try.pinned (OpenSpec.ofChange fnExactDualProgramSpec)

/-- ITS FALSE NEIGHBOUR: 'it returns false'. Refute it at one input. -/
def fnExactDualProgramWrong : ChangeSpec := { name := "fnExactDualProgram", fn := fun _ => fun
  | [d] => { results := [.lit (.bool false)], args := [d] }
  | _ => none }
def FnExactDualProgramWrongFalsely : Prop := fnExactDualProgramRow.holds Try.pinned (OpenSpec.ofChange fnExactDualProgramWrong)

/- THE SECOND FORM. 'bulk': how many values and letters a reading holds, each counted each time it is reached (what is shared counts as often as it is met; a slice's spare places count too). A statement '..UptoSaid' is the law's where the arguments, and the package variables that the reading takes, are together of bulk at most 1048576: NARROWER than '..Said'. Prove '..Said' where nothing that the law and all that it calls make is longer than what came in: it says more and counts as full. Else prove '..UptoSaid'. A law counts once. -/
mutual
def uptoBulk {H : Type} : DataW H → Nat
  | .lit (.string bytes) => bytes.length + 1
  | .lit _ => 1
  | .nil => 1
  | .ptr d => uptoBulk d + 1
  | .slice elems spare => uptoBulkAll elems + uptoBulkAll spare + 1
  | .agg parts => uptoBulkAll parts + 1
  | .iface _ d => uptoBulk d + 1
  | .map entries => uptoBulkEntries entries + 1
  | .held _ => 1
def uptoBulkAll {H : Type} : List (DataW H) → Nat
  | [] => 0
  | d :: r => uptoBulk d + uptoBulkAll r
def uptoBulkEntries {H : Type} : List (Lit × DataW H) → Nat
  | [] => 0
  | x :: r => uptoBulkEntry x + uptoBulkEntries r
def uptoBulkEntry {H : Type} : Lit × DataW H → Nat
  | (.string bytes, d) => bytes.length + uptoBulk d + 1
  | (_, d) => uptoBulk d + 1
 end
def uptoSmall : (H : Type) → List (DataW H) → Bool := fun _ ds => decide (uptoBulkAll ds ≤ 1048576)
def OpenSpec.upto (s : _root_.Go.ChangeSpec) : _root_.Go.OpenSpec := { _root_.Go.OpenSpec.ofChange s with cond := some uptoSmall }

/-- 'laws.FnExactIsProgram', WHERE WHAT IT READS IS OF BULK AT MOST 1048576: true; the input reads as it did. -/
def fnExactIsProgramUptoRow : OpenClaim := { program := "ytccppfpjiaafaaa", sum := "b87cb32605ced86af533f2c5d100a59e55222e565fd2e6c454ad4b50a12e4a73", func := "loop.example/g01343/laws.FnExactIsProgram", spec := "fnExactIsProgram", unfollowed := true, recurses := true, apart := false, narrowed := true }
def FnExactIsProgramUptoSaid : Prop := fnExactIsProgramUptoRow.holds Try.pinned (OpenSpec.upto fnExactIsProgramSpec)

/-- 'laws.FnExactRenumberProblem', WHERE WHAT IT READS IS OF BULK AT MOST 1048576: true; the input reads as it did. -/
def fnExactRenumberProblemUptoRow : OpenClaim := { program := "ytccppfpjiaafaaa", sum := "b87cb32605ced86af533f2c5d100a59e55222e565fd2e6c454ad4b50a12e4a73", func := "loop.example/g01343/laws.FnExactRenumberProblem", spec := "fnExactRenumberProblem", unfollowed := true, recurses := true, apart := false, narrowed := true }
def FnExactRenumberProblemUptoSaid : Prop := fnExactRenumberProblemUptoRow.holds Try.pinned (OpenSpec.upto fnExactRenumberProblemSpec)

/-- 'laws.FnExactGameProblem', WHERE WHAT IT READS IS OF BULK AT MOST 1048576: true; the input reads as it did. -/
def fnExactGameProblemUptoRow : OpenClaim := { program := "ytccppfpjiaafaaa", sum := "b87cb32605ced86af533f2c5d100a59e55222e565fd2e6c454ad4b50a12e4a73", func := "loop.example/g01343/laws.FnExactGameProblem", spec := "fnExactGameProblem", unfollowed := true, recurses := true, apart := false, narrowed := true }
def FnExactGameProblemUptoSaid : Prop := fnExactGameProblemUptoRow.holds Try.pinned (OpenSpec.upto fnExactGameProblemSpec)

/-- 'laws.FnExactProgramProblem', WHERE WHAT IT READS IS OF BULK AT MOST 1048576: true; the input reads as it did. -/
def fnExactProgramProblemUptoRow : OpenClaim := { program := "ytccppfpjiaafaaa", sum := "b87cb32605ced86af533f2c5d100a59e55222e565fd2e6c454ad4b50a12e4a73", func := "loop.example/g01343/laws.FnExactProgramProblem", spec := "fnExactProgramProblem", unfollowed := true, recurses := true, apart := false, narrowed := true }
def FnExactProgramProblemUptoSaid : Prop := fnExactProgramProblemUptoRow.holds Try.pinned (OpenSpec.upto fnExactProgramProblemSpec)

/-- 'laws.FnExactAddPrograms', WHERE WHAT IT READS IS OF BULK AT MOST 1048576: true; the input reads as it did. -/
def fnExactAddProgramsUptoRow : OpenClaim := { program := "ytccppfpjiaafaaa", sum := "b87cb32605ced86af533f2c5d100a59e55222e565fd2e6c454ad4b50a12e4a73", func := "loop.example/g01343/laws.FnExactAddPrograms", spec := "fnExactAddPrograms", unfollowed := true, recurses := true, apart := false, narrowed := true }
def FnExactAddProgramsUptoSaid : Prop := fnExactAddProgramsUptoRow.holds Try.pinned (OpenSpec.upto fnExactAddProgramsSpec)

/-- 'laws.FnExactScaleProgram', WHERE WHAT IT READS IS OF BULK AT MOST 1048576: true; the input reads as it did. -/
def fnExactScaleProgramUptoRow : OpenClaim := { program := "ytccppfpjiaafaaa", sum := "b87cb32605ced86af533f2c5d100a59e55222e565fd2e6c454ad4b50a12e4a73", func := "loop.example/g01343/laws.FnExactScaleProgram", spec := "fnExactScaleProgram", unfollowed := true, recurses := true, apart := false, narrowed := true }
def FnExactScaleProgramUptoSaid : Prop := fnExactScaleProgramUptoRow.holds Try.pinned (OpenSpec.upto fnExactScaleProgramSpec)

/-- 'laws.FnExactLeastAlong', WHERE WHAT IT READS IS OF BULK AT MOST 1048576: true; the input reads as it did. -/
def fnExactLeastAlongUptoRow : OpenClaim := { program := "ytccppfpjiaafaaa", sum := "b87cb32605ced86af533f2c5d100a59e55222e565fd2e6c454ad4b50a12e4a73", func := "loop.example/g01343/laws.FnExactLeastAlong", spec := "fnExactLeastAlong", unfollowed := true, recurses := true, apart := false, narrowed := true }
def FnExactLeastAlongUptoSaid : Prop := fnExactLeastAlongUptoRow.holds Try.pinned (OpenSpec.upto fnExactLeastAlongSpec)

/-- 'laws.FnExactDualProgram', WHERE WHAT IT READS IS OF BULK AT MOST 1048576: true; the input reads as it did. -/
def fnExactDualProgramUptoRow : OpenClaim := { program := "ytccppfpjiaafaaa", sum := "b87cb32605ced86af533f2c5d100a59e55222e565fd2e6c454ad4b50a12e4a73", func := "loop.example/g01343/laws.FnExactDualProgram", spec := "fnExactDualProgram", unfollowed := true, recurses := true, apart := false, narrowed := true }
def FnExactDualProgramUptoSaid : Prop := fnExactDualProgramUptoRow.holds Try.pinned (OpenSpec.upto fnExactDualProgramSpec)

end Rows
end Go.Proofs.Ytccppfpjiaafaaa
