/-
  No cell of these rows narrows 'for every input' (looked for: loops, veiled, ifaces, maps, wideKeys, modest, calm, conditions, laid).
  DERIVED. THE GIVEN ROWS OF THIS SEAT. 5 by the template 'for every input the law returns true; each argument reads behind the call as it read before'; 0 by the template 'total and deterministic' (their statements: YtanpnljhopankaaTotals.lean).
  GIVEN WITH THE SEED: the statements are not yours to turn. If you find one false, say at which input.
  Laid BY PROGRAM, IN A SANDBOX (cutbox-rows.mjs): the forced cells as the released guide's own fill.sh prints them over the translation c6d5acc2436bfec4… (all of the seat's roots in one cut). By AI agents, Wed Nov 11 2026. No macro, syntax, notation, axiom, sorry.
-/
import Derived.Test.YtanpnljhopankaaChecked
import GoSem.Claim
import GoSem.ClaimJoined
import GoSem.ClaimMapViews
import Derived.JoinedTies
import Derived.KernelRfl
namespace Go.Proofs.Ytanpnljhopankaa
/- THE CELL 'sum', in the pinned program and in every row, IS THE sha256 OF THE DUMP (.gsa) THAT YtanpnljhopankaaProg.lean LOADS. Nothing in Lean hashes anything: it is a label: what it is worth is what the hold of that sum in a sandbox is worth. -/
noncomputable def Try.pinned : Pinned := { name := "ytanpnljhopankaa", sum := "c6d5acc2436bfec4e46912e6daba276e5a717d20b567f48e0602e0380340d003", checked := Try.checked }
namespace Rows
def none {H : Type} : Left H := { results := [], args := [] }

/-- 'laws.FnExactNewDesk': WHATEVER THE INPUT: true; the input reads as it did. -/
def fnExactNewDeskSpec : ChangeSpec := { name := "fnExactNewDesk", fn := fun _ => fun
  | [] => { results := [.lit (.bool true)], args := [] }
  | _ => none }
def fnExactNewDeskRow : OpenClaim := { program := "ytanpnljhopankaa", sum := "c6d5acc2436bfec4e46912e6daba276e5a717d20b567f48e0602e0380340d003", func := "loop.example/g01343/laws.FnExactNewDesk", spec := "fnExactNewDesk", apart := false }
def FnExactNewDeskSaid : Prop := fnExactNewDeskRow.holds Try.pinned (OpenSpec.ofChange fnExactNewDeskSpec)

/-- ITS FALSE NEIGHBOUR: 'it returns false'. Refute it at one input. -/
def fnExactNewDeskWrong : ChangeSpec := { name := "fnExactNewDesk", fn := fun _ => fun
  | [] => { results := [.lit (.bool false)], args := [] }
  | _ => none }
def FnExactNewDeskWrongFalsely : Prop := fnExactNewDeskRow.holds Try.pinned (OpenSpec.ofChange fnExactNewDeskWrong)

/-- 'laws.FnExactIsDesk': WHATEVER THE INPUT: true; the input reads as it did. -/
def fnExactIsDeskSpec : ChangeSpec := { name := "fnExactIsDesk", fn := fun _ => fun
  | [d] => { results := [.lit (.bool true)], args := [d] }
  | _ => none }
def fnExactIsDeskRow : OpenClaim := { program := "ytanpnljhopankaa", sum := "c6d5acc2436bfec4e46912e6daba276e5a717d20b567f48e0602e0380340d003", func := "loop.example/g01343/laws.FnExactIsDesk", spec := "fnExactIsDesk", unfollowed := true, recurses := true, apart := false }
def FnExactIsDeskSaid : Prop := fnExactIsDeskRow.holds Try.pinned (OpenSpec.ofChange fnExactIsDeskSpec)

/-- ITS FALSE NEIGHBOUR: 'it returns false'. Refute it at one input. -/
def fnExactIsDeskWrong : ChangeSpec := { name := "fnExactIsDesk", fn := fun _ => fun
  | [d] => { results := [.lit (.bool false)], args := [d] }
  | _ => none }
def FnExactIsDeskWrongFalsely : Prop := fnExactIsDeskRow.holds Try.pinned (OpenSpec.ofChange fnExactIsDeskWrong)

/-- 'laws.FnExactIsProgram': WHATEVER THE INPUT: true; the input reads as it did. -/
def fnExactIsProgramSpec : ChangeSpec := { name := "fnExactIsProgram", fn := fun _ => fun
  | [d] => { results := [.lit (.bool true)], args := [d] }
  | _ => none }
def fnExactIsProgramRow : OpenClaim := { program := "ytanpnljhopankaa", sum := "c6d5acc2436bfec4e46912e6daba276e5a717d20b567f48e0602e0380340d003", func := "loop.example/g01343/laws.FnExactIsProgram", spec := "fnExactIsProgram", unfollowed := true, recurses := true, apart := false }
def FnExactIsProgramSaid : Prop := fnExactIsProgramRow.holds Try.pinned (OpenSpec.ofChange fnExactIsProgramSpec)

/-- ITS FALSE NEIGHBOUR: 'it returns false'. Refute it at one input. -/
def fnExactIsProgramWrong : ChangeSpec := { name := "fnExactIsProgram", fn := fun _ => fun
  | [d] => { results := [.lit (.bool false)], args := [d] }
  | _ => none }
def FnExactIsProgramWrongFalsely : Prop := fnExactIsProgramRow.holds Try.pinned (OpenSpec.ofChange fnExactIsProgramWrong)

/-- 'laws.FnExactScaleRow': WHATEVER THE INPUT: true; the input reads as it did. -/
def fnExactScaleRowSpec : ChangeSpec := { name := "fnExactScaleRow", fn := fun _ => fun
  | [d1, d2, d3] => { results := [.lit (.bool true)], args := [d1, d2, d3] }
  | _ => none }
def fnExactScaleRowRow : OpenClaim := { program := "ytanpnljhopankaa", sum := "c6d5acc2436bfec4e46912e6daba276e5a717d20b567f48e0602e0380340d003", func := "loop.example/g01343/laws.FnExactScaleRow", spec := "fnExactScaleRow", unfollowed := true, recurses := true, apart := false }
def FnExactScaleRowSaid : Prop := fnExactScaleRowRow.holds Try.pinned (OpenSpec.ofChange fnExactScaleRowSpec)

/-- ITS FALSE NEIGHBOUR: 'it returns false'. Refute it at one input. -/
def fnExactScaleRowWrong : ChangeSpec := { name := "fnExactScaleRow", fn := fun _ => fun
  | [d1, d2, d3] => { results := [.lit (.bool false)], args := [d1, d2, d3] }
  | _ => none }
def FnExactScaleRowWrongFalsely : Prop := fnExactScaleRowRow.holds Try.pinned (OpenSpec.ofChange fnExactScaleRowWrong)

/-- 'laws.FnExactRenumberProblem': WHATEVER THE INPUT: true; the input reads as it did. -/
def fnExactRenumberProblemSpec : ChangeSpec := { name := "fnExactRenumberProblem", fn := fun _ => fun
  | [d1, d2] => { results := [.lit (.bool true)], args := [d1, d2] }
  | _ => none }
def fnExactRenumberProblemRow : OpenClaim := { program := "ytanpnljhopankaa", sum := "c6d5acc2436bfec4e46912e6daba276e5a717d20b567f48e0602e0380340d003", func := "loop.example/g01343/laws.FnExactRenumberProblem", spec := "fnExactRenumberProblem", unfollowed := true, recurses := true, apart := false }
def FnExactRenumberProblemSaid : Prop := fnExactRenumberProblemRow.holds Try.pinned (OpenSpec.ofChange fnExactRenumberProblemSpec)

/-- ITS FALSE NEIGHBOUR: 'it returns false'. Refute it at one input. -/
def fnExactRenumberProblemWrong : ChangeSpec := { name := "fnExactRenumberProblem", fn := fun _ => fun
  | [d1, d2] => { results := [.lit (.bool false)], args := [d1, d2] }
  | _ => none }
def FnExactRenumberProblemWrongFalsely : Prop := fnExactRenumberProblemRow.holds Try.pinned (OpenSpec.ofChange fnExactRenumberProblemWrong)

/- THE SECOND FORM. 'bulk': how many values and letters a reading holds, each counted each time it is reached (what is shared counts as often as it is met; a slice's spare places count too). A statement '..UptoSaid' is the law's where the arguments, and the package variables that the reading takes, are together of bulk at most 1048576: NARROWER than '..Said'. Prove '..Said' where nothing that the law and all that it calls make is longer than what came in: it says more and counts as full. Else prove '..UptoSaid'. A law counts once. -/
mutual
def uptoBulk {H : Type} : DataW H → Nat
  | .lit (.string bytes) => bytes.length + 1
  | .lit _ => 1
  | .nil => 1
  | .ptr d => uptoBulk d + 1
  | .slice elems spare => uptoBulkAll elems + uptoBulkAll spare + 1
  | .agg parts => uptoBulkAll parts + 1
  | .iface _ d => uptoBulk d + 1
  | .map entries => uptoBulkEntries entries + 1
  | .held _ => 1
def uptoBulkAll {H : Type} : List (DataW H) → Nat
  | [] => 0
  | d :: r => uptoBulk d + uptoBulkAll r
def uptoBulkEntries {H : Type} : List (Lit × DataW H) → Nat
  | [] => 0
  | x :: r => uptoBulkEntry x + uptoBulkEntries r
def uptoBulkEntry {H : Type} : Lit × DataW H → Nat
  | (.string bytes, d) => bytes.length + uptoBulk d + 1
  | (_, d) => uptoBulk d + 1
 end
def uptoSmall : (H : Type) → List (DataW H) → Bool := fun _ ds => decide (uptoBulkAll ds ≤ 1048576)
def OpenSpec.upto (s : _root_.Go.ChangeSpec) : _root_.Go.OpenSpec := { _root_.Go.OpenSpec.ofChange s with cond := some uptoSmall }

/-- 'laws.FnExactNewDesk', WHERE WHAT IT READS IS OF BULK AT MOST 1048576: true; the input reads as it did. -/
def fnExactNewDeskUptoRow : OpenClaim := { program := "ytanpnljhopankaa", sum := "c6d5acc2436bfec4e46912e6daba276e5a717d20b567f48e0602e0380340d003", func := "loop.example/g01343/laws.FnExactNewDesk", spec := "fnExactNewDesk", apart := false, narrowed := true }
def FnExactNewDeskUptoSaid : Prop := fnExactNewDeskUptoRow.holds Try.pinned (OpenSpec.upto fnExactNewDeskSpec)

/-- 'laws.FnExactIsDesk', WHERE WHAT IT READS IS OF BULK AT MOST 1048576: true; the input reads as it did. -/
def fnExactIsDeskUptoRow : OpenClaim := { program := "ytanpnljhopankaa", sum := "c6d5acc2436bfec4e46912e6daba276e5a717d20b567f48e0602e0380340d003", func := "loop.example/g01343/laws.FnExactIsDesk", spec := "fnExactIsDesk", unfollowed := true, recurses := true, apart := false, narrowed := true }
def FnExactIsDeskUptoSaid : Prop := fnExactIsDeskUptoRow.holds Try.pinned (OpenSpec.upto fnExactIsDeskSpec)

/-- 'laws.FnExactIsProgram', WHERE WHAT IT READS IS OF BULK AT MOST 1048576: true; the input reads as it did. -/
def fnExactIsProgramUptoRow : OpenClaim := { program := "ytanpnljhopankaa", sum := "c6d5acc2436bfec4e46912e6daba276e5a717d20b567f48e0602e0380340d003", func := "loop.example/g01343/laws.FnExactIsProgram", spec := "fnExactIsProgram", unfollowed := true, recurses := true, apart := false, narrowed := true }
def FnExactIsProgramUptoSaid : Prop := fnExactIsProgramUptoRow.holds Try.pinned (OpenSpec.upto fnExactIsProgramSpec)

/-- 'laws.FnExactScaleRow', WHERE WHAT IT READS IS OF BULK AT MOST 1048576: true; the input reads as it did. -/
def fnExactScaleRowUptoRow : OpenClaim := { program := "ytanpnljhopankaa", sum := "c6d5acc2436bfec4e46912e6daba276e5a717d20b567f48e0602e0380340d003", func := "loop.example/g01343/laws.FnExactScaleRow", spec := "fnExactScaleRow", unfollowed := true, recurses := true, apart := false, narrowed := true }
def FnExactScaleRowUptoSaid : Prop := fnExactScaleRowUptoRow.holds Try.pinned (OpenSpec.upto fnExactScaleRowSpec)

/-- 'laws.FnExactRenumberProblem', WHERE WHAT IT READS IS OF BULK AT MOST 1048576: true; the input reads as it did. -/
def fnExactRenumberProblemUptoRow : OpenClaim := { program := "ytanpnljhopankaa", sum := "c6d5acc2436bfec4e46912e6daba276e5a717d20b567f48e0602e0380340d003", func := "loop.example/g01343/laws.FnExactRenumberProblem", spec := "fnExactRenumberProblem", unfollowed := true, recurses := true, apart := false, narrowed := true }
def FnExactRenumberProblemUptoSaid : Prop := fnExactRenumberProblemUptoRow.holds Try.pinned (OpenSpec.upto fnExactRenumberProblemSpec)

end Rows
end Go.Proofs.Ytanpnljhopankaa
