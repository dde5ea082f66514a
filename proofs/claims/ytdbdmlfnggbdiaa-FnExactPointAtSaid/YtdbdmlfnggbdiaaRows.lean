/-
  No cell of these rows narrows 'for every input' (looked for: loops, veiled, ifaces, maps, wideKeys, modest, calm, conditions, laid).
  DERIVED. THE GIVEN ROWS OF THIS SEAT. 8 by the template 'for every input the law returns true; each argument reads behind the call as it read before'; 0 by the template 'total and deterministic' (their statements: YtdbdmlfnggbdiaaTotals.lean).
  GIVEN WITH THE SEED: the statements are not yours to turn. If you find one false, say at which input.
  Laid BY PROGRAM, IN A SANDBOX (cutbox-rows.mjs): the forced cells as the released guide's own fill.sh prints them over the translation e19e4c562f1b6819… (all of the seat's roots in one cut). By AI agents, Wed Nov 11 2026. No macro, syntax, notation, axiom, sorry.
-/
import Derived.Test.YtdbdmlfnggbdiaaChecked
import GoSem.Claim
import GoSem.ClaimJoined
import GoSem.ClaimMapViews
import Derived.JoinedTies
import Derived.KernelRfl
namespace Go.Proofs.Ytdbdmlfnggbdiaa
/- THE CELL 'sum', in the pinned program and in every row, IS THE sha256 OF THE DUMP (.gsa) THAT YtdbdmlfnggbdiaaProg.lean LOADS. Nothing in Lean hashes anything: it is a label: what it is worth is what the hold of that sum in a sandbox is worth. -/
noncomputable def Try.pinned : Pinned := { name := "ytdbdmlfnggbdiaa", sum := "e19e4c562f1b6819f792bb08836ea885555e7c3bed59338aebdae6241bcaf920", checked := Try.checked }
namespace Rows
def none {H : Type} : Left H := { results := [], args := [] }

/-- 'laws.FnExactIsCovered': WHATEVER THE INPUT: true; the input reads as it did. -/
def fnExactIsCoveredSpec : ChangeSpec := { name := "fnExactIsCovered", fn := fun _ => fun
  | [d1, d2] => { results := [.lit (.bool true)], args := [d1, d2] }
  | _ => none }
def fnExactIsCoveredRow : OpenClaim := { program := "ytdbdmlfnggbdiaa", sum := "e19e4c562f1b6819f792bb08836ea885555e7c3bed59338aebdae6241bcaf920", func := "loop.example/g01343/laws.FnExactIsCovered", spec := "fnExactIsCovered", unfollowed := true, recurses := true, apart := false }
def FnExactIsCoveredSaid : Prop := fnExactIsCoveredRow.holds Try.pinned (OpenSpec.ofChange fnExactIsCoveredSpec)

/-- ITS FALSE NEIGHBOUR: 'it returns false'. Refute it at one input. -/
def fnExactIsCoveredWrong : ChangeSpec := { name := "fnExactIsCovered", fn := fun _ => fun
  | [d1, d2] => { results := [.lit (.bool false)], args := [d1, d2] }
  | _ => none }
def FnExactIsCoveredWrongFalsely : Prop := fnExactIsCoveredRow.holds Try.pinned (OpenSpec.ofChange fnExactIsCoveredWrong)

/-- 'laws.FnExactIsPlace': WHATEVER THE INPUT: true; the input reads as it did. -/
def fnExactIsPlaceSpec : ChangeSpec := { name := "fnExactIsPlace", fn := fun _ => fun
  | [d1, d2] => { results := [.lit (.bool true)], args := [d1, d2] }
  | _ => none }
def fnExactIsPlaceRow : OpenClaim := { program := "ytdbdmlfnggbdiaa", sum := "e19e4c562f1b6819f792bb08836ea885555e7c3bed59338aebdae6241bcaf920", func := "loop.example/g01343/laws.FnExactIsPlace", spec := "fnExactIsPlace", unfollowed := true, recurses := true, apart := false }
def FnExactIsPlaceSaid : Prop := fnExactIsPlaceRow.holds Try.pinned (OpenSpec.ofChange fnExactIsPlaceSpec)

/-- ITS FALSE NEIGHBOUR: 'it returns false'. Refute it at one input. -/
def fnExactIsPlaceWrong : ChangeSpec := { name := "fnExactIsPlace", fn := fun _ => fun
  | [d1, d2] => { results := [.lit (.bool false)], args := [d1, d2] }
  | _ => none }
def FnExactIsPlaceWrongFalsely : Prop := fnExactIsPlaceRow.holds Try.pinned (OpenSpec.ofChange fnExactIsPlaceWrong)

/-- 'laws.FnExactValueAt': WHATEVER THE INPUT: true; the input reads as it did. -/
def fnExactValueAtSpec : ChangeSpec := { name := "fnExactValueAt", fn := fun _ => fun
  | [d1, d2] => { results := [.lit (.bool true)], args := [d1, d2] }
  | _ => none }
def fnExactValueAtRow : OpenClaim := { program := "ytdbdmlfnggbdiaa", sum := "e19e4c562f1b6819f792bb08836ea885555e7c3bed59338aebdae6241bcaf920", func := "loop.example/g01343/laws.FnExactValueAt", spec := "fnExactValueAt", unfollowed := true, recurses := true, apart := false }
def FnExactValueAtSaid : Prop := fnExactValueAtRow.holds Try.pinned (OpenSpec.ofChange fnExactValueAtSpec)

/-- ITS FALSE NEIGHBOUR: 'it returns false'. Refute it at one input. -/
def fnExactValueAtWrong : ChangeSpec := { name := "fnExactValueAt", fn := fun _ => fun
  | [d1, d2] => { results := [.lit (.bool false)], args := [d1, d2] }
  | _ => none }
def FnExactValueAtWrongFalsely : Prop := fnExactValueAtRow.holds Try.pinned (OpenSpec.ofChange fnExactValueAtWrong)

/-- 'laws.FnExactIsStationary': WHATEVER THE INPUT: true; the input reads as it did. -/
def fnExactIsStationarySpec : ChangeSpec := { name := "fnExactIsStationary", fn := fun _ => fun
  | [d1, d2, d3] => { results := [.lit (.bool true)], args := [d1, d2, d3] }
  | _ => none }
def fnExactIsStationaryRow : OpenClaim := { program := "ytdbdmlfnggbdiaa", sum := "e19e4c562f1b6819f792bb08836ea885555e7c3bed59338aebdae6241bcaf920", func := "loop.example/g01343/laws.FnExactIsStationary", spec := "fnExactIsStationary", unfollowed := true, recurses := true, apart := false }
def FnExactIsStationarySaid : Prop := fnExactIsStationaryRow.holds Try.pinned (OpenSpec.ofChange fnExactIsStationarySpec)

/-- ITS FALSE NEIGHBOUR: 'it returns false'. Refute it at one input. -/
def fnExactIsStationaryWrong : ChangeSpec := { name := "fnExactIsStationary", fn := fun _ => fun
  | [d1, d2, d3] => { results := [.lit (.bool false)], args := [d1, d2, d3] }
  | _ => none }
def FnExactIsStationaryWrongFalsely : Prop := fnExactIsStationaryRow.holds Try.pinned (OpenSpec.ofChange fnExactIsStationaryWrong)

/-- 'laws.FnExactSlopesAt': WHATEVER THE INPUT: true; the input reads as it did. -/
def fnExactSlopesAtSpec : ChangeSpec := { name := "fnExactSlopesAt", fn := fun _ => fun
  | [d1, d2] => { results := [.lit (.bool true)], args := [d1, d2] }
  | _ => none }
def fnExactSlopesAtRow : OpenClaim := { program := "ytdbdmlfnggbdiaa", sum := "e19e4c562f1b6819f792bb08836ea885555e7c3bed59338aebdae6241bcaf920", func := "loop.example/g01343/laws.FnExactSlopesAt", spec := "fnExactSlopesAt", unfollowed := true, recurses := true, apart := false }
def FnExactSlopesAtSaid : Prop := fnExactSlopesAtRow.holds Try.pinned (OpenSpec.ofChange fnExactSlopesAtSpec)

/-- ITS FALSE NEIGHBOUR: 'it returns false'. Refute it at one input. -/
def fnExactSlopesAtWrong : ChangeSpec := { name := "fnExactSlopesAt", fn := fun _ => fun
  | [d1, d2] => { results := [.lit (.bool false)], args := [d1, d2] }
  | _ => none }
def FnExactSlopesAtWrongFalsely : Prop := fnExactSlopesAtRow.holds Try.pinned (OpenSpec.ofChange fnExactSlopesAtWrong)

/-- 'laws.FnExactPointAt': WHATEVER THE INPUT: true; the input reads as it did. -/
def fnExactPointAtSpec : ChangeSpec := { name := "fnExactPointAt", fn := fun _ => fun
  | [d1, d2, d3, d4] => { results := [.lit (.bool true)], args := [d1, d2, d3, d4] }
  | _ => none }
def fnExactPointAtRow : OpenClaim := { program := "ytdbdmlfnggbdiaa", sum := "e19e4c562f1b6819f792bb08836ea885555e7c3bed59338aebdae6241bcaf920", func := "loop.example/g01343/laws.FnExactPointAt", spec := "fnExactPointAt", unfollowed := true, recurses := true, apart := false }
def FnExactPointAtSaid : Prop := fnExactPointAtRow.holds Try.pinned (OpenSpec.ofChange fnExactPointAtSpec)

/-- ITS FALSE NEIGHBOUR: 'it returns false'. Refute it at one input. -/
def fnExactPointAtWrong : ChangeSpec := { name := "fnExactPointAt", fn := fun _ => fun
  | [d1, d2, d3, d4] => { results := [.lit (.bool false)], args := [d1, d2, d3, d4] }
  | _ => none }
def FnExactPointAtWrongFalsely : Prop := fnExactPointAtRow.holds Try.pinned (OpenSpec.ofChange fnExactPointAtWrong)

/-- 'laws.FnExactIsConvex': WHATEVER THE INPUT: true; the input reads as it did. -/
def fnExactIsConvexSpec : ChangeSpec := { name := "fnExactIsConvex", fn := fun _ => fun
  | [d] => { results := [.lit (.bool true)], args := [d] }
  | _ => none }
def fnExactIsConvexRow : OpenClaim := { program := "ytdbdmlfnggbdiaa", sum := "e19e4c562f1b6819f792bb08836ea885555e7c3bed59338aebdae6241bcaf920", func := "loop.example/g01343/laws.FnExactIsConvex", spec := "fnExactIsConvex", unfollowed := true, recurses := true, apart := false }
def FnExactIsConvexSaid : Prop := fnExactIsConvexRow.holds Try.pinned (OpenSpec.ofChange fnExactIsConvexSpec)

/-- ITS FALSE NEIGHBOUR: 'it returns false'. Refute it at one input. -/
def fnExactIsConvexWrong : ChangeSpec := { name := "fnExactIsConvex", fn := fun _ => fun
  | [d] => { results := [.lit (.bool false)], args := [d] }
  | _ => none }
def FnExactIsConvexWrongFalsely : Prop := fnExactIsConvexRow.holds Try.pinned (OpenSpec.ofChange fnExactIsConvexWrong)

/-- 'laws.FnExactSetAt': WHATEVER THE INPUT: true; the input reads as it did. -/
def fnExactSetAtSpec : ChangeSpec := { name := "fnExactSetAt", fn := fun _ => fun
  | [d1, d2, d3] => { results := [.lit (.bool true)], args := [d1, d2, d3] }
  | _ => none }
def fnExactSetAtRow : OpenClaim := { program := "ytdbdmlfnggbdiaa", sum := "e19e4c562f1b6819f792bb08836ea885555e7c3bed59338aebdae6241bcaf920", func := "loop.example/g01343/laws.FnExactSetAt", spec := "fnExactSetAt", unfollowed := true, recurses := true, apart := false }
def FnExactSetAtSaid : Prop := fnExactSetAtRow.holds Try.pinned (OpenSpec.ofChange fnExactSetAtSpec)

/-- ITS FALSE NEIGHBOUR: 'it returns false'. Refute it at one input. -/
def fnExactSetAtWrong : ChangeSpec := { name := "fnExactSetAt", fn := fun _ => fun
  | [d1, d2, d3] => { results := [.lit (.bool false)], args := [d1, d2, d3] }
  | _ => none }
def FnExactSetAtWrongFalsely : Prop := fnExactSetAtRow.holds Try.pinned (OpenSpec.ofChange fnExactSetAtWrong)

/- THE SECOND FORM. 'bulk': how many values and letters a reading holds, each counted each time it is reached (what is shared counts as often as it is met; a slice's spare places count too). A statement '..UptoSaid' is the law's where the arguments, and the package variables that the reading takes, are together of bulk at most 1048576: NARROWER than '..Said'. Prove '..Said' where nothing that the law and all that it calls make is longer than what came in: it says more and counts as full. Else prove '..UptoSaid'. A law counts once. -/
mutual
def uptoBulk {H : Type} : DataW H → Nat
  | .lit (.string bytes) => bytes.length + 1
  | .lit _ => 1
  | .nil => 1
  | .ptr d => uptoBulk d + 1
  | .slice elems spare => uptoBulkAll elems + uptoBulkAll spare + 1
  | .agg parts => uptoBulkAll parts + 1
  | .iface _ d => uptoBulk d + 1
  | .map entries => uptoBulkEntries entries + 1
  | .held _ => 1
def uptoBulkAll {H : Type} : List (DataW H) → Nat
  | [] => 0
  | d :: r => uptoBulk d + uptoBulkAll r
def uptoBulkEntries {H : Type} : List (Lit × DataW H) → Nat
  | [] => 0
  | x :: r => uptoBulkEntry x + uptoBulkEntries r
def uptoBulkEntry {H : Type} : Lit × DataW H → Nat
  | (.string bytes, d) => bytes.length + uptoBulk d + 1
  | (_, d) => uptoBulk d + 1
 end
def uptoSmall : (H : Type) → List (DataW H) → Bool := fun _ ds => decide (uptoBulkAll ds ≤ 1048576)
def OpenSpec.upto (s : _root_.Go.ChangeSpec) : _root_.Go.OpenSpec := { _root_.Go.OpenSpec.ofChange s with cond := some uptoSmall }

/-- 'laws.FnExactIsCovered', WHERE WHAT IT READS IS OF BULK AT MOST 1048576: true; the input reads as it did. -/
def fnExactIsCoveredUptoRow : OpenClaim := { program := "ytdbdmlfnggbdiaa", sum := "e19e4c562f1b6819f792bb08836ea885555e7c3bed59338aebdae6241bcaf920", func := "loop.example/g01343/laws.FnExactIsCovered", spec := "fnExactIsCovered", unfollowed := true, recurses := true, apart := false, narrowed := true }
def FnExactIsCoveredUptoSaid : Prop := fnExactIsCoveredUptoRow.holds Try.pinned (OpenSpec.upto fnExactIsCoveredSpec)

/-- 'laws.FnExactIsPlace', WHERE WHAT IT READS IS OF BULK AT MOST 1048576: true; the input reads as it did. -/
def fnExactIsPlaceUptoRow : OpenClaim := { program := "ytdbdmlfnggbdiaa", sum := "e19e4c562f1b6819f792bb08836ea885555e7c3bed59338aebdae6241bcaf920", func := "loop.example/g01343/laws.FnExactIsPlace", spec := "fnExactIsPlace", unfollowed := true, recurses := true, apart := false, narrowed := true }
def FnExactIsPlaceUptoSaid : Prop := fnExactIsPlaceUptoRow.holds Try.pinned (OpenSpec.upto fnExactIsPlaceSpec)

/-- 'laws.FnExactValueAt', WHERE WHAT IT READS IS OF BULK AT MOST 1048576: true; the input reads as it did. -/
def fnExactValueAtUptoRow : OpenClaim := { program := "ytdbdmlfnggbdiaa", sum := "e19e4c562f1b6819f792bb08836ea885555e7c3bed59338aebdae6241bcaf920", func := "loop.example/g01343/laws.FnExactValueAt", spec := "fnExactValueAt", unfollowed := true, recurses := true, apart := false, narrowed := true }
def FnExactValueAtUptoSaid : Prop := fnExactValueAtUptoRow.holds Try.pinned (OpenSpec.upto fnExactValueAtSpec)

/-- 'laws.FnExactIsStationary', WHERE WHAT IT READS IS OF BULK AT MOST 1048576: true; the input reads as it did. -/
def fnExactIsStationaryUptoRow : OpenClaim := { program := "ytdbdmlfnggbdiaa", sum := "e19e4c562f1b6819f792bb08836ea885555e7c3bed59338aebdae6241bcaf920", func := "loop.example/g01343/laws.FnExactIsStationary", spec := "fnExactIsStationary", unfollowed := true, recurses := true, apart := false, narrowed := true }
def FnExactIsStationaryUptoSaid : Prop := fnExactIsStationaryUptoRow.holds Try.pinned (OpenSpec.upto fnExactIsStationarySpec)

/-- 'laws.FnExactSlopesAt', WHERE WHAT IT READS IS OF BULK AT MOST 1048576: true; the input reads as it did. -/
def fnExactSlopesAtUptoRow : OpenClaim := { program := "ytdbdmlfnggbdiaa", sum := "e19e4c562f1b6819f792bb08836ea885555e7c3bed59338aebdae6241bcaf920", func := "loop.example/g01343/laws.FnExactSlopesAt", spec := "fnExactSlopesAt", unfollowed := true, recurses := true, apart := false, narrowed := true }
def FnExactSlopesAtUptoSaid : Prop := fnExactSlopesAtUptoRow.holds Try.pinned (OpenSpec.upto fnExactSlopesAtSpec)

/-- 'laws.FnExactPointAt', WHERE WHAT IT READS IS OF BULK AT MOST 1048576: true; the input reads as it did. -/
def fnExactPointAtUptoRow : OpenClaim := { program := "ytdbdmlfnggbdiaa", sum := "e19e4c562f1b6819f792bb08836ea885555e7c3bed59338aebdae6241bcaf920", func := "loop.example/g01343/laws.FnExactPointAt", spec := "fnExactPointAt", unfollowed := true, recurses := true, apart := false, narrowed := true }
def FnExactPointAtUptoSaid : Prop := fnExactPointAtUptoRow.holds Try.pinned (OpenSpec.upto fnExactPointAtSpec)

/-- 'laws.FnExactIsConvex', WHERE WHAT IT READS IS OF BULK AT MOST 1048576: true; the input reads as it did. -/
def fnExactIsConvexUptoRow : OpenClaim := { program := "ytdbdmlfnggbdiaa", sum := "e19e4c562f1b6819f792bb08836ea885555e7c3bed59338aebdae6241bcaf920", func := "loop.example/g01343/laws.FnExactIsConvex", spec := "fnExactIsConvex", unfollowed := true, recurses := true, apart := false, narrowed := true }
def FnExactIsConvexUptoSaid : Prop := fnExactIsConvexUptoRow.holds Try.pinned (OpenSpec.upto fnExactIsConvexSpec)

/-- 'laws.FnExactSetAt', WHERE WHAT IT READS IS OF BULK AT MOST 1048576: true; the input reads as it did. -/
def fnExactSetAtUptoRow : OpenClaim := { program := "ytdbdmlfnggbdiaa", sum := "e19e4c562f1b6819f792bb08836ea885555e7c3bed59338aebdae6241bcaf920", func := "loop.example/g01343/laws.FnExactSetAt", spec := "fnExactSetAt", unfollowed := true, recurses := true, apart := false, narrowed := true }
def FnExactSetAtUptoSaid : Prop := fnExactSetAtUptoRow.holds Try.pinned (OpenSpec.upto fnExactSetAtSpec)

end Rows
end Go.Proofs.Ytdbdmlfnggbdiaa
