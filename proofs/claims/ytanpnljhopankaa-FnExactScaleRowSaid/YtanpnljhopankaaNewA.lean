/- What the helpers of the law FnExactNewDesk do: comparing, marking, telling marks. No condition. -/
import Derived.Test.YtanpnljhopankaaTxtA
import Derived.Test.YtanpnljhopankaaZabLaw4
namespace Go.Proofs.Ytanpnljhopankaa
open Go.Ab

abbrev RS : Rd (List Int) := Rd.slice Rd.int
abbrev RSS : Rd (List (List Int)) := Rd.slice RS
abbrev RProblem : Rd (List (List Int) × List Int) := Rd.pair RSS RS
abbrev RDesk : Rd ((List (List Int) × List Int) × Int) := Rd.pair RProblem Rd.int

theorem eq32 : EqC Try.prog 32 RS := EqC.slice rfl CmpOK.int (n := 5) fun _ _ _ _ h => f32.enter h
theorem eq47 : EqC Try.prog 47 RSS := EqC.slice rfl (CmpOK.callQ eq32) (n := 5) fun _ _ _ _ h => f47.enter h
theorem eq26 : EqA Try.prog 26 RProblem := EqA.struct (ty := 25) (.pair (o' := 1) (.one (n := 1) rfl (fun _ => rfl) (CmpV.one rfl (CmpOK.call eq47))) rfl (.one (n := 1) rfl (fun _ => rfl) (CmpV.one rfl (CmpOK.call eq32)))) fun _ _ _ _ h => f26.enter h
theorem eq10 : EqA Try.prog 10 RDesk := EqA.struct (ty := 27) (.pair (o' := 2) (.one (n := 2) rfl (fun h => by cases h) (CmpV.call eq26)) rfl (.one (n := 1) rfl (fun _ => rfl) (CmpV.one rfl CmpOK.int))) fun _ _ _ _ h => f10.enter h

abbrev mkS := mkl (fun (_ : Int) k => k) (fun _ => 1)
abbrev szS := szl (fun (_ : Int) => 1)
abbrev mkSS := mkl mkS szS
abbrev szSS := szl szS
abbrev mkProblem := mkp mkSS szSS mkS
abbrev szProblem := szp szSS szS
abbrev mkDesk := mkp mkProblem szProblem (mk0 (α := Int))
abbrev szDesk := szp szProblem (sz0 (α := Int))

theorem mark33 : MarkC Try.prog 33 RS mkS szS := MarkC.slice rfl MarkE.int (n1 := 1) (n2 := 5) fun _ _ _ _ h => f33.enter h
theorem mark54 : MarkC Try.prog 54 RSS mkSS szSS := MarkC.slice rfl (MarkE.call rfl mark33) (n1 := 1) (n2 := 5) fun _ _ _ _ h => f54.enter h
theorem mark27 : MarkA Try.prog 27 RProblem mkProblem szProblem := MarkA.struct (ty := 25) (.pair (o' := 1) (.one (n := 1) rfl (fun _ => rfl) (MarkV.one rfl mark54)) rfl (.one (n := 1) rfl (fun _ => rfl) (MarkV.one rfl mark33))) fun _ _ _ _ h => f27.enter h
theorem mark11 : MarkA Try.prog 11 RDesk mkDesk szDesk := MarkA.struct (ty := 27) (.pair (o' := 2) (.one (n := 2) rfl (fun h => by cases h) (MarkV.call mark27)) rfl .none) fun _ _ _ _ h => f11.enter h
theorem held56 : HeldC Try.prog 56 RS mkS szS := HeldC.slice rfl HeldE.int (n1 := 1) (n2 := 5) fun _ _ _ _ h => f56.enter h
theorem held55 : HeldC Try.prog 55 RSS mkSS szSS := HeldC.slice rfl (HeldE.call rfl held56) (n1 := 1) (n2 := 5) fun _ _ _ _ h => f55.enter h
theorem held28 : HeldA Try.prog 28 RProblem mkProblem szProblem := HeldA.struct (ty := 25) (.pair (o' := 1) (.one (n := 1) rfl (fun _ => rfl) (HeldV.one rfl held55)) rfl (.one (n := 1) rfl (fun _ => rfl) (HeldV.one rfl held56))) fun _ _ _ _ h => f28.enter h
theorem held12 : HeldA Try.prog 12 RDesk mkDesk szDesk := HeldA.struct (ty := 27) (.pair (o' := 2) (.one (n := 2) rfl (fun h => by cases h) (HeldV.call held28)) rfl .none) fun _ _ _ _ h => f12.enter h

end Go.Proofs.Ytanpnljhopankaa
