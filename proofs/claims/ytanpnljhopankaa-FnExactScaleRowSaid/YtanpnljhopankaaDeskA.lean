/- Contracts of functions that the law FnExactIsDesk reaches. No condition. -/
import Derived.Test.YtanpnljhopankaaNewA
import Derived.Test.YtanpnljhopankaaTxtB
import Derived.Test.YtanpnljhopankaaZabLib
namespace Go.Proofs.Ytanpnljhopankaa
open Go.Ab

/-! ### Weighing and copying -/

theorem sz39 : SzC Try.prog 39 RS List.length := SzC.len fun _ _ _ _ h => f39.enter h
abbrev wSS : List (List Int) → Nat := wl List.length
abbrev wProblem := szp wSS (List.length (α := Int))
abbrev wDesk := szp wProblem (sz0 (α := Int))
theorem sz38 : SzC Try.prog 38 RSS wSS := SzC.slice rfl (SzV.one rfl sz39) (n1 := 1) (n2 := 5) fun _ _ _ _ h => f38.enter h
theorem sz22 : SzA Try.prog 22 RProblem wProblem := SzA.struct (ty := 32) (.pair (o' := 1) (.one (n := 1) rfl (fun _ => rfl) (SzV.one rfl sz38)) rfl (.one (n := 1) rfl (fun _ => rfl) (SzV.one rfl sz39))) fun _ _ _ _ h => f22.enter h
theorem sz13 : SzA Try.prog 13 RDesk wDesk := SzA.struct (ty := 34) (.pair (o' := 2) (.one (n := 2) rfl (fun h => by cases h) (SzV.call sz22)) rfl .none) fun _ _ _ _ h => f13.enter h
theorem to30 : ToC Try.prog 30 RS List.length := (ToC.slice rfl ToV.int (n := 4) (z := .int .i64 0) (ty := 2) fun _ _ _ h => f30.enter h).len
theorem to41 : ToC Try.prog 41 RSS wSS := ToC.slice rfl (ToV.one rfl to30) (n := 4) (z := .slice none 0 0) (ty := 23) fun _ _ _ h => f41.enter h
theorem to24 : ToA Try.prog 24 RProblem wProblem := ToA.struct (n := 2) rfl (ty := 32) (ty' := 25) (zero := [.slice none 0 0, .slice none 0 0]) rfl
  (.pair (o' := 1) (.one (n := 1) rfl (fun _ => rfl) (ToV.one rfl to41)) rfl (.one (n := 1) rfl (fun _ => rfl) (ToV.one rfl to30))) fun _ _ _ h => f24.enter h
theorem to15 : ToA Try.prog 15 RDesk wDesk := ToA.struct (n := 3) rfl (ty := 34) (ty' := 27) (zero := [.slice none 0 0, .slice none 0 0, .int .i64 0]) rfl
  (.pair (o' := 2) (.one (n := 2) rfl (fun h => by cases h) (ToV.call to24)) rfl (.one (n := 1) rfl (fun _ => rfl) ToV.int)) fun _ _ _ h => f15.enter h

end Go.Proofs.Ytanpnljhopankaa
