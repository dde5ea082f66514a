/- How bytes read on the abstract heap. No condition. -/
import Derived.Test.YtgdiebnokgnniaaGreatDoorGDS
import Derived.Test.YtgdiebnokgnniaaGreatDoorZabG6
namespace Go.Proofs.YtgdiebnokgnniaaGreatDoor
open Go.Ab

theorem ReadsT.u8 {P : Program} {t : TypeId} (ht : P.underlying t = some (.int .u8)) : ReadsT P t Rd.u8 := by
  intro X enc w spare held fuel cs x h
  obtain ⟨n, rfl, _, hw⟩ := DataW.trod_int ht h
  refine ⟨[], n, rfl, rfl, ?_⟩
  simp only [Lit.wf, Bool.and_eq_true, decide_eq_true_eq, IntKind.min, IntKind.max, IntKind.signed, IntKind.bits] at hw
  simp at hw
  omega

theorem readsY : ReadsT Tryz.prog 22 RBytes := ReadsT.slice Tryz.underlying22 (by kernel_rfl) (by decide) (ReadsT.u8 Tryz.underlying5)

end Go.Proofs.YtgdiebnokgnniaaGreatDoor
