/- The law FnExactIsDesk answers true on any abstract heap that holds its argument. No condition. -/
import Derived.Test.YtanpnljhopankaaDeskC
namespace Go.Proofs.Ytanpnljhopankaa
open Go.Ab

theorem law4 {H : Heap} {bs : List Nat} {cs : List Value} {d : Desk} (hr : RDesk.rel H bs cs d) : Runs Try.prog 4 #[.agg cs.toArray] H (fun v _ => v = .bool true) := by
  have hl := RDesk.len hr
  refine f4.enter ?_
  unfold f4.w
  refine Wi.box fun H1 l1 n1 k1 => Wi.getA k1 hl (Wi.call (sz13 _ _ _ _ _ _ (Rd.le _ hr l1) (by omega) (by omega) (fun hw H2 l2 => Wi.lss ?_) fun hw H2 l2 => Wi.lss (Wi.tru rfl)))
  rw [show decide ((1048576 : Int) - wDesk d < 0) = false by simp; omega]
  have hw' : wDesk d ≤ 1048576 := by omega
  have k2 := l2.at k1 (by omega)
  have l12 := l1.trans l2
  refine Wi.fls (Wi.getA k2 hl (Wi.call (to15 _ _ _ _ _ (Rd.le _ hr l12) hw' fun H3 c3 F3 => ?_)))
  obtain ⟨b3, r3, _⟩ := F3.has
  refine Wi.call (fn14 r3 fun H4 l4 => ?_)
  have l24 := F3.le.trans l4
  refine Wi.getA (l24.at k2 (by have := l2.next; omega)) hl (Wi.call (to15 _ _ _ _ _ (Rd.le _ hr (l12.trans l24)) hw' fun H5 c5 F5 => ?_))
  obtain ⟨b5, r5, _⟩ := F5.has
  refine Wi.var rfl (RDesk.len r5) (RDesk.cell r5) fun H6 l6 n6 k6 => Wi.getA k6 (RDesk.len r5) (Wi.call (fn16 (Rd.le _ r5 l6) fun H7 l7 => Wi.neqBool ?_))
  rw [show (!(isDesk d == isDesk d)) = false by simp]
  have l27 := l24.trans (F5.le.trans (l6.trans l7))
  refine Wi.fls (Wi.getA (l7.at k6 (by omega)) (RDesk.len r5) (Wi.getA (l27.at k2 (by have := l2.next; omega)) hl (Wi.callQ (to15 _ _ _ _ _ (Rd.le _ hr (l12.trans l27)) hw' fun H8 c8 F8 => ⟨F8.le, ?_⟩))))
  obtain ⟨b8, r8, _⟩ := F8.has
  refine Wi.callQ (eq10 _ _ _ _ _ _ _ _ (Rd.le _ r5 (l6.trans (l7.trans F8.le))) r8 (fun _ H9 l9 => ⟨l9, Wi.not (Wi.fls rfl)⟩) fun h => absurd rfl h)

end Go.Proofs.Ytanpnljhopankaa
