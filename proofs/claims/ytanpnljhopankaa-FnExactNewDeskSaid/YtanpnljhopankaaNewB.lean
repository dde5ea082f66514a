/- The law FnExactNewDesk answers true on any abstract heap. No condition. -/
import Derived.Test.YtanpnljhopankaaNewA
import Derived.Test.YtanpnljhopankaaZabLaw5
namespace Go.Proofs.Ytanpnljhopankaa
open Go.Ab

abbrev desk0 : (List (List Int) × List Int) × Int := (([[2, 1], [1, 2]], [-5, -6]), 0)

theorem i64 {n : Int} (h : (decide (-9223372036854775808 ≤ n) && decide (n < 9223372036854775808)) = true) : I64 n := by
  simpa [I64] using h

theorem makes34 : MakesA Try.prog 34 RDesk desk0 := by
  intro H Q hQ
  refine f34.enter ?_
  unfold f34.w
  refine Wi.new fun H1 l1 n1 k1 => Wi.lit (cells := [.int .i64 2, .int .i64 1]) rfl fun H2 l2 n2 k2 => Wi.lit (cells := [.int .i64 1, .int .i64 2]) rfl fun H3 l3 n3 k3 =>
    Wi.lit (cells := [.slice (some (adr H1.next 0)) 2 4, .slice (some (adr H2.next 0)) 2 4]) rfl fun H4 l4 n4 k4 => Wi.lit (cells := [.int .i64 (-5), .int .i64 (-6)]) rfl fun H5 l5 n5 k5 =>
    Wi.build (cells := [.slice (some (adr H3.next 0)) 2 4, .slice (some (adr H4.next 0)) 2 4]) rfl (Wi.build (cells := [.slice (some (adr H3.next 0)) 2 4, .slice (some (adr H4.next 0)) 2 4, .int .i64 0]) rfl
    (Wi.putN ((((l2.trans l3).trans l4).trans l5).at k1 (by omega)) rfl rfl rfl (by simp) fun H6 w => Wi.getN w.here (by simp) (hQ _ _ ?_)))
  have a1 : Fresh RS H1 [.slice (some (adr H1.next 0)) 2 4] [2, 1] H2 := Fresh.ints (.refl _) l2 (by omega) k2 rfl rfl rfl (by decide) (by decide) (fun x hx => i64 (by revert x; decide))
  have a2 : Fresh RS H2 [.slice (some (adr H2.next 0)) 2 4] [1, 2] H3 := Fresh.ints (.refl _) l3 (by omega) k3 rfl rfl rfl (by decide) (by decide) (fun x hx => i64 (by revert x; decide))
  have a3 : Fresh RSS H1 [.slice (some (adr H3.next 0)) 2 4] [[2, 1], [1, 2]] H4 := FreshL.slice' rfl ((FreshL.nil (.refl _)).snoc a1 |>.snoc a2) l4 (by omega) k4 rfl rfl rfl (by decide) (by decide)
  have a4 : Fresh RS H4 [.slice (some (adr H4.next 0)) 2 4] [-5, -6] H5 := Fresh.ints (.refl _) l5 (by omega) k5 rfl rfl rfl (by decide) (by decide) (fun x hx => i64 (by revert x; decide))
  have a5 : Fresh RDesk H1 [.slice (some (adr H3.next 0)) 2 4, .slice (some (adr H4.next 0)) 2 4, .int .i64 0] desk0 H5 := ((a3.pair a4).pair (Fresh.int (.refl _) (i64 (by decide))))
  exact a5.put l1 w (Nat.le_refl _) (by omega)

theorem makes9 : MakesA Try.prog 9 RDesk desk0 := by
  intro H Q hQ
  refine f9.enter ?_
  unfold f9.w
  refine Wi.new fun H1 l1 n1 k1 => Wi.lit (cells := [.int .i64 2, .int .i64 1]) rfl fun H2 l2 n2 k2 => Wi.lit (cells := [.int .i64 1, .int .i64 2]) rfl fun H3 l3 n3 k3 =>
    Wi.lit (cells := [.slice (some (adr H1.next 0)) 2 4, .slice (some (adr H2.next 0)) 2 4]) rfl fun H4 l4 n4 k4 => Wi.lit (cells := [.int .i64 (-5), .int .i64 (-6)]) rfl fun H5 l5 n5 k5 =>
    Wi.build (cells := [.slice (some (adr H3.next 0)) 2 4, .slice (some (adr H4.next 0)) 2 4]) rfl (Wi.build (cells := [.slice (some (adr H3.next 0)) 2 4, .slice (some (adr H4.next 0)) 2 4, .int .i64 0]) rfl
    (Wi.putN ((((l2.trans l3).trans l4).trans l5).at k1 (by omega)) rfl rfl rfl (by simp) fun H6 w => Wi.getN w.here (by simp) (hQ _ _ ?_)))
  have a1 : Fresh RS H1 [.slice (some (adr H1.next 0)) 2 4] [2, 1] H2 := Fresh.ints (.refl _) l2 (by omega) k2 rfl rfl rfl (by decide) (by decide) (fun x hx => i64 (by revert x; decide))
  have a2 : Fresh RS H2 [.slice (some (adr H2.next 0)) 2 4] [1, 2] H3 := Fresh.ints (.refl _) l3 (by omega) k3 rfl rfl rfl (by decide) (by decide) (fun x hx => i64 (by revert x; decide))
  have a3 : Fresh RSS H1 [.slice (some (adr H3.next 0)) 2 4] [[2, 1], [1, 2]] H4 := FreshL.slice' rfl ((FreshL.nil (.refl _)).snoc a1 |>.snoc a2) l4 (by omega) k4 rfl rfl rfl (by decide) (by decide)
  have a4 : Fresh RS H4 [.slice (some (adr H4.next 0)) 2 4] [-5, -6] H5 := Fresh.ints (.refl _) l5 (by omega) k5 rfl rfl rfl (by decide) (by decide) (fun x hx => i64 (by revert x; decide))
  have a5 : Fresh RDesk H1 [.slice (some (adr H3.next 0)) 2 4, .slice (some (adr H4.next 0)) 2 4, .int .i64 0] desk0 H5 := ((a3.pair a4).pair (Fresh.int (.refl _) (i64 (by decide))))
  exact a5.put l1 w (Nat.le_refl _) (by omega)

theorem makes8 : MakesA Try.prog 8 RDesk desk0 := by
  intro H Q hQ
  refine f8.enter ?_
  unfold f8.w
  refine Wi.new fun H1 l1 n1 k1 => Wi.call (makes34 H1 _ fun H2 cs f => ?_)
  obtain ⟨bs, h, _⟩ := f.has
  have hl : cs.length = 3 := RDesk.len h
  refine Wi.putN (f.le.at k1 (by omega)) (by simpa using hl) (by simpa using RDesk.cell h) rfl (by simp) fun H3 w => Wi.getN w.here (by simp [hl]) ?_
  simp only [List.take_zero, List.nil_append, List.drop_zero]
  rw [List.take_append_of_le_length (by simp [hl]), List.take_of_length_le (by simp [hl])]
  exact hQ H3 cs (f.put l1 w (Nat.le_refl _) (by omega))

/-- The law. -/
theorem law3 (H : Heap) : Runs Try.prog 3 #[] H (fun v _ => v = .bool true) := by
  refine f3.enter ?_
  unfold f3.w
  refine Wi.call (makes8 H _ fun H1 c1 F1 => ?_)
  obtain ⟨b1, r1, _⟩ := F1.has
  refine Wi.var rfl (RDesk.len r1) (RDesk.cell r1) fun H2 l2 n2 k2 => Wi.call (makes9 H2 _ fun H3 c2 F2 => ?_)
  obtain ⟨b2, r2, nd2, fr2, rw2⟩ := F2.has
  refine Wi.var rfl (RDesk.len r2) (RDesk.cell r2) fun H4 l4 n4 k4 => ?_
  have k2' := (F2.le.trans l4).at k2 (by omega)
  have r1' := Rd.le _ r1 (l2.trans (F2.le.trans l4))
  refine Wi.getA k4 (RDesk.len r2) (Wi.getA k2' (RDesk.len r1) (Wi.call (eq10 _ _ _ _ _ _ _ _ (Rd.le _ r2 l4) r1' (fun _ H5 l5 => ?_) (fun h => absurd rfl h))))
  have k4' := l5.at k4 (by omega)
  refine Wi.not (Wi.fls (Wi.getA k4' (RDesk.len r2) (Wi.call (mark11 _ _ _ _ _ _ (Rd.le _ r2 (l4.trans l5)) nd2 (rw2.le (l4.trans l5) (RDesk.low r2)) (by decide) (by decide) fun H6 m => ?_))))
  have low2 := RDesk.low r2
  have k4'' : H6.blk H3.next = some _ := (m.off H3.next (by have := l5.next; omega) (fun h => by have := low2 _ h; omega)).trans k4'
  refine Wi.getA k4'' (RDesk.len r2) (Wi.call (held12 _ _ _ _ _ _ m.rel (by decide) (by decide) fun H7 l7 => Wi.lss (Wi.fls (Wi.neq (Wi.fls ?_)))))
  refine Wi.call (makes9 H7 _ fun H8 c3 F3 => ?_)
  obtain ⟨b3, r3, _⟩ := F3.has
  refine Wi.var rfl (RDesk.len r3) (RDesk.cell r3) fun H9 l9 n9 k9 => ?_
  have low1 := RDesk.low r1
  have r1'' : RDesk.rel H6 b1 c1 desk0 := RDesk.frame (Rd.le _ r1' l5) m.next fun c hc => m.off c (by have := low1 c hc; have := l2.next; have := F2.le.next; have := l4.next; have := l5.next; omega) fun h => by
    have := low1 c hc; have := fr2 c h; have := l2.next; omega
  have k2'' : H6.blk H1.next = some _ := (m.off H1.next (by have := F2.le.next; have := l4.next; have := l5.next; omega) (fun h => by have := fr2 _ h; omega)).trans (l5.at k2' (by have := F2.le.next; have := l4.next; omega))
  have l69 := l7.trans (F3.le.trans l9)
  refine Wi.getA k9 (RDesk.len r3) (Wi.getA (l69.at k2'' (by have := F2.le.next; have := l4.next; have := l5.next; have := m.next; omega)) (RDesk.len r1) (Wi.call (eq10 _ _ _ _ _ _ _ _ (Rd.le _ r3 l9) (Rd.le _ r1'' l69) (fun _ H10 l10 => ?_) (fun h => absurd rfl h))))
  refine Wi.not (Wi.fls (Wi.getA ((l69.trans l10).at k4'' (by have := l4.next; have := l5.next; have := m.next; omega)) (RDesk.len r2) (Wi.call (held12 _ _ _ _ _ _ (Rd.le _ m.rel (l69.trans l10)) (by decide) (by decide) fun H11 l11 => Wi.lss (Wi.fls (Wi.neq (Wi.fls rfl)))))))

end Go.Proofs.Ytanpnljhopankaa
