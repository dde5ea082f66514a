/- The contract of the reference's ScaleRow. No condition. -/
import Derived.Test.YtanpnljhopankaaScaleC
namespace Go.Proofs.Ytanpnljhopankaa
open Go.Ab

theorem fn23 {H : Heap} {Q : Post} {bs : List Nat} {cs : List Value} {p : Prob} {i k : Int} (hr : RProblem.rel H bs cs p)
    (hQ : ∀ H' cs', Fresh RProblem H cs' (scaleRes p i k).1 H' → Q (.tuple #[.agg cs'.toArray, .int .i64 (scaleRes p i k).2]) H') : Runs Try.prog 23 #[.agg cs.toArray, .int .i64 i, .int .i64 k] H Q := by
  have hl : cs.length = 2 := RProblem.len hr
  obtain ⟨u1, u2, b1, b2, rfl, _, hr1, hr2⟩ := prob_cells hr
  refine f23.enter ?_
  unfold f23.w
  refine Wi.box fun H1 l1 n1 k1 => Wi.new fun H2 l2 n2 k2 => Wi.getA (l2.at k1 (by omega)) hl (Wi.call (fn48 (Rd.le _ hr (l1.trans l2)) fun H3 l3 => Wi.not ?_))
  have l13 := l1.trans (l2.trans l3)
  have n1' := l1.next
  have n2' := l2.next
  have n3' := l3.next
  cases hb : isProb p with
  | false =>
    refine Wi.tru (retZero l13 (l3.at k2 (by omega)) rfl (by omega) fun H' cs' f => ?_)
    have := hQ H' cs'
    simp only [scaleRes, hb] at this
    exact this f
  | true =>
    obtain ⟨ok1, ok2, ok3, ok4, ok5, ok6⟩ := isProb_rows hb
    refine Wi.fls (Wi.fieldAddr0 (Wi.get ((l2.trans l3).at k1 (by omega)) rfl (Wi.lenOf (Rd.le _ hr2 l13) (Wi.sub (by unfold I64; omega) (Wi.call (fn49 (Wi.not ?_)))))))
    have bad : (inR 0 (p.2.length - 1) i && inR 1 100 k) = false → W.build [(.slice none 0 0), (.slice none 0 0)] [] H3 fun v6 H => W.putN 2 (pt H1.next 0) v6 H fun _ H => W.getN 2 (pt H1.next 0) H fun v7 H => Q (.tuple #[v7, (.int .i64 2)]) H := fun hf => by
      refine retZero l13 (l3.at k2 (by omega)) rfl (by omega) fun H' cs' f => ?_
      have := hQ H' cs'
      simp only [scaleRes, hb, hf] at this
      exact this f
    cases hI : inR 0 (p.2.length - 1) i with
    | false =>
      exact Wi.nT (Wi.nT (Wi.nT (Wi.pickT (Wi.tru (bad (by rw [hI]; rfl))))))
    | true =>
      refine Wi.nF (Wi.nF (Wi.call (fn49 (Wi.nF (Wi.not (Wi.pickF ?_))))))
      cases hK : inR 1 100 k with
      | false => exact Wi.tru (bad (by rw [hI, hK]; rfl))
      | true =>
        have hQ' : ∀ H' cs', Fresh RProblem H cs' (if isProb (scaled p i.toNat k) then (scaled p i.toNat k, (0 : Int)) else (([], []), 3)).1 H' → Q (.tuple #[.agg cs'.toArray, .int .i64 (if isProb (scaled p i.toNat k) then (scaled p i.toNat k, (0 : Int)) else ((([], []) : Prob), 3)).2]) H' := fun H' cs' f => by
          have := hQ H' cs'
          simp only [scaleRes, hb, hI, hK, Bool.and_self, if_true] at this
          exact this f
        clear hQ bad
        simp only [inR, Bool.and_eq_true, decide_eq_true_eq] at hI hK
        obtain ⟨n, rfl⟩ : ∃ n : Nat, i = n := ⟨i.toNat, by omega⟩
        rw [Int.toNat_natCast] at hQ'
        have hn2 : n < p.2.length := by omega
        have hn1 : n < p.1.length := by omega
        refine Wi.fls (Wi.getA ((l2.trans l3).at k1 (by omega)) hl (Wi.call (fn50 (Rd.le _ hr l13) ok1 (by omega) (by omega) fun H4 c4 f4 => ?_)))
        obtain ⟨bc, rc, ndc, frc, rwc⟩ := f4.has
        obtain ⟨w1, w2, d1, d2, rfl, rfl, s1, s2⟩ := prob_cells rc
        have n4 := f4.le.next
        have lowc := RProblem.low rc
        refine Wi.var rfl rfl (RProblem.cell rc) fun H5 l5 n5 k5 => ?_
        have l15 := l13.trans (f4.le.trans l5)
        have n5' := l5.next
        have hq := ok6 _ (List.getElem_mem hn2)
        have hqm := mul_bound hq (by omega)
        have s1' := Rd.le _ s1 l5
        have s2' := Rd.le _ s2 l5
        have rw1 := (rwc.left).le l5 (RSS.low s1)
        have rw2 := (rwc.right).le l5 (RS.low s2)
        have hb5 : H4.next ∉ d1 ++ d2 := fun h => by have := lowc _ h; omega
        have hrow := ok5 _ (List.getElem_mem hn1)
        obtain ⟨b, o, e, kb, u, fi, v1, v2, v3, v4, v5, v6, v7, v8⟩ := Marked.elem (r := RS) rfl s1' (List.nodup_append.1 ndc).1 rw1 hn1
        have hfi : H4.next ∉ fi := fun h => hb5 (List.mem_append_left _ (v7 _ h))
        refine Wi.fieldAddr0 (Wi.get k5 rfl (Wi.indexE v1 hn1 (Wi.get v2 v3 ?_)))
        have hx := Rd.slice_small v4
        refine W.loop_rule (fun s H' => ∃ x : Nat, s = (.int .i64 x, ()) ∧ x ≤ p.1[n].length ∧ Marked RS H5 fi [u] (scaleTo k p.1[n] x) H')
          (fun s _ => match s.1 with | .int _ i => p.1[n].length - i.toNat | _ => 0) ⟨0, rfl, Nat.zero_le _, by rw [scaleTo_zero]; exact .refl v4 v6⟩ ?_
        rintro s H8 ⟨x, rfl, hx, m8⟩
        unfold f23.l1
        have k8 : H8.blk H4.next = some _ := (m8.off _ (by omega) hfi).trans k5
        refine Wi.lenOf m8.rel (Wi.lss (Wi.cond (fun hlt => ?_) fun hge => ?_))
        · have hxl : x < p.1[n].length := by simp only [decide_eq_true_eq, scaleTo_length] at hlt; omega
          have hv := hrow.2 _ (List.getElem_mem hxl)
          have hvm := mul_bound (a := p.1[n][x]) (k := k) (by omega) (by omega)
          have hc := Int.mul_comm k p.1[n][x]
          refine Wi.atInt m8.rel (by rw [scaleTo_length]; exact hxl) ?_
          rw [scaleTo_get hxl]
          refine Wi.mul (by unfold I64; omega) ?_
          rw [hc]
          refine Wi.setInt m8.rel m8.rw (by rw [scaleTo_length]; exact hxl) (by unfold I64; omega) fun H9 m9 => ?_
          rw [scaleTo_succ hxl] at m9
          exact Wi.add (by unfold I64; omega) ⟨⟨x + 1, rfl, by omega, m8.trans m9⟩, by simp only; omega⟩
        · have hxe : x = p.1[n].length := by simp only [decide_eq_false_iff_not, scaleTo_length] at hge; omega
          subst hxe
          rw [scaleTo_all] at m8
          have mM := (v8 H8 _ m8).fst s2' ndc rw2
          obtain ⟨y1, y2, e1, e2, hyy, hee, t1, t2⟩ := prob_cells mM.rel
          simp only [List.cons_append, List.nil_append, List.cons.injEq, and_true] at hyy
          obtain ⟨rfl, rfl⟩ := hyy
          dsimp only at t1 t2
          have nd8 : (e1 ++ e2).Nodup := by rw [← hee]; exact ndc
          have rw8 : RW H8 (e1 ++ e2) := by rw [← hee]; exact mM.rw
          have hc := Int.mul_comm k p.2[n]
          refine Wi.fieldAddr0 (Wi.get k8 rfl (Wi.fieldAddr0 (Wi.get k8 rfl (Wi.atInt t2 hn2 (Wi.mul (by unfold I64; omega) ?_)))))
          rw [hc]
          refine Wi.setInt t2 rw8.right hn2 (by unfold I64; omega) fun H9 m9 => ?_
          have m9' := m9.snd t1 nd8 rw8.left
          rw [← hee] at m9'
          have mA := mM.trans m9'
          have e8 : (p.1.set n (p.1[n].map (· * k)), p.2.set n (p.2[n] * k)) = scaled p n k := by
            simp [scaled, List.getD_eq_getElem?_getD, List.getElem?_eq_getElem hn1, List.getElem?_eq_getElem hn2]
          have mB : Marked RProblem H5 (d1 ++ d2) [w1, w2] (scaled p n k) H9 := by rw [← e8]; exact mA
          have mC : Marked RProblem H4 (d1 ++ d2) [w1, w2] (scaled p n k) H9 := ⟨Nat.le_trans l5.next mB.next, mB.rel, fun c hc hcb => by rw [mB.off c (by omega) hcb, l5.blk c hc], mB.rw⟩
          have f8 : Fresh RProblem H [w1, w2] (scaled p n k) H9 := Fresh.upd (l13.trans f4.le) ndc (fun c hc => Nat.le_trans l13.next (frc c hc)) mC
          have k9 : H9.blk H4.next = some _ := (mB.off _ (by omega) hb5).trans k5
          have k2' : H9.blk H1.next = some _ := (mC.off _ (by omega) (fun h => by have := frc _ h; omega)).trans ((l3.trans f4.le).at k2 (by omega))
          have h9n := mB.next
          refine Wi.getA k9 rfl (Wi.call (fn48 mB.rel fun H10 l10 => Wi.not ?_))
          have f10 := f8.to l10
          have k10 := l10.at k2' (by omega)
          cases hs : isProb (scaled p n k) with
          | true =>
            simp only [hs, if_true] at hQ' ⊢
            refine Wi.fls (Wi.getA (l10.at k9 (by omega)) rfl (Wi.putA k10 rfl rfl (RProblem.cell mB.rel) fun H11 w11 => Wi.getA w11.here rfl (hQ' H11 [w1, w2] ?_)))
            refine ⟨w11.le f10.le (by omega), d1 ++ d2, RProblem.frame (Rd.le _ mB.rel l10) (by rw [w11.next]; exact Nat.le_refl _) (fun c hc => w11.off c (fun e => by have := frc c hc; omega)), ndc, fun c hc => Nat.le_trans l13.next (frc c hc), fun c hc kc hkc => ?_⟩
            rw [w11.off c (fun e => by have := frc c hc; omega)] at hkc
            exact mB.rw.le l10 (RProblem.low mB.rel) c hc kc hkc
          | false =>
            simp only [hs, Bool.false_eq_true, if_false] at hQ' ⊢
            exact Wi.tru (retZero f10.le k10 rfl (by omega) fun H' cs' f => hQ' H' cs' f)

end Go.Proofs.Ytanpnljhopankaa
