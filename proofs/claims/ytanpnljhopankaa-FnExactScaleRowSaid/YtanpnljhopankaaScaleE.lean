/- The law FnExactScaleRow answers true on any abstract heap that holds its arguments. No condition. -/
import Derived.Test.YtanpnljhopankaaScaleD
namespace Go.Proofs.Ytanpnljhopankaa
open Go.Ab

theorem szS_len (xs : List Int) : szS xs = xs.length := by
  induction xs with
  | nil => rfl
  | cons x xs ih => simp only [szl, ih, List.length_cons]; omega

theorem szProblem_le (p : Prob) : szProblem p ≤ wProblem p := by
  have h : szSS p.1 = szl List.length p.1 := by
    have e : szS = List.length := funext szS_len
    show szl szS p.1 = _
    rw [e]
  simp only [szp, szS_len, wl]
  have : szSS p.1 ≤ p.1.length + szl List.length p.1 := by rw [h]; omega
  omega

theorem szl_le {α : Type} {w : α → Nat} {c : Nat} (xs : List α) (h : ∀ x ∈ xs, w x ≤ c) : szl w xs ≤ xs.length * c := by
  induction xs with
  | nil => simp [szl]
  | cons x xs ih =>
    simp only [szl, List.length_cons, Nat.succ_mul]
    have := h x (by simp)
    have := ih fun y hy => h y (List.mem_cons_of_mem _ hy)
    omega

theorem sz_isProb {p : Prob} (h : isProb p = true) : szProblem p ≤ 1048576 := by
  obtain ⟨ok1, ok2, ok3, ok4, ok5, ok6⟩ := isProb_rows h
  have h1 : szSS p.1 ≤ p.1.length * 5 := szl_le _ fun r hr => by rw [szS_len]; have := (ok5 r hr).1; omega
  simp only [szp, szS_len]
  omega

theorem scaleRes_sz (p : Prob) (i k : Int) : szProblem (scaleRes p i k).1 ≤ 1048576 := by
  have h0 : szProblem (([], []) : Prob) ≤ 1048576 := by decide
  unfold scaleRes
  split
  · split
    · split
      · rename_i h; exact sz_isProb h
      · exact h0
    · exact h0
  · exact h0

theorem law6 {H : Heap} {bs : List Nat} {cs : List Value} {p : Prob} {i k : Int} (hr : RProblem.rel H bs cs p) (_ : I64 i) (_ : I64 k) : Runs Try.prog 6 #[.agg cs.toArray, .int .i64 i, .int .i64 k] H (fun v _ => v = .bool true) := by
  have hl := RProblem.len hr
  have low := RProblem.low hr
  have hszR := scaleRes_sz p i k
  refine f6.enter ?_
  unfold f6.w
  refine Wi.box fun H1 l1 n1 k1 => Wi.getA k1 hl (Wi.call (sz22 _ _ _ _ _ _ (Rd.le _ hr l1) (by omega) (by omega) (fun hw H2 l2 => Wi.lss ?_) fun hw H2 l2 => Wi.lss (Wi.tru rfl)))
  rw [show decide ((1048576 : Int) - wProblem p < 0) = false by simp; omega]
  have hw' : wProblem p ≤ 1048576 := by omega
  have hszp := szProblem_le p
  have k2 := l2.at k1 (by omega)
  have l12 := l1.trans l2
  refine Wi.fls (Wi.getA k2 hl (Wi.call (to24 _ _ _ _ _ (Rd.le _ hr l12) hw' fun H3 c3 F3 => ?_)))
  obtain ⟨b3, r3, _⟩ := F3.has
  refine Wi.call (fn23 r3 fun H4 cw Fw => Wi.ext0 (Wi.ext1 ?_))
  generalize hR : (scaleRes p i k).1 = R at *
  generalize hC : (scaleRes p i k).2 = C at *
  obtain ⟨bw, rw', _, frw, _⟩ := Fw.has
  refine Wi.var rfl (RProblem.len rw') (RProblem.cell rw') fun H5 l5 n5 k5 => ?_
  have l25 := F3.le.trans (Fw.le.trans l5)
  have m1 := l1.next; have m2 := l2.next; have m3 := F3.le.next; have m4 := Fw.le.next; have m5 := l5.next
  refine Wi.getA (l25.at k2 (by omega)) hl (Wi.call (to24 _ _ _ _ _ (Rd.le _ hr (l12.trans l25)) hw' fun H6 c6 F6 => ?_))
  obtain ⟨b6, r6, nd6, fr6, rw6⟩ := F6.has
  have m6 := F6.le.next
  refine Wi.var rfl (RProblem.len r6) (RProblem.cell r6) fun H7 l7 n7 k7 => Wi.getA k7 (RProblem.len r6) (Wi.call (fn25 (Rd.le _ r6 l7) fun H8 cg Fg => Wi.ext0 (Wi.ext1 ?_)))
  rw [hR] at Fg
  rw [hC]
  obtain ⟨bg, rg, ndg, frg, rwg⟩ := Fg.has
  have m7 := l7.next; have m8 := Fg.le.next
  refine Wi.var rfl (RProblem.len rg) (RProblem.cell rg) fun H9 l9 n9 k9 => ?_
  have m9 := l9.next
  have l59 := F6.le.trans (l7.trans (Fg.le.trans l9))
  have l79 := Fg.le.trans l9
  refine Wi.getA k9 (RProblem.len rg) (Wi.getA (l59.at k5 (by omega)) (RProblem.len rw') (Wi.call (eq26 _ _ _ _ _ _ _ _ (Rd.le _ rg l9) (Rd.le _ rw' (l5.trans l59)) (fun _ H10 l10 => ?_) (fun h => absurd rfl h))))
  have ceq : (C != C) = false := by simp
  refine Wi.not (Wi.nF (Wi.nF (Wi.nF (Wi.neq (Wi.pickF ?_)))))
  rw [ceq]
  have m10 := l10.next
  refine Wi.fls (Wi.getA ((l79.trans l10).at k7 (by omega)) (RProblem.len r6) (Wi.getA ((l25.trans (l59.trans l10)).at k2 (by omega)) hl (Wi.callQ (to24 _ _ _ _ _ (Rd.le _ hr (l12.trans (l25.trans (l59.trans l10)))) hw' fun H11 c11 F11 => ⟨F11.le, ?_⟩))))
  obtain ⟨b11, r11, _⟩ := F11.has
  have m11 := F11.le.next
  refine Wi.callQ (eq26 _ _ _ _ _ _ _ _ (Rd.le _ r6 (l7.trans (l79.trans (l10.trans F11.le)))) r11 (fun _ H12 l12' => ⟨l12', Wi.not (Wi.fls ?_)⟩) fun h => absurd rfl h)
  have m12 := l12'.next
  have lA := l10.trans (F11.le.trans l12')
  have mA := lA.next
  have low6 := RProblem.low r6
  have lowg := RProblem.low rg
  have loww := RProblem.low rw'
  -- marks into the argument's copy
  refine Wi.getA ((l79.trans lA).at k7 (by omega)) (RProblem.len r6) (Wi.call (mark27 _ _ _ _ _ _ (Rd.le _ r6 (l7.trans (l79.trans lA))) nd6 (rw6.le (l7.trans (l79.trans lA)) low6) (by omega) (by omega) fun H13 mk => Wi.lss ?_))
  rw [show decide ((1 : Int) + szProblem p < 0) = false by simp; omega]
  have m13 := mk.next
  have keepg : ∀ c, c < H12.next → (c < H5.next ∨ H7.next ≤ c) → H13.blk c = H12.blk c := fun c hc h => mk.off c hc fun hb => by have := low6 c hb; have := fr6 c hb; omega
  have k9' : H13.blk H8.next = some _ := (keepg _ (by omega) (by omega)).trans (lA.at k9 (by omega))
  have k5' : H13.blk H4.next = some _ := (keepg _ (by omega) (by omega)).trans ((l59.trans lA).at k5 (by omega))
  have k2' : H13.blk H.next = some _ := (keepg _ (by omega) (by omega)).trans ((l25.trans (l59.trans lA)).at k2 (by omega))
  have rg' := RProblem.frame (Rd.le _ rg (l9.trans lA)) m13 fun c hc => keepg c (by have := lowg c hc; omega) (by have := frg c hc; omega)
  have rw'' := RProblem.frame (Rd.le _ rw' (l5.trans (l59.trans lA))) m13 fun c hc => keepg c (by have := loww c hc; omega) (by have := loww c hc; omega)
  have hr' := RProblem.frame (Rd.le _ hr (l12.trans (l25.trans (l59.trans lA)))) m13 fun c hc => keepg c (by have := low c hc; omega) (by have := low c hc; omega)
  refine Wi.nF (Wi.getA k9' (RProblem.len rg) (Wi.nF (Wi.getA k5' (RProblem.len rw') (Wi.nF (Wi.call (eq26 _ _ _ _ _ _ _ _ rg' rw'' (fun _ H14 l14 => Wi.nF (Wi.not (Wi.pickF ?_))) (fun h => absurd rfl h)))))))
  refine Wi.nF (Wi.nF (Wi.nF (Wi.neq (Wi.pickF ?_))))
  rw [ceq]
  have m14 := l14.next
  -- marks into the result
  have rwg' : RW H14 bg := fun c hc kc hk => by
    rw [l14.blk c (by have := lowg c hc; omega), keepg c (by have := lowg c hc; omega) (by have := frg c hc; omega), lA.blk c (by have := lowg c hc; omega), l9.blk c (by have := lowg c hc; omega)] at hk
    exact rwg c hc kc hk
  refine Wi.fls (Wi.getA (l14.at k9' (by omega)) (RProblem.len rg) (Wi.call (mark27 _ _ _ _ _ _ (Rd.le _ rg' l14) ndg rwg' (by omega) (by omega) fun H15 mg => ?_)))
  have m15 := mg.next
  have keep2 : ∀ c, c < H14.next → (c < H7.next ∨ H8.next ≤ c) → H15.blk c = H14.blk c := fun c hc h => mg.off c hc fun hb => by have := lowg c hb; have := frg c hb; omega
  have k9'' : H15.blk H8.next = some _ := (keep2 _ (by omega) (by omega)).trans (l14.at k9' (by omega))
  have k5'' : H15.blk H4.next = some _ := (keep2 _ (by omega) (by omega)).trans (l14.at k5' (by omega))
  have k2'' : H15.blk H.next = some _ := (keep2 _ (by omega) (by omega)).trans (l14.at k2' (by omega))
  have rw3 := RProblem.frame (Rd.le _ rw'' l14) m15 fun c hc => keep2 c (by have := loww c hc; omega) (by have := loww c hc; omega)
  have hr3 := RProblem.frame (Rd.le _ hr' l14) m15 fun c hc => keep2 c (by have := low c hc; omega) (by have := low c hc; omega)
  refine Wi.getA k9'' (RProblem.len rg) (Wi.call (held28 _ _ _ _ _ _ mg.rel (by omega) (by omega) fun H16 l16 => Wi.lss ?_))
  have eR : decide ((1 : Int) + szProblem R < 0) = false := by simp; omega
  have eN : ((1 : Int) + szProblem R != 1 + szProblem R) = false := by simp
  rw [eR]
  refine Wi.fls (Wi.neq ?_)
  rw [eN]
  have m16 := l16.next
  refine Wi.fls (Wi.getA (l16.at k2'' (by omega)) hl (Wi.call (to24 _ _ _ _ _ (Rd.le _ hr3 l16) hw' fun H17 c17 F17 => ?_)))
  obtain ⟨b17, r17, _⟩ := F17.has
  refine Wi.call (fn25 r17 fun H18 ch Fh => Wi.ext0 (Wi.ext1 ?_))
  rw [hR] at Fh
  rw [hC]
  obtain ⟨bh, rh, _⟩ := Fh.has
  refine Wi.var rfl (RProblem.len rh) (RProblem.cell rh) fun H19 l19 n19 k19 => ?_
  have lB := l16.trans (F17.le.trans (Fh.le.trans l19))
  have mB := lB.next
  refine Wi.getA k19 (RProblem.len rh) (Wi.getA (lB.at k5'' (by omega)) (RProblem.len rw') (Wi.call (eq26 _ _ _ _ _ _ _ _ (Rd.le _ rh l19) (Rd.le _ rw3 lB) (fun _ H20 l20 => ?_) (fun h => absurd rfl h))))
  refine Wi.not (Wi.nF (Wi.nF (Wi.nF (Wi.neq (Wi.pickF ?_)))))
  rw [ceq]
  refine Wi.fls (Wi.getA ((lB.trans l20).at k9'' (by omega)) (RProblem.len rg) (Wi.call (held28 _ _ _ _ _ _ (Rd.le _ mg.rel (lB.trans l20)) (by omega) (by omega) fun H21 l21 => Wi.lss ?_)))
  rw [eR]
  refine Wi.fls (Wi.neq ?_)
  rw [eN]
  exact Wi.fls rfl

end Go.Proofs.Ytanpnljhopankaa
