/- The contract of the program's ScaleRow. No condition. -/
import Derived.Test.YtanpnljhopankaaScaleB
namespace Go.Proofs.Ytanpnljhopankaa
open Go.Ab

theorem mul_bound {a k : Int} (ha : -100 ≤ a ∧ a ≤ 100) (hk : 1 ≤ k ∧ k ≤ 100) : -10000 ≤ a * k ∧ a * k ≤ 10000 := by
  have h1 : a * k ≤ 100 * k := Int.mul_le_mul_of_nonneg_right ha.2 (by omega)
  have h2 : -100 * k ≤ a * k := Int.mul_le_mul_of_nonneg_right ha.1 (by omega)
  omega

theorem Wi.indexE {b o n e sz i : Nat} {κ : IntKind} {v : Value} {H : Heap} {k : Post} (hv : v = .slice (some (adr b o)) n e) (hi : i < n) (h : k (pt b (o + i * sz)) H) : W.indexAddr sz v (.int κ (i : Int)) H k := by
  rw [hv]
  exact Wi.index hi h

theorem Wi.ext0 {a b : Value} {H : Heap} {k : Post} (h : k a H) : W.extract 0 (.tuple #[a, b]) H k := h
theorem Wi.ext1 {a b : Value} {H : Heap} {k : Post} (h : k b H) : W.extract 1 (.tuple #[a, b]) H k := h

/-- What stands when nothing is told: zero, and why. -/
theorem retZero {H0 H : Heap} {b : Nat} {Q : Post} {c : Int} {zero : List Value} {e : Nat} {ty : TypeId} (l : H0.Le H) (hb : H.blk b = some ⟨zero, ty, e, false⟩) (hz : zero.length = 2) (h0 : H0.next ≤ b)
    (hQ : ∀ H' cs', Fresh RProblem H0 cs' ([], []) H' → Q (.tuple #[.agg cs'.toArray, .int .i64 c]) H') :
    W.build [(.slice none 0 0), (.slice none 0 0)] [] H fun v6 H => W.putN 2 (pt b 0) v6 H fun _ H => W.getN 2 (pt b 0) H fun v7 H => Q (.tuple #[v7, (.int .i64 c)]) H := by
  refine Wi.build (cells := [.slice none 0 0, .slice none 0 0]) rfl (Wi.putA hb hz rfl rfl fun H4 w4 => Wi.getA w4.here rfl ?_)
  exact hQ H4 [.slice none 0 0, .slice none 0 0] (fresh_none (w4.le l h0))

theorem fn25 {H : Heap} {Q : Post} {bs : List Nat} {cs : List Value} {p : Prob} {i k : Int} (hr : RProblem.rel H bs cs p)
    (hQ : ∀ H' cs', Fresh RProblem H cs' (scaleRes p i k).1 H' → Q (.tuple #[.agg cs'.toArray, .int .i64 (scaleRes p i k).2]) H') : Runs Try.prog 25 #[.agg cs.toArray, .int .i64 i, .int .i64 k] H Q := by
  have hl : cs.length = 2 := RProblem.len hr
  obtain ⟨u1, u2, b1, b2, rfl, _, hr1, hr2⟩ := prob_cells hr
  refine f25.enter ?_
  unfold f25.w
  refine Wi.box fun H1 l1 n1 k1 => Wi.new fun H2 l2 n2 k2 => Wi.getA (l2.at k1 (by omega)) hl (Wi.call (fn36 (Rd.le _ hr (l1.trans l2)) fun H3 l3 => Wi.not ?_))
  have l13 := l1.trans (l2.trans l3)
  have n1' := l1.next
  have n2' := l2.next
  have n3' := l3.next
  cases hb : isProb p with
  | false =>
    refine Wi.tru (retZero l13 (l3.at k2 (by omega)) rfl (by omega) fun H' cs' f => ?_)
    have := hQ H' cs'
    simp only [scaleRes, hb] at this
    exact this f
  | true =>
    obtain ⟨ok1, ok2, ok3, ok4, ok5, ok6⟩ := isProb_rows hb
    refine Wi.fls (Wi.fieldAddr0 (Wi.get ((l2.trans l3).at k1 (by omega)) rfl (Wi.lenOf (Rd.le _ hr2 l13) (Wi.sub (by unfold I64; omega) (Wi.call (fn51 (Wi.not ?_)))))))
    have bad : (inR 0 (p.2.length - 1) i && inR 1 100 k) = false → W.build [(.slice none 0 0), (.slice none 0 0)] [] H3 fun v6 H => W.putN 2 (pt H1.next 0) v6 H fun _ H => W.getN 2 (pt H1.next 0) H fun v7 H => Q (.tuple #[v7, (.int .i64 2)]) H := fun hf => by
      refine retZero l13 (l3.at k2 (by omega)) rfl (by omega) fun H' cs' f => ?_
      have := hQ H' cs'
      simp only [scaleRes, hb, hf] at this
      exact this f
    cases hI : inR 0 (p.2.length - 1) i with
    | false =>
      exact Wi.nT (Wi.nT (Wi.nT (Wi.pickT (Wi.tru (bad (by rw [hI]; rfl))))))
    | true =>
      refine Wi.nF (Wi.nF (Wi.call (fn51 (Wi.nF (Wi.not (Wi.pickF ?_))))))
      cases hK : inR 1 100 k with
      | false => exact Wi.tru (bad (by rw [hI, hK]; rfl))
      | true =>
        have hQ' : ∀ H' cs', Fresh RProblem H cs' (if isProb (scaled p i.toNat k) then (scaled p i.toNat k, (0 : Int)) else (([], []), 3)).1 H' → Q (.tuple #[.agg cs'.toArray, .int .i64 (if isProb (scaled p i.toNat k) then (scaled p i.toNat k, (0 : Int)) else ((([], []) : Prob), 3)).2]) H' := fun H' cs' f => by
          have := hQ H' cs'
          simp only [scaleRes, hb, hI, hK, Bool.and_self, if_true] at this
          exact this f
        clear hQ bad
        simp only [inR, Bool.and_eq_true, decide_eq_true_eq] at hI hK
        obtain ⟨n, rfl⟩ : ∃ n : Nat, i = n := ⟨i.toNat, by omega⟩
        rw [Int.toNat_natCast] at hQ'
        have hn2 : n < p.2.length := by omega
        have hn1 : n < p.1.length := by omega
        refine Wi.fls (Wi.getA ((l2.trans l3).at k1 (by omega)) hl (Wi.call (fn52 (Rd.le _ hr l13) ok1 (by omega) fun H4 c4 f4 => ?_)))
        obtain ⟨bc, rc, ndc, frc, rwc⟩ := f4.has
        obtain ⟨w1, w2, d1, d2, rfl, rfl, s1, s2⟩ := prob_cells rc
        have n4 := f4.le.next
        have lowc := RProblem.low rc
        refine Wi.var rfl rfl (RProblem.cell rc) fun H5 l5 n5 k5 => ?_
        have l15 := l13.trans (f4.le.trans l5)
        have n5' := l5.next
        refine Wi.fieldAddr0 (Wi.get k5 rfl (Wi.atInt (Rd.le _ s2 l5) hn2 ?_))
        have hq := ok6 _ (List.getElem_mem hn2)
        have hqm := mul_bound hq (by omega)
        have s1' := Rd.le _ s1 l5
        have s2' := Rd.le _ s2 l5
        have rw1 := (rwc.left).le l5 (RSS.low s1)
        have rw2 := (rwc.right).le l5 (RS.low s2)
        refine Wi.mul (by unfold I64; omega) (Wi.setInt s2' rw2 hn2 (by unfold I64; omega) fun H6 m6 => ?_)
        have m6' : Marked RProblem H5 (d1 ++ d2) ([w1] ++ [w2]) (p.1, p.2.set n (p.2[n] * k)) H6 := m6.snd s1' ndc rw1
        have hb5 : H4.next ∉ d1 ++ d2 := fun h => by have := lowc _ h; omega
        have k6 : H6.blk H4.next = some _ := (m6'.off _ (by omega) hb5).trans k5
        -- the row
        have hrow := ok5 _ (List.getElem_mem hn1)
        have hsetn : p.1.set n p.1[n] = p.1 := by simp
        have row0 : p.1[n] = scaleTo k p.1[n] 0 := (scaleTo_zero _ _).symm
        have key : ∀ (x : Nat) (H7 : Heap), x ≤ p.1[n].length → Marked RProblem H5 (d1 ++ d2) [w1, w2] (p.1.set n (scaleTo k p.1[n] x), p.2.set n (p.2[n] * k)) H7 →
            W.loop (S := St [43]) (fun I1 s H => f25.l1 Q (.int .i64 p.1[n].length) (pt H4.next 0) (.int .i64 n) (.int .i64 k) (pt H1.next 0) I1 s.1 H) (.int .i64 x, ()) H7 := by
          intro x H7 hx m7
          refine W.loop_rule (fun s H' => ∃ x : Nat, s = (.int .i64 x, ()) ∧ x ≤ p.1[n].length ∧ Marked RProblem H5 (d1 ++ d2) [w1, w2] (p.1.set n (scaleTo k p.1[n] x), p.2.set n (p.2[n] * k)) H')
            (fun s _ => match s.1 with | .int _ i => p.1[n].length - i.toNat | _ => 0) ⟨x, rfl, hx, m7⟩ ?_
          rintro s H8 ⟨x, rfl, hx, m8⟩
          unfold f25.l1
          have k8 : H8.blk H4.next = some _ := (m8.off _ (by omega) hb5).trans k5
          obtain ⟨y1, y2, e1, e2, hyy, hee, t1, t2⟩ := prob_cells m8.rel
          simp only [List.cons.injEq, and_true] at hyy
          obtain ⟨rfl, rfl⟩ := hyy
          refine Wi.lss (Wi.cond (fun hlt => ?_) fun hge => ?_)
          · have hxl : x < p.1[n].length := by simp only [decide_eq_true_eq] at hlt; omega
            have nd8 : (e1 ++ e2).Nodup := by rw [← hee]; exact ndc
            have rw8 : RW H8 (e1 ++ e2) := by rw [← hee]; exact m8.rw
            obtain ⟨b, o, e, kb, u, fi, v1, v2, v3, v4, v5, v6, v7, v8⟩ := Marked.elem (r := RS) rfl t1 (List.nodup_append.1 nd8).1 rw8.left (i := n) (by simpa using hn1)
            have hset : (p.1.set n (scaleTo k p.1[n] x))[n]'(by simpa using hn1) = scaleTo k p.1[n] x := by simp
            rw [hset] at v4
            refine Wi.fieldAddr0 (Wi.get k8 rfl (Wi.indexE v1 (by simpa using hn1) (Wi.get v2 v3 (Wi.atInt v4 (by rw [scaleTo_length]; exact hxl) ?_))))
            rw [scaleTo_get hxl]
            have hv := hrow.2 _ (List.getElem_mem hxl)
            have hvm := mul_bound (a := p.1[n][x]) (k := k) (by omega) (by omega)
            refine Wi.mul (by unfold I64; omega) (Wi.setInt v4 v6 (by rw [scaleTo_length]; exact hxl) (by unfold I64; omega) fun H9 m9 => ?_)
            rw [scaleTo_succ hxl] at m9
            have m9' := (v8 H9 _ m9).fst t2 nd8 rw8.right
            rw [List.set_set, ← hee] at m9'
            refine Wi.add (by unfold I64; omega) ⟨⟨x + 1, rfl, by omega, m8.trans m9'⟩, by simp only; omega⟩
          · have hxe : x = p.1[n].length := by simp only [decide_eq_false_iff_not] at hge; omega
            subst hxe
            rw [scaleTo_all] at m8
            have e8 : (p.1.set n (p.1[n].map (· * k)), p.2.set n (p.2[n] * k)) = scaled p n k := by
              simp [scaled, List.getD_eq_getElem?_getD, List.getElem?_eq_getElem hn1, List.getElem?_eq_getElem hn2]
            rw [e8] at m8
            have m8' : Marked RProblem H4 (d1 ++ d2) [w1, w2] (scaled p n k) H8 := ⟨Nat.le_trans l5.next m8.next, m8.rel, fun c hc hcb => by rw [m8.off c (by omega) hcb, l5.blk c hc], m8.rw⟩
            have f8 : Fresh RProblem H [w1, w2] (scaled p n k) H8 := Fresh.upd (l13.trans f4.le) ndc (fun c hc => Nat.le_trans l13.next (frc c hc)) m8'
            have k2' : H8.blk H1.next = some _ := (m8'.off _ (by omega) (fun h => by have := frc _ h; omega)).trans ((l3.trans f4.le).at k2 (by omega))
            refine Wi.getA k8 rfl (Wi.call (fn53 m8.rel fun H9 l9 => ?_))
            have f9 := f8.to l9
            have h8n := m8'.next
            have k9 := l9.at k2' (by omega)
            cases hs : isProb (scaled p n k) with
            | true =>
              simp only [hs, if_true] at hQ' ⊢
              refine Wi.ext0 (Wi.ext1 ?_)
              refine Wi.putA k9 rfl rfl (RProblem.cell m8.rel) fun H10 w10 => Wi.getA w10.here rfl (hQ' H10 [w1, w2] ?_)
              refine ⟨w10.le f9.le (by omega), d1 ++ d2, RProblem.frame (Rd.le _ m8.rel l9) (by rw [w10.next]; exact Nat.le_refl _) (fun c hc => w10.off c (fun e => by have := frc c hc; omega)), ndc, fun c hc => Nat.le_trans l13.next (frc c hc), fun c hc kc hkc => ?_⟩
              rw [w10.off c (fun e => by have := frc c hc; omega)] at hkc
              exact m8.rw.le l9 (RProblem.low m8.rel) c hc kc hkc
            | false =>
              simp only [hs, Bool.false_eq_true, if_false] at hQ' ⊢
              refine Wi.ext0 (Wi.ext1 ?_)
              refine Wi.putA (cs := [.slice none 0 0, .slice none 0 0]) k9 rfl rfl rfl fun H10 w10 => Wi.getA w10.here rfl (hQ' H10 [.slice none 0 0, .slice none 0 0] (fresh_none (w10.le f9.le (by omega))))
        obtain ⟨y1, y2, e1, e2, hyy, hee, t1, t2⟩ := prob_cells m6'.rel
        simp only [List.cons_append, List.nil_append, List.cons.injEq, and_true] at hyy
        obtain ⟨rfl, rfl⟩ := hyy
        refine Wi.fieldAddr0 (Wi.get k6 rfl (Wi.at1 rfl t1 hn1 fun u bu hu => Wi.lenOf hu (key 0 H6 (Nat.zero_le _) ?_)))
        rw [← row0, hsetn]
        exact m6'

end Go.Proofs.Ytanpnljhopankaa
