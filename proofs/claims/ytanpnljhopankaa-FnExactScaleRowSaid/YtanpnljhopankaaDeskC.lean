/- Contracts of the reference's functions that the law FnExactIsDesk reaches. No condition. -/
import Derived.Test.YtanpnljhopankaaDeskB
namespace Go.Proofs.Ytanpnljhopankaa
open Go.Ab

/-- The i-th element of a slice of one-cell elements. -/
theorem Rd.slice_get {α : Type} {r : Rd α} (hr : r.n = 1) {H : Heap} {bs : List Nat} {v : Value} {xs : List α} (h : (Rd.slice r).rel H bs [v] xs) {i : Nat} (hi : i < xs.length) :
    ∃ b o e kb u bs', v = .slice (some (adr b o)) xs.length e ∧ H.blk b = some kb ∧ kb.cells[o + i * 1]? = some u ∧ r.rel H bs' [u] xs[i] := by
  obtain ⟨b, o, e, kb, fs, q1, _, s⟩ := Rd.slice_at h hi
  obtain ⟨u, m1, r1⟩ := s.one hr hi
  exact ⟨b, o, e, kb, u, _, q1, s.blk, m1, r1⟩

theorem Wi.at1 {α : Type} {r : Rd α} (hr : r.n = 1) {H : Heap} {bs : List Nat} {v : Value} {xs : List α} {k : Post} (h : (Rd.slice r).rel H bs [v] xs) {i : Nat} (hi : i < xs.length)
    (hk : ∀ u bs', r.rel H bs' [u] xs[i] → k u H) : W.indexAddr 1 v (.int .i64 i) H fun p H => W.get p H k := by
  obtain ⟨b, o, e, kb, u, bs', q1, hb, m1, r1⟩ := Rd.slice_get hr h hi
  rw [q1]
  exact Wi.index hi (Wi.get hb m1 (hk u bs' r1))

theorem Wi.atInt {H : Heap} {bs : List Nat} {v : Value} {xs : List Int} {k : Post} (h : RS.rel H bs [v] xs) {i : Nat} (hi : i < xs.length)
    (hk : k (.int .i64 xs[i]) H) : W.indexAddr 1 v (.int .i64 i) H fun p H => W.get p H k := by
  refine Wi.at1 rfl h hi fun u bs' hr => ?_
  obtain ⟨_, hu, _⟩ := hr
  simp only [List.cons.injEq, and_true] at hu
  rw [hu]
  exact hk

theorem Wi.lenOf {α : Type} {r : Rd α} {H : Heap} {bs : List Nat} {v : Value} {xs : List α} {k : Post} (h : (Rd.slice r).rel H bs [v] xs) (hk : k (.int .i64 xs.length) H) : W.len v H k := by
  obtain ⟨p1, e1, g1⟩ := Rd.slice_val h
  simp only [List.cons.injEq, and_true] at g1
  rw [g1]
  exact hk

theorem isMat_eq (m : List (List Int)) : isMat m = (decide (1 ≤ m.length) && decide (m.length ≤ 5) && m.all (fun r => decide (r.length = m.length) && r.all (inR (-20) 20))) := by
  unfold isMat isSq inR allUp inR
  have : (m.all fun r => decide (r.length = m.length) && r.all fun n => decide (-20 ≤ n) && decide (n ≤ 20)) = (m.all (fun r => decide (r.length = m.length)) && m.all fun xs => xs.all fun n => decide (-20 ≤ n) && decide (n ≤ 20)) := by
    induction m with
    | nil => rfl
    | cons x xs ih =>
      rw [Bool.eq_iff_iff]
      simp only [List.all_eq_true, Bool.and_eq_true, decide_eq_true_eq]
      constructor
      · intro h; exact ⟨fun r hr => (h r hr).1, fun r hr n hn => (h r hr).2 n hn⟩
      · intro h r hr; exact ⟨h.1 r hr, fun n hn => h.2 r hr n hn⟩
  rw [this]
  simp
  have e : decide (1 ≤ (m.length : Int)) = decide (1 ≤ m.length) := by
    by_cases h : 1 ≤ m.length <;> simp <;> omega
  have e2 : decide ((m.length : Int) ≤ 5) = decide (m.length ≤ 5) := by
    by_cases h : m.length ≤ 5 <;> simp <;> omega
  rw [e, e2]
  simp [Bool.and_assoc]

theorem fn66 {H : Heap} {Q : Post} {bs : List Nat} {v : Value} {m : List (List Int)} (hr : RSS.rel H bs [v] m) (h : ∀ H', H.Le H' → Q (.bool (isMat m)) H') : Runs Try.prog 66 #[v] H Q := by
  refine f66.enter ?_
  unfold f66.w
  refine Wi.lenOf hr (Wi.lss ?_)
  rw [isMat_eq] at h
  have hT : m.length < 1 ∨ 5 < m.length → ∀ H', H.Le H' → Q (.bool false) H' := fun hc H' l => by
    have := h H' l
    rw [show (decide (1 ≤ m.length) && decide (m.length ≤ 5) && m.all (fun r => decide (r.length = m.length) && r.all (inR (-20) 20))) = false by
      rw [show (decide (1 ≤ m.length) && decide (m.length ≤ 5)) = false by rw [Bool.and_eq_false_iff]; exact hc.elim (fun h => .inl (decide_eq_false (by omega))) fun h => .inr (decide_eq_false (by omega))]; rfl] at this
    exact this
  have body : 1 ≤ m.length → m.length ≤ 5 → W.loop (S := St [4]) (fun I1 s H => f66.l1 Q (.int .i64 m.length) v I1 s.1 H) ((.int .i64 0), ()) H := by
    intro h1 h5
    have hF : ∀ r ∈ m, (decide (r.length = m.length) && r.all (inR (-20) 20)) = false → ∀ H', H.Le H' → Q (.bool false) H' := fun r hr hf H' l => by
      have := h H' l
      rw [show (decide (1 ≤ m.length) && decide (m.length ≤ 5) && m.all (fun r => decide (r.length = m.length) && r.all (inR (-20) 20))) = false by
        rw [Bool.and_eq_false_iff]; right; rw [List.all_eq_false]; exact ⟨r, hr, by simp [hf]⟩] at this
      exact this
    refine W.loop_rule (fun s H' => ∃ i : Nat, s = (.int .i64 i, ()) ∧ i ≤ m.length ∧ H.Le H' ∧ ∀ (j : Nat) (hj : j < i) (g : j < m.length), (decide (m[j].length = m.length) && m[j].all (inR (-20) 20)) = true)
      (fun s _ => match s.1 with | .int _ i => m.length - i.toNat | _ => 0) ⟨0, rfl, Nat.zero_le _, .refl _, fun j hj => by omega⟩ ?_
    rintro s H1 ⟨i, rfl, hi, l1, ok⟩
    unfold f66.l1
    refine Wi.lss (Wi.cond (fun hlt => ?_) fun hge => ?_)
    · have hix : i < m.length := by simp only [decide_eq_true_eq] at hlt; omega
      refine Wi.at1 rfl (Rd.le _ hr l1) hix fun u bu hu => Wi.lenOf hu (Wi.neq ?_)
      rw [int_bne]
      refine Wi.cond (fun hne => ?_) fun heq => ?_
      · exact hF _ (List.getElem_mem hix) (by simp at hne; simp [hne]) H1 l1
      · have hlen : m[i].length = m.length := by simpa using heq
        refine W.loop_rule (fun s H' => ∃ k : Nat, s = (.int .i64 k, ()) ∧ k ≤ m.length ∧ H1.Le H' ∧ ∀ (j : Nat) (hj : j < k) (g : j < m[i].length), inR (-20) 20 m[i][j] = true)
          (fun s _ => match s.1 with | .int _ i => m.length - i.toNat | _ => 0) ⟨0, rfl, Nat.zero_le _, .refl _, fun j hj => by omega⟩ ?_
        rintro s H2 ⟨k, rfl, hk, l2, ok2⟩
        unfold f66.l2
        have l12 := l1.trans l2
        refine Wi.lss (Wi.cond (fun hlt => ?_) fun hge => ?_)
        · have hkx : k < m[i].length := by simp only [decide_eq_true_eq] at hlt; omega
          refine Wi.at1 rfl (Rd.le _ hr l12) hix fun u' bu' hu' => Wi.atInt hu' hkx (Wi.call (fn49 (Wi.not (Wi.cond (fun hn => ?_) fun hy => ?_))))
          · refine hF _ (List.getElem_mem hix) ?_ H2 l12
            rw [Bool.and_eq_false_iff]; right; rw [List.all_eq_false]
            exact ⟨_, List.getElem_mem hkx, by simpa using hn⟩
          · refine Wi.add (by unfold I64; omega) ⟨⟨k + 1, rfl, by omega, l2, fun j hj g => ?_⟩, by simp only; omega⟩
            by_cases hjk : j < k
            · exact ok2 j hjk g
            · have : j = k := by omega
              subst this
              simpa using hy
        · have hkk : k = m.length := by simp only [decide_eq_false_iff_not] at hge; omega
          refine Wi.add (by unfold I64; omega) ⟨⟨i + 1, rfl, by omega, l12, fun j hj g => ?_⟩, by simp only; omega⟩
          by_cases hji : j < i
          · exact ok j hji g
          · have : j = i := by omega
            subst this
            rw [Bool.and_eq_true]
            refine ⟨by simpa using hlen, ?_⟩
            rw [List.all_eq_true]
            intro x hx
            obtain ⟨n, hn, rfl⟩ := List.mem_iff_getElem.1 hx
            exact ok2 n (by omega) hn
    · have hii : i = m.length := by simp only [decide_eq_false_iff_not] at hge; omega
      have := h H1 l1
      rw [show (decide (1 ≤ m.length) && decide (m.length ≤ 5) && m.all (fun r => decide (r.length = m.length) && r.all (inR (-20) 20))) = true by
        rw [Bool.and_eq_true, Bool.and_eq_true]
        refine ⟨⟨by simpa using h1, by simpa using h5⟩, ?_⟩
        rw [List.all_eq_true]
        intro x hx
        obtain ⟨n, hn, rfl⟩ := List.mem_iff_getElem.1 hx
        exact ok n (by omega) hn] at this
      exact this
  cases hb : decide ((m.length : Int) < 1) with
  | true =>
    exact Wi.nT (Wi.nT (Wi.pickT (Wi.tru (hT (by simp only [decide_eq_true_eq] at hb; omega) H (.refl _)))))
  | false =>
    refine Wi.nF (Wi.nF (Wi.gtr (Wi.pickF (Wi.cond (fun hc => ?_) fun hc => ?_))))
    · exact hT (by simp only [decide_eq_true_eq] at hc; omega) H (.refl _)
    · exact body (by simp only [decide_eq_false_iff_not] at hb; omega) (by simp only [decide_eq_false_iff_not] at hc; omega)

theorem fn48 {H : Heap} {Q : Post} {bs : List Nat} {cs : List Value} {p : Prob} (hr : RProblem.rel H bs cs p) (h : ∀ H', H.Le H' → Q (.bool (isProb p)) H') : Runs Try.prog 48 #[.agg cs.toArray] H Q := by
  obtain ⟨u1, u2, b1, b2, rfl, _, hr1, hr2⟩ := prob_cells hr
  refine f48.enter ?_
  unfold f48.w
  unfold isProb at h
  refine Wi.box fun H1 l1 n1 k1 => Wi.fieldAddr0 (Wi.get k1 rfl (Wi.call (fn66 (Rd.le _ hr1 l1) fun H2 l2 => Wi.not ?_)))
  have k2 := l2.at k1 (by omega)
  have l12 := l1.trans l2
  cases hb : isMat p.1 with
  | false =>
    rw [hb] at h
    exact Wi.nT (Wi.nT (Wi.nT (Wi.nT (Wi.nT (Wi.nT (Wi.nT (Wi.pickT (Wi.tru (h H2 l12)))))))))
  | true =>
    rw [hb, Bool.true_and] at h
    refine Wi.nF (Wi.fieldAddr0 (Wi.nF (Wi.get k2 rfl (Wi.nF (Wi.lenOf (Rd.le _ hr2 l12) (Wi.nF (Wi.fieldAddr0 (Wi.nF (Wi.get k2 rfl (Wi.nF (Wi.lenOf (Rd.le _ hr1 l12) (Wi.nF (Wi.neq (Wi.pickF ?_))))))))))))))
    rw [int_bne]
    cases hl : decide (p.2.length = p.1.length) with
    | false =>
      rw [hl] at h
      exact Wi.tru (h H2 l12)
    | true =>
      rw [hl, Bool.true_and] at h
      refine Wi.fls ?_
      have hx := Rd.slice_small hr2
      refine W.loop_rule (fun s H' => ∃ i : Nat, s = (.int .i64 i, ()) ∧ i ≤ p.2.length ∧ H2.Le H' ∧ ∀ (j : Nat) (hj : j < i) (g : j < p.2.length), inR (-100) 100 p.2[j] = true)
        (fun s _ => match s.1 with | .int _ i => p.2.length - i.toNat | _ => 0) ⟨0, rfl, Nat.zero_le _, .refl _, fun j hj => by omega⟩ ?_
      rintro s H3 ⟨i, rfl, hi, l3, ok⟩
      unfold f48.l1
      have k3 := l3.at k2 (by have := l2.next; omega)
      have l13 := l12.trans l3
      refine Wi.fieldAddr0 (Wi.get k3 rfl (Wi.lenOf (Rd.le _ hr2 l13) (Wi.lss (Wi.cond (fun hlt => ?_) fun hge => ?_))))
      · have hix : i < p.2.length := by simp only [decide_eq_true_eq] at hlt; omega
        refine Wi.fieldAddr0 (Wi.get k3 rfl (Wi.atInt (Rd.le _ hr2 l13) hix (Wi.call (fn49 (Wi.not (Wi.cond (fun hn => ?_) fun hy => ?_))))))
        · have := h H3 l13
          rw [show allUp 100 p.2 = false by
            unfold allUp; rw [List.all_eq_false]; exact ⟨_, List.getElem_mem hix, by simpa using hn⟩] at this
          exact this
        · refine Wi.add (by unfold I64; omega) ⟨⟨i + 1, rfl, by omega, l3, fun j hj g => ?_⟩, by simp only; omega⟩
          by_cases hji : j < i
          · exact ok j hji g
          · have : j = i := by omega
            subst this
            simpa using hy
      · have hii : i = p.2.length := by simp only [decide_eq_false_iff_not] at hge; omega
        have := h H3 l13
        rw [show allUp 100 p.2 = true by
          unfold allUp; rw [List.all_eq_true]
          intro x hx
          obtain ⟨n, hn, rfl⟩ := List.mem_iff_getElem.1 hx
          exact ok n (by omega) hn] at this
        exact this

theorem Wi.convU {H : Heap} {k : Post} {n : Nat} (hn : n < 4611686018427387904) (h : k (.int .u64 n) H) : W.conv .u64 (.int .i64 n) H k := by
  have : IntKind.u64.wrap n = n := by
    simp only [IntKind.wrap, IntKind.signed, IntKind.bits]
    simp
    omega
  simp only [W.conv, this]
  exact h

/-- The reference's code of a set of a problem. -/
def setCode (p : Prob) (s : Int) : Int := if isProb p then (if isSet p.2.length s then 0 else 2) else 1

theorem fn35 {H : Heap} {Q : Post} {bs : List Nat} {cs : List Value} {p : Prob} {s : Int} (hr : RProblem.rel H bs cs p) (h : ∀ H', H.Le H' → Q (.int .i64 (setCode p s)) H') : Runs Try.prog 35 #[.agg cs.toArray, .int .i64 s] H Q := by
  obtain ⟨u1, u2, b1, b2, rfl, _, hr1, hr2⟩ := prob_cells hr
  refine f35.enter ?_
  unfold f35.w
  unfold setCode at h
  refine Wi.box fun H1 l1 n1 k1 => Wi.getN k1 (by simp) (Wi.call (fn48 (Rd.le _ hr l1) fun H2 l2 => Wi.not ?_))
  have k2 := l2.at k1 (by omega)
  have l12 := l1.trans l2
  cases hb : isProb p with
  | false =>
    rw [hb] at h
    exact Wi.tru (h H2 l12)
  | true =>
    rw [hb] at h
    have hl := isProb_len hb
    refine Wi.fls (Wi.fieldAddr0 (Wi.get k2 rfl (Wi.lenOf (Rd.le _ hr2 l12) (Wi.convU (by omega) (Wi.shl1 (by omega) (Wi.sub (i64_pow (by omega)) (Wi.call (fn49 (Wi.not ?_)))))))))
    cases hs : inR 0 (2 ^ p.2.length - 1) s with
    | true =>
      rw [if_pos rfl, if_pos (show isSet p.2.length s = true from hs)] at h
      exact Wi.fls (h H2 l12)
    | false =>
      rw [if_pos rfl, if_neg (show ¬ isSet p.2.length s = true by unfold isSet; simp [hs])] at h
      exact Wi.tru (h H2 l12)

theorem fn14 {H : Heap} {Q : Post} {bs : List Nat} {cs : List Value} {d : Desk} (hr : RDesk.rel H bs cs d) (h : ∀ H', H.Le H' → Q (.bool (isDesk d)) H') : Runs Try.prog 14 #[.agg cs.toArray] H Q := by
  obtain ⟨u1, u2, b1, rfl, hp, hi⟩ := desk_cells hr
  refine f14.enter ?_
  unfold f14.w
  refine Wi.box fun H1 l1 n1 k1 => Wi.fieldAddr0 (Wi.getN k1 (by simp) (Wi.fieldAddr0 (Wi.get k1 rfl (Wi.call (fn35 (Rd.le _ hp l1) fun H2 l2 => Wi.eql ?_)))))
  have e : (setCode d.1 d.2 == 0) = isDesk d := by
    unfold setCode isDesk
    cases isProb d.1 <;> cases isSet d.1.2.length d.2 <;> rfl
  rw [e]
  exact h H2 (l1.trans l2)

end Go.Proofs.Ytanpnljhopankaa
