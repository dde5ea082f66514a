/- Contracts of the reference's l01In, l01Matrix and l01Is. No condition. -/
import Derived.Test.YthfcodelpebjcaaB2
import Derived.Test.YthfcodelpebjcaaB0
import Derived.Test.YthfcodelpebjcaaZabG5
namespace Go.Proofs.Ythfcodelpebjcaa
open Go.Ab

/- loop.example/g01343/spec.l01Matrix -/
def f105.l2 (Q : Post) (v1 : Value) (m_0 : Value) (i_4 : Value) (I1 : St [4] → Heap → Prop) (I2 : St [5] → Heap → Prop) (k_5 : Value) (H : Heap) : Prop :=
  W.bin .lss k_5 v1 H fun v11 H =>
  W.cond v11 H
  (fun H => W.indexAddr 1 m_0 i_4 H fun v12 H =>
   W.get v12 H fun v13 H =>
   W.indexAddr 1 v13 k_5 H fun v14 H =>
   W.get v14 H fun v15 H =>
   W.call Try.prog (.func (.func 59) #[] #[]) #[v15, (.int .i64 (-20)), (.int .i64 20)] H fun v16 H =>
   W.un .not v16 H fun v17 H =>
   W.cond v17 H
   (fun H => Q (.bool false) H)
   (fun H => W.bin .add k_5 (.int .i64 1) H fun v18 H =>
    I2 (v18, ()) H))
  (fun H => W.bin .add i_4 (.int .i64 1) H fun v19 H =>
   I1 (v19, ()) H)
def f105.l1 (Q : Post) (v1 : Value) (m_0 : Value) (I1 : St [4] → Heap → Prop) (i_4 : Value) (H : Heap) : Prop :=
  W.bin .lss i_4 v1 H fun v6 H =>
  W.cond v6 H
  (fun H => W.indexAddr 1 m_0 i_4 H fun v7 H =>
   W.get v7 H fun v8 H =>
   W.len v8 H fun v9 H =>
   W.bin .neq v9 v1 H fun v10 H =>
   W.cond v10 H
   (fun H => Q (.bool false) H)
   (fun H => W.loop (S := St [5]) (fun I2 s H => f105.l2 Q v1 m_0 i_4 I1 I2 s.1 H) ((.int .i64 0), ()) H))
  (fun H => Q (.bool true) H)
def f105.w (Q : Post) (m_0 : Value) (H : Heap) : Prop :=
  W.len m_0 H fun v1 H =>
  W.bin .lss v1 (.int .i64 1) H fun v2 H =>
  W.guarded v2 false (fun H k => k v1 H) H fun v3 H =>
  W.guarded v2 false (fun H k => W.bin .gtr v3 (.int .i64 5) H k) H fun v4 H =>
  W.pick v2 (.bool true) v4 H fun v5 H =>
  W.cond v5 H
  (fun H => Q (.bool false) H)
  (fun H => W.loop (S := St [4]) (fun I1 s H => f105.l1 Q v1 m_0 I1 s.1 H) ((.int .i64 0), ()) H)
theorem f105.enter {Q : Post} {m_0 : Value} {H : Heap} (h : f105.w Q m_0 H) : Runs Try.prog 105 #[m_0] H Q :=
  fn_enter (ann := [(5, [4]), (10, [5])]) (by kernel_rfl) Try.func105 rfl (by kernel_rfl) h (by kernel_rfl)

/- loop.example/g01343/spec.l01Is -/
def f71.l1 (Q : Post) (v1 : Value) (I1 : St [3] → Heap → Prop) (i_3 : Value) (H : Heap) : Prop :=
  W.fieldAddr 1 v1 H fun v14 H =>
  W.get v14 H fun v15 H =>
  W.len v15 H fun v16 H =>
  W.bin .lss i_3 v16 H fun v17 H =>
  W.cond v17 H
  (fun H => W.fieldAddr 1 v1 H fun v18 H =>
   W.get v18 H fun v19 H =>
   W.indexAddr 1 v19 i_3 H fun v20 H =>
   W.get v20 H fun v21 H =>
   W.call Try.prog (.func (.func 59) #[] #[]) #[v21, (.int .i64 (-100)), (.int .i64 100)] H fun v22 H =>
   W.un .not v22 H fun v23 H =>
   W.cond v23 H
   (fun H => Q (.bool false) H)
   (fun H => W.bin .add i_3 (.int .i64 1) H fun v24 H =>
    I1 (v24, ()) H))
  (fun H => Q (.bool true) H)
def f71.w (Q : Post) (p_0 : Value) (H : Heap) : Prop :=
  W.box p_0 27 H fun v1 H =>
  W.fieldAddr 0 v1 H fun v2 H =>
  W.get v2 H fun v3 H =>
  W.call Try.prog (.func (.func 105) #[] #[]) #[v3] H fun v4 H =>
  W.un .not v4 H fun v5 H =>
  W.guarded v5 false (fun H k => W.fieldAddr 1 v1 H k) H fun v6 H =>
  W.guarded v5 false (fun H k => W.get v6 H k) H fun v7 H =>
  W.guarded v5 false (fun H k => W.len v7 H k) H fun v8 H =>
  W.guarded v5 false (fun H k => W.fieldAddr 0 v1 H k) H fun v9 H =>
  W.guarded v5 false (fun H k => W.get v9 H k) H fun v10 H =>
  W.guarded v5 false (fun H k => W.len v10 H k) H fun v11 H =>
  W.guarded v5 false (fun H k => W.bin .neq v8 v11 H k) H fun v12 H =>
  W.pick v5 (.bool true) v12 H fun v13 H =>
  W.cond v13 H
  (fun H => Q (.bool false) H)
  (fun H => W.loop (S := St [3]) (fun I1 s H => f71.l1 Q v1 I1 s.1 H) ((.int .i64 0), ()) H)
theorem f71.enter {Q : Post} {p_0 : Value} {H : Heap} (h : f71.w Q p_0 H) : Runs Try.prog 71 #[p_0] H Q :=
  fn_enter (ann := [(4, [3])]) (by kernel_rfl) Try.func71 rfl (by kernel_rfl) h (by kernel_rfl)


theorem isMat_eq (m : List (List Int)) : isMat m = (decide (1 ≤ m.length) && decide (m.length ≤ 5) && m.all (fun r => decide (r.length = m.length) && r.all (inR (-20) 20))) := by
  unfold isMat isSq inR allUp inR
  have : (m.all fun r => decide (r.length = m.length) && r.all fun n => decide (-20 ≤ n) && decide (n ≤ 20)) = (m.all (fun r => decide (r.length = m.length)) && m.all fun xs => xs.all fun n => decide (-20 ≤ n) && decide (n ≤ 20)) := by
    induction m with
    | nil => rfl
    | cons x xs ih =>
      rw [Bool.eq_iff_iff]
      simp only [List.all_eq_true, Bool.and_eq_true, decide_eq_true_eq]
      constructor
      · intro h; exact ⟨fun r hr => (h r hr).1, fun r hr n hn => (h r hr).2 n hn⟩
      · intro h r hr; exact ⟨h.1 r hr, fun n hn => h.2 r hr n hn⟩
  rw [this]
  simp
  have e : decide (1 ≤ (m.length : Int)) = decide (1 ≤ m.length) := by
    by_cases h : 1 ≤ m.length <;> simp <;> omega
  have e2 : decide ((m.length : Int) ≤ 5) = decide (m.length ≤ 5) := by
    by_cases h : m.length ≤ 5 <;> simp <;> omega
  rw [e, e2]
  simp [Bool.and_assoc]

theorem fn105 {H : Heap} {Q : Post} {bs : List Nat} {v : Value} {m : List (List Int)} (hr : RSS.rel H bs [v] m) (h : ∀ H', H.Le H' → Q (.bool (isMat m)) H') : Runs Try.prog 105 #[v] H Q := by
  refine f105.enter ?_
  unfold f105.w
  refine Wi.lenOf hr (Wi.lss ?_)
  rw [isMat_eq] at h
  have hT : m.length < 1 ∨ 5 < m.length → ∀ H', H.Le H' → Q (.bool false) H' := fun hc H' l => by
    have := h H' l
    rw [show (decide (1 ≤ m.length) && decide (m.length ≤ 5) && m.all (fun r => decide (r.length = m.length) && r.all (inR (-20) 20))) = false by
      rw [show (decide (1 ≤ m.length) && decide (m.length ≤ 5)) = false by rw [Bool.and_eq_false_iff]; exact hc.elim (fun h => .inl (decide_eq_false (by omega))) fun h => .inr (decide_eq_false (by omega))]; rfl] at this
    exact this
  have body : 1 ≤ m.length → m.length ≤ 5 → W.loop (S := St [4]) (fun I1 s H => f105.l1 Q (.int .i64 m.length) v I1 s.1 H) ((.int .i64 0), ()) H := by
    intro h1 h5
    have hF : ∀ r ∈ m, (decide (r.length = m.length) && r.all (inR (-20) 20)) = false → ∀ H', H.Le H' → Q (.bool false) H' := fun r hr hf H' l => by
      have := h H' l
      rw [show (decide (1 ≤ m.length) && decide (m.length ≤ 5) && m.all (fun r => decide (r.length = m.length) && r.all (inR (-20) 20))) = false by
        rw [Bool.and_eq_false_iff]; right; rw [List.all_eq_false]; exact ⟨r, hr, by simp [hf]⟩] at this
      exact this
    refine W.loop_rule (fun s H' => ∃ i : Nat, s = (.int .i64 i, ()) ∧ i ≤ m.length ∧ H.Le H' ∧ ∀ (j : Nat) (hj : j < i) (g : j < m.length), (decide (m[j].length = m.length) && m[j].all (inR (-20) 20)) = true)
      (fun s _ => match s.1 with | .int _ i => m.length - i.toNat | _ => 0) ⟨0, rfl, Nat.zero_le _, .refl _, fun j hj => by omega⟩ ?_
    rintro s H1 ⟨i, rfl, hi, l1, ok⟩
    unfold f105.l1
    refine Wi.lss (Wi.cond (fun hlt => ?_) fun hge => ?_)
    · have hix : i < m.length := by simp only [decide_eq_true_eq] at hlt; omega
      refine Wi.at1 rfl (Rd.le _ hr l1) hix fun u bu hu => Wi.lenOf hu (Wi.neq ?_)
      rw [int_bne]
      refine Wi.cond (fun hne => ?_) fun heq => ?_
      · exact hF _ (List.getElem_mem hix) (by simp at hne; simp [hne]) H1 l1
      · have hlen : m[i].length = m.length := by simpa using heq
        refine W.loop_rule (fun s H' => ∃ k : Nat, s = (.int .i64 k, ()) ∧ k ≤ m.length ∧ H1.Le H' ∧ ∀ (j : Nat) (hj : j < k) (g : j < m[i].length), inR (-20) 20 m[i][j] = true)
          (fun s _ => match s.1 with | .int _ i => m.length - i.toNat | _ => 0) ⟨0, rfl, Nat.zero_le _, .refl _, fun j hj => by omega⟩ ?_
        rintro s H2 ⟨k, rfl, hk, l2, ok2⟩
        unfold f105.l2
        have l12 := l1.trans l2
        refine Wi.lss (Wi.cond (fun hlt => ?_) fun hge => ?_)
        · have hkx : k < m[i].length := by simp only [decide_eq_true_eq] at hlt; omega
          refine Wi.at1 rfl (Rd.le _ hr l12) hix fun u' bu' hu' => Wi.atInt hu' hkx (Wi.call (fn59 (Wi.not (Wi.cond (fun hn => ?_) fun hy => ?_))))
          · refine hF _ (List.getElem_mem hix) ?_ H2 l12
            rw [Bool.and_eq_false_iff]; right; rw [List.all_eq_false]
            exact ⟨_, List.getElem_mem hkx, by simpa using hn⟩
          · refine Wi.add (by unfold I64; omega) ⟨⟨k + 1, rfl, by omega, l2, fun j hj g => ?_⟩, by simp only; omega⟩
            by_cases hjk : j < k
            · exact ok2 j hjk g
            · have : j = k := by omega
              subst this
              simpa using hy
        · have hkk : k = m.length := by simp only [decide_eq_false_iff_not] at hge; omega
          refine Wi.add (by unfold I64; omega) ⟨⟨i + 1, rfl, by omega, l12, fun j hj g => ?_⟩, by simp only; omega⟩
          by_cases hji : j < i
          · exact ok j hji g
          · have : j = i := by omega
            subst this
            rw [Bool.and_eq_true]
            refine ⟨by simpa using hlen, ?_⟩
            rw [List.all_eq_true]
            intro x hx
            obtain ⟨n, hn, rfl⟩ := List.mem_iff_getElem.1 hx
            exact ok2 n (by omega) hn
    · have hii : i = m.length := by simp only [decide_eq_false_iff_not] at hge; omega
      have := h H1 l1
      rw [show (decide (1 ≤ m.length) && decide (m.length ≤ 5) && m.all (fun r => decide (r.length = m.length) && r.all (inR (-20) 20))) = true by
        rw [Bool.and_eq_true, Bool.and_eq_true]
        refine ⟨⟨by simpa using h1, by simpa using h5⟩, ?_⟩
        rw [List.all_eq_true]
        intro x hx
        obtain ⟨n, hn, rfl⟩ := List.mem_iff_getElem.1 hx
        exact ok n (by omega) hn] at this
      exact this
  cases hb : decide ((m.length : Int) < 1) with
  | true =>
    exact Wi.nT (Wi.nT (Wi.pickT (Wi.tru (hT (by simp only [decide_eq_true_eq] at hb; omega) H (.refl _)))))
  | false =>
    refine Wi.nF (Wi.nF (Wi.gtr (Wi.pickF (Wi.cond (fun hc => ?_) fun hc => ?_))))
    · exact hT (by simp only [decide_eq_true_eq] at hc; omega) H (.refl _)
    · exact body (by simp only [decide_eq_false_iff_not] at hb; omega) (by simp only [decide_eq_false_iff_not] at hc; omega)

theorem fn71 {H : Heap} {Q : Post} {bs : List Nat} {cs : List Value} {p : Prob} (hr : RProblem.rel H bs cs p) (h : ∀ H', H.Le H' → Q (.bool (isProb p)) H') : Runs Try.prog 71 #[.agg cs.toArray] H Q := by
  obtain ⟨u1, u2, b1, b2, rfl, _, hr1, hr2⟩ := prob_cells hr
  refine f71.enter ?_
  unfold f71.w
  unfold isProb at h
  refine Wi.box fun H1 l1 n1 k1 => Wi.fieldAddr0 (Wi.get k1 rfl (Wi.call (fn105 (Rd.le _ hr1 l1) fun H2 l2 => Wi.not ?_)))
  have k2 := l2.at k1 (by omega)
  have l12 := l1.trans l2
  cases hb : isMat p.1 with
  | false =>
    rw [hb] at h
    exact Wi.nT (Wi.nT (Wi.nT (Wi.nT (Wi.nT (Wi.nT (Wi.nT (Wi.pickT (Wi.tru (h H2 l12)))))))))
  | true =>
    rw [hb, Bool.true_and] at h
    refine Wi.nF (Wi.fieldAddr0 (Wi.nF (Wi.get k2 rfl (Wi.nF (Wi.lenOf (Rd.le _ hr2 l12) (Wi.nF (Wi.fieldAddr0 (Wi.nF (Wi.get k2 rfl (Wi.nF (Wi.lenOf (Rd.le _ hr1 l12) (Wi.nF (Wi.neq (Wi.pickF ?_))))))))))))))
    rw [int_bne]
    cases hl : decide (p.2.length = p.1.length) with
    | false =>
      rw [hl] at h
      exact Wi.tru (h H2 l12)
    | true =>
      rw [hl, Bool.true_and] at h
      refine Wi.fls ?_
      have hx := Rd.slice_small hr2
      refine W.loop_rule (fun s H' => ∃ i : Nat, s = (.int .i64 i, ()) ∧ i ≤ p.2.length ∧ H2.Le H' ∧ ∀ (j : Nat) (hj : j < i) (g : j < p.2.length), inR (-100) 100 p.2[j] = true)
        (fun s _ => match s.1 with | .int _ i => p.2.length - i.toNat | _ => 0) ⟨0, rfl, Nat.zero_le _, .refl _, fun j hj => by omega⟩ ?_
      rintro s H3 ⟨i, rfl, hi, l3, ok⟩
      unfold f71.l1
      have k3 := l3.at k2 (by have := l2.next; omega)
      have l13 := l12.trans l3
      refine Wi.fieldAddr0 (Wi.get k3 rfl (Wi.lenOf (Rd.le _ hr2 l13) (Wi.lss (Wi.cond (fun hlt => ?_) fun hge => ?_))))
      · have hix : i < p.2.length := by simp only [decide_eq_true_eq] at hlt; omega
        refine Wi.fieldAddr0 (Wi.get k3 rfl (Wi.atInt (Rd.le _ hr2 l13) hix (Wi.call (fn59 (Wi.not (Wi.cond (fun hn => ?_) fun hy => ?_))))))
        · have := h H3 l13
          rw [show allUp 100 p.2 = false by
            unfold allUp; rw [List.all_eq_false]; exact ⟨_, List.getElem_mem hix, by simpa using hn⟩] at this
          exact this
        · refine Wi.add (by unfold I64; omega) ⟨⟨i + 1, rfl, by omega, l3, fun j hj g => ?_⟩, by simp only; omega⟩
          by_cases hji : j < i
          · exact ok j hji g
          · have : j = i := by omega
            subst this
            simpa using hy
      · have hii : i = p.2.length := by simp only [decide_eq_false_iff_not] at hge; omega
        have := h H3 l13
        rw [show allUp 100 p.2 = true by
          unfold allUp; rw [List.all_eq_true]
          intro x hx
          obtain ⟨n, hn, rfl⟩ := List.mem_iff_getElem.1 hx
          exact ok n (by omega) hn] at this
        exact this

end Go.Proofs.Ythfcodelpebjcaa
