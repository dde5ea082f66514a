/- What a program is; the contract of the program's IsProgram. No condition. -/
import Derived.Test.YtioleipoomgmhaaA3
import Derived.Test.YtioleipoomgmhaaB1
import Derived.Test.YtioleipoomgmhaaC1
import Derived.Test.YtioleipoomgmhaaC3
namespace Go.Proofs.Ytioleipoomgmhaa
open Go.Ab

/- loop.example/g01343/impl.IsProgram -/
def f50.l1 (Q : Post) (v42 : Value) (v41 : Value) (v4 : Value) (v1 : Value) (I1 : St [54] → Heap → Prop) (x_54 : Value) (H : Heap) : Prop :=
  W.bin .lss x_54 v42 H fun v43 H =>
  W.cond v43 H
  (fun H => W.indexAddr 1 v41 x_54 H fun v44 H =>
   W.get v44 H fun v45 H =>
   W.len v45 H fun v46 H =>
   W.bin .neq v46 v4 H fun v47 H =>
   W.guarded v47 false (fun H k => k v45 H) H fun v48 H =>
   W.guarded v47 false (fun H k => W.call Try.prog (.func (.func 85) #[] #[]) #[v48, (.int .i64 20)] H k) H fun v49 H =>
   W.guarded v47 false (fun H k => W.un .not v49 H k) H fun v50 H =>
   W.pick v47 (.bool true) v50 H fun v51 H =>
   W.cond v51 H
   (fun H => Q (.bool false) H)
   (fun H => W.bin .add x_54 (.int .i64 1) H fun v52 H =>
    I1 (v52, ()) H))
  (fun H => W.fieldAddr 0 v1 H fun v53 H =>
   W.get v53 H fun v54 H =>
   W.call Try.prog (.func (.func 86) #[] #[]) #[v54, (.func (.func 87) #[] #[v1])] H fun v55 H =>
   Q v55 H)
def f50.w (Q : Post) (p_0 : Value) (H : Heap) : Prop :=
  W.box p_0 41 H fun v1 H =>
  W.fieldAddr 1 v1 H fun v2 H =>
  W.get v2 H fun v3 H =>
  W.len v3 H fun v4 H =>
  W.fieldAddr 3 v1 H fun v5 H =>
  W.get v5 H fun v6 H =>
  W.len v6 H fun v7 H =>
  W.bin .lss v4 (.int .i64 1) H fun v8 H =>
  W.guarded v8 false (fun H k => k v4 H) H fun v9 H =>
  W.guarded v8 false (fun H k => k v7 H) H fun v10 H =>
  W.guarded v8 false (fun H k => W.bin .add v9 v10 H k) H fun v11 H =>
  W.guarded v8 false (fun H k => W.bin .gtr v11 (.int .i64 5) H k) H fun v12 H =>
  W.pick v8 (.bool true) v12 H fun v13 H =>
  W.guarded v13 false (fun H k => W.fieldAddr 2 v1 H k) H fun v14 H =>
  W.guarded v13 false (fun H k => W.get v14 H k) H fun v15 H =>
  W.guarded v13 false (fun H k => W.len v15 H k) H fun v16 H =>
  W.guarded v13 false (fun H k => k v7 H) H fun v17 H =>
  W.guarded v13 false (fun H k => W.bin .neq v16 v17 H k) H fun v18 H =>
  W.pick v13 (.bool true) v18 H fun v19 H =>
  W.guarded v19 false (fun H k => W.fieldAddr 0 v1 H k) H fun v20 H =>
  W.guarded v19 false (fun H k => W.get v20 H k) H fun v21 H =>
  W.guarded v19 false (fun H k => k v4 H) H fun v22 H =>
  W.guarded v19 false (fun H k => W.call Try.prog (.func (.func 84) #[] #[]) #[v21, v22] H k) H fun v23 H =>
  W.guarded v19 false (fun H k => W.un .not v23 H k) H fun v24 H =>
  W.pick v19 (.bool true) v24 H fun v25 H =>
  W.guarded v25 false (fun H k => W.fieldAddr 1 v1 H k) H fun v26 H =>
  W.guarded v25 false (fun H k => W.get v26 H k) H fun v27 H =>
  W.guarded v25 false (fun H k => W.call Try.prog (.func (.func 85) #[] #[]) #[v27, (.int .i64 100)] H k) H fun v28 H =>
  W.guarded v25 false (fun H k => W.un .not v28 H k) H fun v29 H =>
  W.pick v25 (.bool true) v29 H fun v30 H =>
  W.guarded v30 false (fun H k => W.fieldAddr 3 v1 H k) H fun v31 H =>
  W.guarded v30 false (fun H k => W.get v31 H k) H fun v32 H =>
  W.guarded v30 false (fun H k => W.call Try.prog (.func (.func 85) #[] #[]) #[v32, (.int .i64 100)] H k) H fun v33 H =>
  W.guarded v30 false (fun H k => W.un .not v33 H k) H fun v34 H =>
  W.pick v30 (.bool true) v34 H fun v35 H =>
  W.cond v35 H
  (fun H => Q (.bool false) H)
  (fun H => W.fieldAddr 0 v1 H fun v36 H =>
   W.get v36 H fun v37 H =>
   W.fieldAddr 2 v1 H fun v38 H =>
   W.get v38 H fun v39 H =>
   W.lit 2 [(.slice none 0 0)] 22 [(0, 1, v37), (1, 1, v39)] H fun v40 H =>
   W.call Try.prog (.func (.func 53) #[] #[]) #[v40] H fun v41 H =>
   W.len v41 H fun v42 H =>
   W.loop (S := St [54]) (fun I1 s H => f50.l1 Q v42 v41 v4 v1 I1 s.1 H) ((.int .i64 0), ()) H)
theorem f50.enter {Q : Post} {p_0 : Value} {H : Heap} (h : f50.w Q p_0 H) : Runs Try.prog 50 #[p_0] H Q :=
  fn_enter (ann := [(5, [54])]) (by kernel_rfl) Try.func50 rfl (by kernel_rfl) h (by kernel_rfl)

/- loop.example/g01343/impl.IsProgram$1 -/
def f87.w (Q : Post) (i_0 : Value) (k_1 : Value) (x_2 : Value) (H : Heap) : Prop :=
  W.fieldAddr 0 x_2 H fun v1 H =>
  W.get v1 H fun v2 H =>
  W.indexAddr 1 v2 i_0 H fun v3 H =>
  W.get v3 H fun v4 H =>
  W.indexAddr 1 v4 k_1 H fun v5 H =>
  W.get v5 H fun v6 H =>
  W.fieldAddr 0 x_2 H fun v7 H =>
  W.get v7 H fun v8 H =>
  W.indexAddr 1 v8 k_1 H fun v9 H =>
  W.get v9 H fun v10 H =>
  W.indexAddr 1 v10 i_0 H fun v11 H =>
  W.get v11 H fun v12 H =>
  W.bin .eql v6 v12 H fun v13 H =>
  Q v13 H
theorem f87.enter {Q : Post} {i_0 : Value} {k_1 : Value} {x_2 : Value} {H : Heap} (h : f87.w Q i_0 k_1 x_2 H) : Runs Try.prog 87 #[i_0, k_1, x_2] H Q :=
  fn_enter (ann := []) (by kernel_rfl) Try.func87 rfl (by kernel_rfl) h (by kernel_rfl)


/-- A quadratic program. -/
structure IsPrg (p : Prg) : Prop where
  n1 : 1 ≤ p.2.1.length
  nm : p.2.1.length + p.2.2.2.length ≤ 5
  dl : p.1.length = p.2.1.length
  al : p.2.2.1.length = p.2.2.2.length
  d : ∀ r ∈ p.1, r.length = p.2.1.length ∧ ∀ x ∈ r, -20 ≤ x ∧ x ≤ 20
  c : ∀ x ∈ p.2.1, -100 ≤ x ∧ x ≤ 100
  b : ∀ x ∈ p.2.2.2, -100 ≤ x ∧ x ≤ 100
  a : ∀ r ∈ p.2.2.1, r.length = p.2.1.length ∧ ∀ x ∈ r, -20 ≤ x ∧ x ≤ 20
  sym : ∀ i k (hi : i < p.1.length) (hk : k < p.1.length) (h1 : k < p.1[i].length) (h2 : i < p.1[k].length), p.1[i][k] = p.1[k][i]

theorem allUp_iff {m : Int} {xs : List Int} : allUp m xs = true ↔ ∀ x ∈ xs, -m ≤ x ∧ x ≤ m := by
  simp [allUp, inR, List.all_eq_true]

theorem isSq_iff {n : Nat} {m : List (List Int)} : isSq n m = true ↔ m.length = n ∧ ∀ r ∈ m, r.length = n := by
  simp [isSq, List.all_eq_true]

theorem fn50 {H0 : Heap} {Q : Post} {cs : List Value} {p : Prg} (hr : Has RPrg H0 cs p) (hw : wPrg p ≤ 1048576) (hQ : ∀ H' b, H0.Le H' → (b = true ↔ IsPrg p) → Q (.bool b) H') : Runs Try.prog 50 #[.agg cs.toArray] H0 Q := by
  obtain ⟨u1, u2, u3, u4, rfl, r1, r2, r3, r4⟩ := hasPrg hr
  simp only [szp, wl] at hw
  have hF : ∀ H', H0.Le H' → ¬ IsPrg p → Q (.bool false) H' := fun H' l h => hQ H' _ l ⟨fun e => Bool.noConfusion e, fun g => absurd g h⟩
  refine f50.enter ?_
  unfold f50.w
  have h := ((((Loc.start H0).lent r1).lent r2).lent r3).lent r4
  refine Wl.box h fun H b h => Wi.fieldAddr0 (Wl.get h rfl (Wl.len h (Wi.fieldAddr0 (Wl.get h rfl (Wl.len h (Wi.lssC (fun hlt => ?_) fun h1 => ?_))))))
  · exact hF _ h.le fun g => by have := g.n1; omega
  simp only [g4]
  refine Wi.add (by unfold I64; omega) (Wi.gtrC (fun hgt => ?_) fun h2 => ?_)
  · exact hF _ h.le fun g => by have := g.nm; omega
  simp only [g4, g6]
  refine Wi.fieldAddr0 (Wl.get h rfl (Wl.len h (Wi.neqC (fun hne => ?_) fun h3 => ?_)))
  · exact hF _ h.le fun g => by have := g.al; omega
  simp only [g4, g6]
  obtain ⟨bs1, q1⟩ := h.rd (cs := [u1])
  refine Wi.fieldAddr0 (Wl.get h rfl (Wi.call (fn84 q1 fun H l => ?_)))
  have h := h.to l
  cases hsq : isSq p.2.1.length p.1 with
  | false => exact hF _ h.le fun g => by rw [isSq_iff.2 ⟨g.dl, fun r hr => (g.d r hr).1⟩] at hsq; cases hsq
  | true =>
  simp only [g4, g6, g9]
  obtain ⟨bs2, q2⟩ := h.rd (cs := [u2])
  refine Wi.fieldAddr0 (Wl.get h rfl (Wi.call (fn85 (by unfold I64; omega) q2 fun H l => ?_)))
  have h := h.to l
  cases hc : allUp 100 p.2.1 with
  | false => exact hF _ h.le fun g => by rw [allUp_iff.2 g.c] at hc; cases hc
  | true =>
  simp only [g4, g6, g9]
  obtain ⟨bs4, q4⟩ := h.rd (cs := [u4])
  refine Wi.fieldAddr0 (Wl.get h rfl (Wi.call (fn85 (by unfold I64; omega) q4 fun H l => ?_)))
  have h := h.to l
  cases hb : allUp 100 p.2.2.2 with
  | false => exact hF _ h.le fun g => by rw [allUp_iff.2 g.b] at hb; cases hb
  | true =>
  simp only [g4, g6, g8, g9]
  obtain ⟨sq1, sq2⟩ := isSq_iff.1 hsq
  have hc := allUp_iff.1 hc
  have hb := allUp_iff.1 hb
  -- the rows of both
  refine Wi.fieldAddr0 (Wl.get h rfl (Wi.fieldAddr0 (Wl.get h rfl ?_)))
  obtain ⟨bs1, q1⟩ := h.rd (cs := [u1])
  obtain ⟨bs3, q3⟩ := h.rd (cs := [u3])
  have c1 := RSS.cell q1
  have c3 := RSS.cell q3
  refine Wi.lit (cells := [u1, u3]) ?_ fun H1 l1 n1 k1 => ?_
  · obtain ⟨a1, e1, g1⟩ := Rd.slice_val q1
    obtain ⟨a3, e3, g3⟩ := Rd.slice_val q3
    simp only [List.cons.injEq, and_true] at g1 g3
    subst g1 g3
    rfl
  have h := h.to l1
  have hv : Has (Rd.slice RSS) H1 [.slice (some (adr _ 0)) 2 (2 * 2)] [p.1, p.2.2.1] := ⟨_, .inr ⟨_, 0, _, _, fun i => if i = 0 then bs1 else bs3, rfl, rfl, ⟨by omega, k1, by simp, by simp, by simp [Rd.slice], fun i hi => by
    match i, hi with
    | 0, _ => exact Rd.le _ q1 l1
    | 1, _ => exact Rd.le _ q3 l1⟩⟩⟩
  refine Wi.call (concat53 _ _ [p.1, p.2.2.1] _ hv (by simp; omega) fun H u j => ?_)
  have h := h.to j.le
  have hu := j.read
  have eF : ([p.1, p.2.2.1] : List (List (List Int))).flatten = p.1 ++ p.2.2.1 := by simp
  rw [eF] at hu
  refine Wl.lenH hu (W.all_rule (p.1 ++ p.2.2.1).length (fun i => match (p.1 ++ p.2.2.1)[i]? with | some r => decide (r.length = p.2.1.length) && allUp 20 r | none => true) (fun i H2 J hi hpr l2 hJ => ?_) fun H2 J hall l2 => ?_)
  · refine Wi.lssC (fun _ => Wi.tru (Wl.at1H rfl (hu.le l2) hi fun w hw' => Wl.lenH hw' (Wi.neqC (fun hne => ?_) fun heq => ?_))) fun h => by omega
    · refine hF _ (h.le.trans l2) fun g => ?_
      rcases List.mem_append.1 (List.getElem_mem hi) with hm | hm
      · exact hne (by rw [(g.d _ hm).1])
      · exact hne (by rw [(g.a _ hm).1])
    simp only [g4]
    obtain ⟨bw, qw⟩ := hw'
    refine Wi.call (fn85 (by unfold I64; omega) qw fun H3 l3 => ?_)
    cases hup : allUp 20 (p.1 ++ p.2.2.1)[i] with
    | false =>
      refine hF _ ((h.le.trans l2).trans l3) fun g => ?_
      have : allUp 20 (p.1 ++ p.2.2.1)[i] = true := by
        rcases List.mem_append.1 (List.getElem_mem hi) with hm | hm
        · exact allUp_iff.2 (g.d _ hm).2
        · exact allUp_iff.2 (g.a _ hm).2
      rw [this] at hup
      cases hup
    | true =>
    simp only [g4, g6, g8, g9]
    have hl : (p.1 ++ p.2.2.1).length ≤ 1048576 := by simp; omega
    refine Wi.add (by unfold I64; omega) (hJ ?_ H3 l3)
    rw [List.getElem?_eq_getElem hi]
    have : (p.1 ++ p.2.2.1)[i].length = p.2.1.length := by omega
    simp [this, hup]
  · refine Wi.lssC (fun h => by omega) fun _ => Wi.fls ?_
    have hrows : ∀ r ∈ p.1 ++ p.2.2.1, r.length = p.2.1.length ∧ ∀ x ∈ r, -20 ≤ x ∧ x ≤ 20 := fun r hr => by
      obtain ⟨i, hi, rfl⟩ := List.mem_iff_getElem.1 hr
      have := hall i hi
      rw [List.getElem?_eq_getElem hi] at this
      simp only [Bool.and_eq_true, decide_eq_true_eq] at this
      exact ⟨this.1, allUp_iff.1 this.2⟩
    have h := h.to l2
    refine Wi.fieldAddr0 (Wl.get h rfl (Wi.call (fn86 (p := fun i k => decide ((p.1.getD i []).getD k 0 = (p.1.getD k []).getD i 0)) (h.rd (cs := [u1])) ?_ fun H3 l3 => hQ _ _ (h.le.trans l3) ⟨fun e => ?_, fun g => ?_⟩)))
    · intro H3 i k K l3 hi hk hK
      have hi2 : i < p.1[k].length := by rw [sq2 _ (List.getElem_mem hk)]; omega
      have hk2 : k < p.1[i].length := by rw [sq2 _ (List.getElem_mem hi)]; omega
      have h := h.to l3
      refine Wi.callV (f87.enter (Wi.fieldAddr0 (Wl.get h rfl (Wl.at1 rfl h hi fun w1 hw1 => Wl.atIntH hw1 hk2 fun _ => Wi.fieldAddr0 (Wl.get h rfl (Wl.at1 rfl h hk fun w2 hw2 => Wl.atIntH hw2 hi2 fun _ => Wi.eql ?_))))))
      have := hK _ (.refl _)
      simp only [List.getD_eq_getElem?_getD, List.getElem?_eq_getElem hi, List.getElem?_eq_getElem hk, Option.getD_some, List.getElem?_eq_getElem hi2, List.getElem?_eq_getElem hk2] at this
      have e2 : (p.1[i][k] == p.1[k][i]) = decide (p.1[i][k] = p.1[k][i]) := rfl
      rw [e2]
      exact this
    · refine ⟨by omega, by omega, sq1, by omega, fun r hr => hrows r (List.mem_append_left _ hr), hc, hb, fun r hr => hrows r (List.mem_append_right _ hr), fun i k hi hk h1 h2 => ?_⟩
      have := allN_iff.1 (allN_iff.1 e i hi) k hk
      simpa [List.getD_eq_getElem?_getD, List.getElem?_eq_getElem hi, List.getElem?_eq_getElem hk, List.getElem?_eq_getElem h1, List.getElem?_eq_getElem h2] using this
    · refine allN_iff.2 fun i hi => allN_iff.2 fun k hk => ?_
      have hi2 : i < p.1[k].length := by rw [sq2 _ (List.getElem_mem hk)]; omega
      have hk2 : k < p.1[i].length := by rw [sq2 _ (List.getElem_mem hi)]; omega
      simpa [List.getD_eq_getElem?_getD, List.getElem?_eq_getElem hi, List.getElem?_eq_getElem hk, List.getElem?_eq_getElem hk2, List.getElem?_eq_getElem hi2] using g.sym i k hi hk hk2 hi2

end Go.Proofs.Ytioleipoomgmhaa
