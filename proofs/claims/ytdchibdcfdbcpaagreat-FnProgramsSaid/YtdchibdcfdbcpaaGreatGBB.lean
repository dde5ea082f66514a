/- Contracts of l01Own and slices.Clone. No condition. -/
import Derived.Test.YtdchibdcfdbcpaaGreatGAA
import Derived.Test.YtdchibdcfdbcpaaGreatZabG5
namespace Go.Proofs.YtdchibdcfdbcpaaGreat
open Go.Ab

/- slices.Clone[[]int64,int64] -/
def f74.w (Q : Post) (s_0 : Value) (H : Heap) : Prop :=
  W.eqNilR .eql s_0 (.slice none 0 0) H fun v1 H =>
  W.cond v1 H
  (fun H => Q (.slice none 0 0) H)
  (fun H => W.lit 0 [(.int .i64 0)] 2 [] H fun v2 H =>
   W.append 1 2 v2 s_0 H fun v3 H =>
   Q v3 H)
theorem f74.enter {Q : Post} {s_0 : Value} {H : Heap} (h : f74.w Q s_0 H) : Runs Tryz.prog 74 #[s_0] H Q :=
  fn_enter (ann := []) (by kernel_rfl) Tryz.func74 rfl (by kernel_rfl) h (by kernel_rfl)


theorem fn74 {H0 : Heap} {Q : Post} {v : Value} {xs : List Int} (hr : Has RS H0 [v] xs) (hlen : xs.length ≤ 16777216) (hQ : ∀ H' u, FreshG Rd.int 2 H0 u xs H' → Q u H') : Runs Tryz.prog 74 #[v] H0 Q := by
  refine f74.enter (Wl.isNilH hr (fun e => Wi.tru ?_) (Wi.fls ?_))
  · subst e
    exact hQ _ _ ((((Loc.start H0).nilG Rd.int 2)).retGG (i := 0) rfl)
  · exact Wl.lit0 Rd.int rfl ((Loc.start H0).lent hr) fun H u h => Wl.appendH (i := 0) rfl h rfl h.rd (by simpa using hlen) fun H' v' h => hQ _ _ (h.retGG (i := 0) rfl)

end Go.Proofs.YtdchibdcfdbcpaaGreat
/-! The contract of copyRows. No condition. -/
namespace Go.Proofs.YtdchibdcfdbcpaaGreat
open Go.Ab

/- loop.example/g01343/impl.copyRows -/
def f75.l1 (Q : Post) (v1 : Value) (rows_0 : Value) (I1 : St [3, 8] → Heap → Prop) (out_3 : Value) (x_8 : Value) (H : Heap) : Prop :=
  W.bin .lss x_8 v1 H fun v2 H =>
  W.cond v2 H
  (fun H => W.indexAddr 1 rows_0 x_8 H fun v3 H =>
   W.get v3 H fun v4 H =>
   W.call Tryz.prog (.func (.func 74) #[] #[]) #[v4] H fun v5 H =>
   W.lit 1 [(.slice none 0 0)] 25 [(0, 1, v5)] H fun v6 H =>
   W.append 1 25 out_3 v6 H fun v7 H =>
   W.bin .add x_8 (.int .i64 1) H fun v8 H =>
   I1 (v7, v8, ()) H)
  (fun H => Q out_3 H)
def f75.w (Q : Post) (rows_0 : Value) (H : Heap) : Prop :=
  W.len rows_0 H fun v1 H =>
  W.loop (S := St [3, 8]) (fun I1 s H => f75.l1 Q v1 rows_0 I1 s.1 s.2.1 H) ((.slice none 0 0), (.int .i64 0), ()) H
theorem f75.enter {Q : Post} {rows_0 : Value} {H : Heap} (h : f75.w Q rows_0 H) : Runs Tryz.prog 75 #[rows_0] H Q :=
  fn_enter (ann := [(3, [3, 8])]) (by kernel_rfl) Tryz.func75 rfl (by kernel_rfl) h (by kernel_rfl)


/-- Rows that may be copied. -/
def okRows (m : List (List Int)) : Prop := m.length ≤ 1048576 ∧ ∀ r ∈ m, r.length ≤ 1048576

theorem fn75 {H0 : Heap} {Q : Post} {v : Value} {m : List (List Int)} (hr : Has RSS H0 [v] m) (hm : okRows m) (hQ : ∀ H' u, FreshG RS 25 H0 u m H' → Q u H') : Runs Tryz.prog 75 #[v] H0 Q := by
  refine f75.enter (Wl.lenH hr ?_)
  refine W.for_rule m.length (fun i s H => ∃ u, s = (u, .int .i64 (i : Nat), ()) ∧ Ab.Loc H0 [.grow RS 25 u (m.take i), .lent RSS [v] m] H) ⟨_, rfl, (((Loc.start H0).lent hr).nilG RS 25)⟩ ?_
  rintro i s H J hi ⟨u, rfl, h⟩ hJ
  have := hm.1
  refine Wi.lssC (fun hlt => Wi.tru ?_) fun hge => Wi.fls ?_
  · have hix : i < m.length := by omega
    refine Wl.at1 rfl h hix fun w hw => Wi.call (fn74 hw (by have := hm.2 _ (List.getElem_mem hix); omega) fun H2 u2 f => ?_)
    refine Wl.pushF rfl h f.fresh f.fresh.read.one (by simp; omega) fun H3 v' h => Wi.add (by unfold I64; omega) (hJ _ _ hix ⟨v', rfl, ?_⟩)
    rw [List.take_succ_eq_append_getElem hix]
    exact h
  · have : i = m.length := by omega
    subst this
    rw [List.take_length] at h
    exact hQ _ _ (h.retGG (i := 0) rfl)

end Go.Proofs.YtdchibdcfdbcpaaGreat

/-! The problem of a program, as a plain value. No condition. -/
namespace Go.Proofs.YtdchibdcfdbcpaaGreat
open Go.Ab

def neg (xs : List Int) : List Int := xs.map (fun x => -x)
theorem neg_idx (xs : List Int) : xs.mapIdx (fun _ x => -x) = neg xs := by
  unfold neg
  apply List.ext_getElem <;> simp
/-- The first rows of a program's problem. -/
def prgTop (p : Prg) (i : Nat) : List (List Int) := (List.range i).map fun i => p.1.getD i [] ++ (List.range p.2.2.2.length).map fun j => -((p.2.2.1.getD j []).getD i 0)
def prgLow (p : Prg) (j : Nat) : List (List Int) := (p.2.2.1.take j).map fun r => r ++ List.replicate p.2.2.2.length 0
def prgProblem (p : Prg) : Prob := (prgTop p p.2.1.length ++ prgLow p p.2.2.1.length, p.2.1 ++ neg p.2.2.2)

theorem prgTop_len (p : Prg) (i : Nat) : (prgTop p i).length = i := by unfold prgTop; rw [List.length_map, List.length_range]
theorem prgTop_succ (p : Prg) (i : Nat) : prgTop p (i + 1) = prgTop p i ++ [p.1.getD i [] ++ (List.range p.2.2.2.length).map fun j => -((p.2.2.1.getD j []).getD i 0)] := by
  unfold prgTop
  rw [List.range_succ, List.map_append]
  rfl
theorem prgLow_len (p : Prg) (j : Nat) : (prgLow p j).length ≤ p.2.2.1.length := by unfold prgLow; rw [List.length_map, List.length_take]; omega
theorem prgLow_succ (p : Prg) {j : Nat} (h : j < p.2.2.1.length) : prgLow p (j + 1) = prgLow p j ++ [p.2.2.1[j] ++ List.replicate p.2.2.2.length 0] := by
  unfold prgLow
  rw [List.take_succ_eq_append_getElem h, List.map_append]
  rfl

noncomputable def ppRes (p : Prg) : Prob × Int := open Classical in if IsPrg p then (prgProblem p, 0) else (([], []), 1)

theorem prgProblem_dims {p : Prg} (h : IsPrg p) : (prgProblem p).1.length = p.2.1.length + p.2.2.2.length ∧ (prgProblem p).2.length = p.2.1.length + p.2.2.2.length ∧ ∀ r ∈ (prgProblem p).1, r.length = p.2.1.length + p.2.2.2.length := by
  have h1 := h.al
  have h2 := h.dl
  refine ⟨by simp [prgProblem, prgTop, prgLow, h1], by simp [prgProblem, neg], fun r hr => ?_⟩
  simp only [prgProblem, List.mem_append] at hr
  rcases hr with hr | hr
  · simp only [prgTop, List.mem_map, List.mem_range] at hr
    obtain ⟨i, hi, rfl⟩ := hr
    have hi2 : i < p.1.length := by omega
    simp [List.getD_eq_getElem?_getD, List.getElem?_eq_getElem hi2, (h.d _ (List.getElem_mem hi2)).1]
  · simp only [prgLow, List.mem_map] at hr
    obtain ⟨r, hr, rfl⟩ := hr
    simp [(h.a r (List.mem_of_mem_take hr)).1]

end Go.Proofs.YtdchibdcfdbcpaaGreat

/-! Contracts of the program's IsMatrix, IsProblem and isSet. No condition. -/
namespace Go.Proofs.YtdchibdcfdbcpaaGreat
open Go.Ab

/- loop.example/g01343/impl.IsMatrix -/
def f172.w (Q : Post) (m_0 : Value) (H : Heap) : Prop :=
  W.len m_0 H fun v1 H =>
  W.call Tryz.prog (.func (.func 71) #[] #[]) #[v1, (.int .i64 1), (.int .i64 5)] H fun v2 H =>
  W.guarded v2 true (fun H k => k m_0 H) H fun v3 H =>
  W.guarded v2 true (fun H k => k m_0 H) H fun v4 H =>
  W.guarded v2 true (fun H k => W.len v4 H k) H fun v5 H =>
  W.guarded v2 true (fun H k => W.call Tryz.prog (.func (.func 96) #[] #[]) #[v3, v5] H k) H fun v6 H =>
  W.pick v2 v6 (.bool false) H fun v7 H =>
  W.guarded v7 true (fun H k => k m_0 H) H fun v8 H =>
  W.guarded v7 true (fun H k => W.call Tryz.prog (.func (.func 125) #[] #[]) #[v8, (.func (.func 176) #[] #[])] H k) H fun v9 H =>
  W.guarded v7 true (fun H k => W.un .not v9 H k) H fun v10 H =>
  W.pick v7 v10 (.bool false) H fun v11 H =>
  Q v11 H
theorem f172.enter {Q : Post} {m_0 : Value} {H : Heap} (h : f172.w Q m_0 H) : Runs Tryz.prog 172 #[m_0] H Q :=
  fn_enter (ann := []) (by kernel_rfl) Tryz.func172 rfl (by kernel_rfl) h (by kernel_rfl)

/- loop.example/g01343/impl.IsMatrix$1 -/
def f176.w (Q : Post) (row_0 : Value) (H : Heap) : Prop :=
  W.call Tryz.prog (.func (.func 85) #[] #[]) #[row_0, (.int .i64 20)] H fun v1 H =>
  W.un .not v1 H fun v2 H =>
  Q v2 H
theorem f176.enter {Q : Post} {row_0 : Value} {H : Heap} (h : f176.w Q row_0 H) : Runs Tryz.prog 176 #[row_0] H Q :=
  fn_enter (ann := []) (by kernel_rfl) Tryz.func176 rfl (by kernel_rfl) h (by kernel_rfl)

/- loop.example/g01343/impl.IsProblem -/
def f157.w (Q : Post) (p_0 : Value) (H : Heap) : Prop :=
  W.box p_0 62 H fun v1 H =>
  W.fieldAddr 0 v1 H fun v2 H =>
  W.get v2 H fun v3 H =>
  W.call Tryz.prog (.func (.func 172) #[] #[]) #[v3] H fun v4 H =>
  W.guarded v4 true (fun H k => W.fieldAddr 1 v1 H k) H fun v5 H =>
  W.guarded v4 true (fun H k => W.get v5 H k) H fun v6 H =>
  W.guarded v4 true (fun H k => W.len v6 H k) H fun v7 H =>
  W.guarded v4 true (fun H k => W.fieldAddr 0 v1 H k) H fun v8 H =>
  W.guarded v4 true (fun H k => W.get v8 H k) H fun v9 H =>
  W.guarded v4 true (fun H k => W.len v9 H k) H fun v10 H =>
  W.guarded v4 true (fun H k => W.bin .eql v7 v10 H k) H fun v11 H =>
  W.pick v4 v11 (.bool false) H fun v12 H =>
  W.guarded v12 true (fun H k => W.fieldAddr 1 v1 H k) H fun v13 H =>
  W.guarded v12 true (fun H k => W.get v13 H k) H fun v14 H =>
  W.guarded v12 true (fun H k => W.call Tryz.prog (.func (.func 85) #[] #[]) #[v14, (.int .i64 100)] H k) H fun v15 H =>
  W.pick v12 v15 (.bool false) H fun v16 H =>
  Q v16 H
theorem f157.enter {Q : Post} {p_0 : Value} {H : Heap} (h : f157.w Q p_0 H) : Runs Tryz.prog 157 #[p_0] H Q :=
  fn_enter (ann := []) (by kernel_rfl) Tryz.func157 rfl (by kernel_rfl) h (by kernel_rfl)


/-- A matrix: square, of 1 to 5 rows, numbers of at most 20. -/
def isMat (m : List (List Int)) : Bool := (inR 1 5 m.length && isSq m.length m) && m.all (allUp 20)

theorem fn172 {H : Heap} {Q : Post} {bs : List Nat} {v : Value} {m : List (List Int)} (hr : RSS.rel H bs [v] m) (h : ∀ H', H.Le H' → Q (.bool (isMat m)) H') : Runs Tryz.prog 172 #[v] H Q := by
  refine f172.enter ?_
  unfold f172.w
  obtain ⟨p1, e1, g1⟩ := Rd.slice_val hr
  simp only [List.cons.injEq, and_true] at g1
  rw [g1]
  refine Wi.len (Wi.call (fn71 ?_))
  rw [← g1]
  unfold isMat at h
  have tail : ∀ (b : Bool) (H1 : Heap), H.Le H1 → (∀ H', H1.Le H' → Q (.bool (b && m.all (allUp 20))) H') →
      W.guarded (.bool b) true (fun H k => k v H) H1 fun v8 H => W.guarded (.bool b) true (fun H k => W.call Tryz.prog (.func (.func 125) #[] #[]) #[v8, (.func (.func 176) #[] #[])] H k) H fun v9 H =>
        W.guarded (.bool b) true (fun H k => W.un .not v9 H k) H fun v10 H => W.pick (.bool b) v10 (.bool false) H fun v11 H => Q v11 H := by
    intro b H1 l1 h
    cases b with
    | false => exact Wi.gF (Wi.gF (Wi.gF (Wi.pickF (h H1 (.refl _)))))
    | true =>
      refine Wi.gT (Wi.gT (Wi.call (contains125 _ _ _ _ _ (fun r => !allUp 20 r) _ (Rd.le _ hr l1) ?_ fun H2 l2 => Wi.gT (Wi.not (Wi.pickT ?_)))))
      · intro H' bs u x K l hr hK
        exact Wi.call (f176.enter (Wi.call (fn85 (by unfold I64; omega) hr fun H2 l2 => Wi.not (hK H2 l2))))
      · have e : (!m.any fun r => !allUp 20 r) = m.all (allUp 20) := by rw [← List.all_eq_not_any_not]
        rw [e]
        exact h H2 l2
  cases hb : inR 1 5 m.length with
  | false =>
    rw [hb] at h
    exact Wi.gF (Wi.gF (Wi.gF (Wi.gF (Wi.pickF (tail false H (.refl _) h)))))
  | true =>
    rw [hb, Bool.true_and] at h
    refine Wi.gT (Wi.gT (Wi.gT ?_))
    rw [g1]
    refine Wi.len ?_
    rw [← g1]
    refine Wi.gT (Wi.call (fn96 hr fun H1 l1 => Wi.pickT (tail _ H1 l1 fun H2 l2 => h H2 (l1.trans l2))))


/-- A problem. -/
def isProb (p : Prob) : Bool := (isMat p.1 && decide (p.2.length = p.1.length)) && allUp 100 p.2

theorem fn157 {H : Heap} {Q : Post} {bs : List Nat} {cs : List Value} {p : Prob} (hr : RProblem.rel H bs cs p) (h : ∀ H', H.Le H' → Q (.bool (isProb p)) H') : Runs Tryz.prog 157 #[.agg cs.toArray] H Q := by
  obtain ⟨u1, u2, b1, b2, rfl, _, hr1, hr2⟩ := prob_cells hr
  refine f157.enter ?_
  unfold f157.w
  obtain ⟨p1, e1, g1⟩ := Rd.slice_val hr1
  obtain ⟨p2, e2, g2⟩ := Rd.slice_val hr2
  simp only [List.cons.injEq, and_true] at g1 g2
  refine Wi.box fun H1 l1 n1 k1 => Wi.fieldAddr0 (Wi.get k1 rfl (Wi.call (fn172 (Rd.le _ hr1 l1) fun H2 l2 => ?_)))
  have k2 := l2.at k1 (by omega)
  unfold isProb at h
  have l12 := l1.trans l2
  cases hb : isMat p.1 with
  | false =>
    rw [hb] at h
    exact Wi.gF (Wi.gF (Wi.gF (Wi.gF (Wi.gF (Wi.gF (Wi.gF (Wi.pickF (Wi.gF (Wi.gF (Wi.gF (Wi.pickF (h H2 l12))))))))))))
  | true =>
    rw [hb, Bool.true_and] at h
    refine Wi.gT (Wi.fieldAddr0 (Wi.gT (Wi.get k2 rfl (Wi.gT ?_))))
    rw [g2]
    refine Wi.len (Wi.gT (Wi.fieldAddr0 (Wi.gT (Wi.get k2 rfl (Wi.gT ?_)))))
    rw [g1]
    refine Wi.len (Wi.gT (Wi.eql (Wi.pickT ?_)))
    rw [int_beq]
    cases hl : decide (p.2.length = p.1.length) with
    | false =>
      rw [hl] at h
      exact Wi.gF (Wi.gF (Wi.gF (Wi.pickF (h H2 l12))))
    | true =>
      rw [hl, Bool.true_and] at h
      exact Wi.gT (Wi.fieldAddr0 (Wi.gT (Wi.get k2 rfl (Wi.gT (Wi.call (fn85 (by unfold I64; omega) (Rd.le _ hr2 l12) fun H3 l3 => Wi.pickT (h H3 (l12.trans l3))))))))

end Go.Proofs.YtdchibdcfdbcpaaGreat

/-! Contracts of the reference's l01In, l01Matrix and l01Is. No condition. -/
namespace Go.Proofs.YtdchibdcfdbcpaaGreat
open Go.Ab



theorem isMat_eq (m : List (List Int)) : isMat m = (decide (1 ≤ m.length) && decide (m.length ≤ 5) && m.all (fun r => decide (r.length = m.length) && r.all (inR (-20) 20))) := by
  unfold isMat isSq inR allUp inR
  have : (m.all fun r => decide (r.length = m.length) && r.all fun n => decide (-20 ≤ n) && decide (n ≤ 20)) = (m.all (fun r => decide (r.length = m.length)) && m.all fun xs => xs.all fun n => decide (-20 ≤ n) && decide (n ≤ 20)) := by
    induction m with
    | nil => rfl
    | cons x xs ih =>
      rw [Bool.eq_iff_iff]
      simp only [List.all_eq_true, Bool.and_eq_true, decide_eq_true_eq]
      constructor
      · intro h; exact ⟨fun r hr => (h r hr).1, fun r hr n hn => (h r hr).2 n hn⟩
      · intro h r hr; exact ⟨h.1 r hr, fun n hn => h.2 r hr n hn⟩
  rw [this]
  simp
  have e : decide (1 ≤ (m.length : Int)) = decide (1 ≤ m.length) := by
    by_cases h : 1 ≤ m.length <;> simp <;> omega
  have e2 : decide ((m.length : Int) ≤ 5) = decide (m.length ≤ 5) := by
    by_cases h : m.length ≤ 5 <;> simp <;> omega
  rw [e, e2]
  simp [Bool.and_assoc]



end Go.Proofs.YtdchibdcfdbcpaaGreat
