/- The laws' helpers for numbers, lists and rows: comparing, marking, weighing, copying. No condition. -/
import Derived.Test.YtdmgomeogedjgaaGreatProg
import Derived.Test.YtdmgomeogedjgaaGreatZabG3
import Derived.Test.YtdmgomeogedjgaaGreatZabG4
import Derived.Test.YtdmgomeogedjgaaGreatZabG5
namespace Go.Proofs.YtdmgomeogedjgaaGreat
open Go.Ab



abbrev RS : Rd (List Int) := Rd.slice Rd.int
abbrev RSS : Rd (List (List Int)) := Rd.slice RS

abbrev mkS := mkl (fun (_ : Int) k => k) (fun _ => 1)
abbrev szS := szl (fun (_ : Int) => 1)
abbrev mkSS := mkl mkS szS
abbrev szSS := szl szS

abbrev wSS : List (List Int) → Nat := wl List.length

theorem szl_le {α : Type} {w : α → Nat} {c : Nat} (xs : List α) (h : ∀ x ∈ xs, w x ≤ c) : szl w xs ≤ xs.length * c := by
  induction xs with
  | nil => simp [szl]
  | cons x xs ih =>
    simp only [szl, List.length_cons, Nat.succ_mul]
    have := h x (by simp)
    have := ih fun y hy => h y (List.mem_cons_of_mem _ hy)
    omega

end Go.Proofs.YtdmgomeogedjgaaGreat
/-! The laws' helpers for problems. No condition. -/
namespace Go.Proofs.YtdmgomeogedjgaaGreat
open Go.Ab



abbrev RProblem : Rd (List (List Int) × List Int) := Rd.pair RSS RS
abbrev Prob := List (List Int) × List Int
abbrev mkProblem := mkp mkSS szSS mkS
abbrev szProblem := szp szSS szS
abbrev wProblem := szp wSS (List.length (α := Int))

theorem prob_cells {H : Heap} {bs : List Nat} {cs : List Value} {p : Prob} (h : RProblem.rel H bs cs p) : ∃ u1 u2 b1 b2, cs = [u1, u2] ∧ bs = b1 ++ b2 ∧ RSS.rel H b1 [u1] p.1 ∧ RS.rel H b2 [u2] p.2 := by
  obtain ⟨b1, b2, c1, c2, hb, hc, h1, h2⟩ := h
  obtain ⟨u1, rfl⟩ := List.length_eq_one_iff.1 (RSS.len h1)
  obtain ⟨u2, rfl⟩ := List.length_eq_one_iff.1 (RS.len h2)
  exact ⟨u1, u2, b1, b2, hc, hb, h1, h2⟩

theorem hasProb {H : Heap} {cs : List Value} {p : Prob} (h : Has RProblem H cs p) : ∃ u1 u2, cs = [u1, u2] ∧ Has RSS H [u1] p.1 ∧ Has RS H [u2] p.2 := by
  obtain ⟨bs, h⟩ := h
  obtain ⟨u1, u2, b1, b2, h1, _, h3, h4⟩ := prob_cells h
  exact ⟨u1, u2, h1, ⟨_, h3⟩, ⟨_, h4⟩⟩

end Go.Proofs.YtdmgomeogedjgaaGreat

/-! The contract of the reference's l01In. No condition. -/
namespace Go.Proofs.YtdmgomeogedjgaaGreat
open Go.Ab

/- loop.example/g01343/spec.l01In -/
def f44.w (Q : Post) (n_0 : Value) (low_1 : Value) (high_2 : Value) (H : Heap) : Prop :=
  W.bin .geq n_0 low_1 H fun v1 H =>
  W.guarded v1 true (fun H k => k n_0 H) H fun v2 H =>
  W.guarded v1 true (fun H k => k high_2 H) H fun v3 H =>
  W.guarded v1 true (fun H k => W.bin .leq v2 v3 H k) H fun v4 H =>
  W.pick v1 v4 (.bool false) H fun v5 H =>
  Q v5 H
theorem f44.enter {Q : Post} {n_0 : Value} {low_1 : Value} {high_2 : Value} {H : Heap} (h : f44.w Q n_0 low_1 high_2 H) : Runs Tryz.prog 44 #[n_0, low_1, high_2] H Q :=
  fn_enter (ann := []) (by kernel_rfl) Tryz.func44 rfl (by kernel_rfl) h (by kernel_rfl)


theorem fn44 {H : Heap} {Q : Post} {n lo hi : Int} (h : Q (.bool (inR lo hi n)) H) : Runs Tryz.prog 44 #[.int .i64 n, .int .i64 lo, .int .i64 hi] H Q := by
  refine f44.enter ?_
  unfold f44.w
  refine Wi.geq ?_
  unfold inR at h
  cases hb : decide (lo ≤ n) with
  | true =>
    rw [hb] at h
    exact Wi.gT (Wi.gT (Wi.gT (Wi.leq (Wi.pickT h))))
  | false =>
    rw [hb] at h
    exact Wi.gF (Wi.gF (Wi.gF (Wi.pickF h)))

end Go.Proofs.YtdmgomeogedjgaaGreat

/-! Contracts of the program's small tests of numbers, lists and rows. No condition. -/
namespace Go.Proofs.YtdmgomeogedjgaaGreat
open Go.Ab

/- loop.example/g01343/impl.within -/
def f31.w (Q : Post) (n_0 : Value) (low_1 : Value) (high_2 : Value) (H : Heap) : Prop :=
  W.bin .geq n_0 low_1 H fun v1 H =>
  W.guarded v1 true (fun H k => k n_0 H) H fun v2 H =>
  W.guarded v1 true (fun H k => k high_2 H) H fun v3 H =>
  W.guarded v1 true (fun H k => W.bin .leq v2 v3 H k) H fun v4 H =>
  W.pick v1 v4 (.bool false) H fun v5 H =>
  Q v5 H
theorem f31.enter {Q : Post} {n_0 : Value} {low_1 : Value} {high_2 : Value} {H : Heap} (h : f31.w Q n_0 low_1 high_2 H) : Runs Tryz.prog 31 #[n_0, low_1, high_2] H Q :=
  fn_enter (ann := []) (by kernel_rfl) Tryz.func31 rfl (by kernel_rfl) h (by kernel_rfl)

/- loop.example/g01343/impl.upTo -/
def f113.w (Q : Post) (n_0 : Value) (most_1 : Value) (H : Heap) : Prop :=
  W.un .neg most_1 H fun v1 H =>
  W.call Tryz.prog (.func (.func 31) #[] #[]) #[n_0, v1, most_1] H fun v2 H =>
  Q v2 H
theorem f113.enter {Q : Post} {n_0 : Value} {most_1 : Value} {H : Heap} (h : f113.w Q n_0 most_1 H) : Runs Tryz.prog 113 #[n_0, most_1] H Q :=
  fn_enter (ann := []) (by kernel_rfl) Tryz.func113 rfl (by kernel_rfl) h (by kernel_rfl)

/- slices.IndexFunc[[]int64,int64] -/
def f135.l1 (Q : Post) (v1 : Value) (s_0 : Value) (f_1 : Value) (I1 : St [8] → Heap → Prop) (x_8 : Value) (H : Heap) : Prop :=
  W.bin .lss x_8 v1 H fun v2 H =>
  W.cond v2 H
  (fun H => W.indexAddr 1 s_0 x_8 H fun v3 H =>
   W.get v3 H fun v4 H =>
   W.call Tryz.prog f_1 #[v4] H fun v5 H =>
   W.cond v5 H
   (fun H => Q x_8 H)
   (fun H => W.bin .add x_8 (.int .i64 1) H fun v6 H =>
    I1 (v6, ()) H))
  (fun H => Q (.int .i64 (-1)) H)
def f135.w (Q : Post) (s_0 : Value) (f_1 : Value) (H : Heap) : Prop :=
  W.len s_0 H fun v1 H =>
  W.loop (S := St [8]) (fun I1 s H => f135.l1 Q v1 s_0 f_1 I1 s.1 H) ((.int .i64 0), ()) H
theorem f135.enter {Q : Post} {s_0 : Value} {f_1 : Value} {H : Heap} (h : f135.w Q s_0 f_1 H) : Runs Tryz.prog 135 #[s_0, f_1] H Q :=
  fn_enter (ann := [(2, [8])]) (by kernel_rfl) Tryz.func135 rfl (by kernel_rfl) h (by kernel_rfl)

/- slices.IndexFunc[[][]int64,[]int64] -/
def f111.l1 (Q : Post) (v1 : Value) (s_0 : Value) (f_1 : Value) (I1 : St [8] → Heap → Prop) (x_8 : Value) (H : Heap) : Prop :=
  W.bin .lss x_8 v1 H fun v2 H =>
  W.cond v2 H
  (fun H => W.indexAddr 1 s_0 x_8 H fun v3 H =>
   W.get v3 H fun v4 H =>
   W.call Tryz.prog f_1 #[v4] H fun v5 H =>
   W.cond v5 H
   (fun H => Q x_8 H)
   (fun H => W.bin .add x_8 (.int .i64 1) H fun v6 H =>
    I1 (v6, ()) H))
  (fun H => Q (.int .i64 (-1)) H)
def f111.w (Q : Post) (s_0 : Value) (f_1 : Value) (H : Heap) : Prop :=
  W.len s_0 H fun v1 H =>
  W.loop (S := St [8]) (fun I1 s H => f111.l1 Q v1 s_0 f_1 I1 s.1 H) ((.int .i64 0), ()) H
theorem f111.enter {Q : Post} {s_0 : Value} {f_1 : Value} {H : Heap} (h : f111.w Q s_0 f_1 H) : Runs Tryz.prog 111 #[s_0, f_1] H Q :=
  fn_enter (ann := [(2, [8])]) (by kernel_rfl) Tryz.func111 rfl (by kernel_rfl) h (by kernel_rfl)

/- slices.ContainsFunc[[]int64,int64] -/
def f91.w (Q : Post) (s_0 : Value) (f_1 : Value) (H : Heap) : Prop :=
  W.call Tryz.prog (.func (.func 135) #[] #[]) #[s_0, f_1] H fun v1 H =>
  W.bin .geq v1 (.int .i64 0) H fun v2 H =>
  Q v2 H
theorem f91.enter {Q : Post} {s_0 : Value} {f_1 : Value} {H : Heap} (h : f91.w Q s_0 f_1 H) : Runs Tryz.prog 91 #[s_0, f_1] H Q :=
  fn_enter (ann := []) (by kernel_rfl) Tryz.func91 rfl (by kernel_rfl) h (by kernel_rfl)

/- slices.ContainsFunc[[][]int64,[]int64] -/
def f60.w (Q : Post) (s_0 : Value) (f_1 : Value) (H : Heap) : Prop :=
  W.call Tryz.prog (.func (.func 111) #[] #[]) #[s_0, f_1] H fun v1 H =>
  W.bin .geq v1 (.int .i64 0) H fun v2 H =>
  Q v2 H
theorem f60.enter {Q : Post} {s_0 : Value} {f_1 : Value} {H : Heap} (h : f60.w Q s_0 f_1 H) : Runs Tryz.prog 60 #[s_0, f_1] H Q :=
  fn_enter (ann := []) (by kernel_rfl) Tryz.func60 rfl (by kernel_rfl) h (by kernel_rfl)

/- loop.example/g01343/impl.allUpTo -/
def f62.w (Q : Post) (list_0 : Value) (most_1 : Value) (H : Heap) : Prop :=
  W.box most_1 2 H fun v1 H =>
  W.call Tryz.prog (.func (.func 91) #[] #[]) #[list_0, (.func (.func 112) #[] #[v1])] H fun v2 H =>
  W.un .not v2 H fun v3 H =>
  Q v3 H
theorem f62.enter {Q : Post} {list_0 : Value} {most_1 : Value} {H : Heap} (h : f62.w Q list_0 most_1 H) : Runs Tryz.prog 62 #[list_0, most_1] H Q :=
  fn_enter (ann := []) (by kernel_rfl) Tryz.func62 rfl (by kernel_rfl) h (by kernel_rfl)

/- loop.example/g01343/impl.allUpTo$1 -/
def f112.w (Q : Post) (n_0 : Value) (x_1 : Value) (H : Heap) : Prop :=
  W.get x_1 H fun v1 H =>
  W.call Tryz.prog (.func (.func 113) #[] #[]) #[n_0, v1] H fun v2 H =>
  W.un .not v2 H fun v3 H =>
  Q v3 H
theorem f112.enter {Q : Post} {n_0 : Value} {x_1 : Value} {H : Heap} (h : f112.w Q n_0 x_1 H) : Runs Tryz.prog 112 #[n_0, x_1] H Q :=
  fn_enter (ann := []) (by kernel_rfl) Tryz.func112 rfl (by kernel_rfl) h (by kernel_rfl)

/- loop.example/g01343/impl.isSquare -/
def f59.w (Q : Post) (m_0 : Value) (n_1 : Value) (H : Heap) : Prop :=
  W.box n_1 3 H fun v1 H =>
  W.len m_0 H fun v2 H =>
  W.get v1 H fun v3 H =>
  W.bin .eql v2 v3 H fun v4 H =>
  W.guarded v4 true (fun H k => k m_0 H) H fun v5 H =>
  W.guarded v4 true (fun H k => k (.func (.func 110) #[] #[v1]) H) H fun v6 H =>
  W.guarded v4 true (fun H k => W.call Tryz.prog (.func (.func 60) #[] #[]) #[v5, v6] H k) H fun v7 H =>
  W.guarded v4 true (fun H k => W.un .not v7 H k) H fun v8 H =>
  W.pick v4 v8 (.bool false) H fun v9 H =>
  Q v9 H
theorem f59.enter {Q : Post} {m_0 : Value} {n_1 : Value} {H : Heap} (h : f59.w Q m_0 n_1 H) : Runs Tryz.prog 59 #[m_0, n_1] H Q :=
  fn_enter (ann := []) (by kernel_rfl) Tryz.func59 rfl (by kernel_rfl) h (by kernel_rfl)

/- loop.example/g01343/impl.isSquare$1 -/
def f110.w (Q : Post) (row_0 : Value) (x_1 : Value) (H : Heap) : Prop :=
  W.len row_0 H fun v1 H =>
  W.get x_1 H fun v2 H =>
  W.bin .neq v1 v2 H fun v3 H =>
  Q v3 H
theorem f110.enter {Q : Post} {row_0 : Value} {x_1 : Value} {H : Heap} (h : f110.w Q row_0 x_1 H) : Runs Tryz.prog 110 #[row_0, x_1] H Q :=
  fn_enter (ann := []) (by kernel_rfl) Tryz.func110 rfl (by kernel_rfl) h (by kernel_rfl)


theorem fn31 {H : Heap} {Q : Post} {n lo hi : Int} (h : Q (.bool (inR lo hi n)) H) : Runs Tryz.prog 31 #[.int .i64 n, .int .i64 lo, .int .i64 hi] H Q := by
  refine f31.enter ?_
  unfold f31.w
  refine Wi.geq ?_
  unfold inR at h
  cases hb : decide (lo ≤ n) with
  | true =>
    rw [hb] at h
    exact Wi.gT (Wi.gT (Wi.gT (Wi.leq (Wi.pickT h))))
  | false =>
    rw [hb] at h
    exact Wi.gF (Wi.gF (Wi.gF (Wi.pickF h)))

theorem fn113 {H : Heap} {Q : Post} {n m : Int} (hm : I64 (-m)) (h : Q (.bool (inR (-m) m n)) H) : Runs Tryz.prog 113 #[.int .i64 n, .int .i64 m] H Q :=
  f113.enter (Wi.neg hm (Wi.call (fn31 h)))

theorem index135 : IndexF Tryz.prog 135 Rd.int := IndexF.of rfl (n := 8) fun _ _ _ _ h => f135.enter h
theorem index111 : IndexF Tryz.prog 111 RS := IndexF.of rfl (n := 8) fun _ _ _ _ h => f111.enter h
theorem contains91 : ContainsF Tryz.prog 91 Rd.int := ContainsF.of index135 fun _ _ _ _ h => f91.enter h
theorem contains60 : ContainsF Tryz.prog 60 RS := ContainsF.of index111 fun _ _ _ _ h => f60.enter h

/-- All numbers are from -m to m. -/
def allUp (m : Int) (xs : List Int) : Bool := xs.all (inR (-m) m)

theorem fn62 {H : Heap} {Q : Post} {bs : List Nat} {v : Value} {xs : List Int} {m : Int} (hm : I64 (-m)) (hr : RS.rel H bs [v] xs) (h : ∀ H', H.Le H' → Q (.bool (allUp m xs)) H') : Runs Tryz.prog 62 #[v, .int .i64 m] H Q := by
  refine f62.enter ?_
  unfold f62.w
  refine Wi.box1 rfl fun H1 l1 n1 k1 => Wi.call (contains91 _ _ _ _ _ (fun x => !inR (-m) m x) _ (Rd.le _ hr l1) ?_ fun H2 l2 => ?_)
  · intro H' bs u x K l hr hK
    obtain ⟨_, hu, _⟩ := hr
    simp only [List.cons.injEq, and_true] at hu
    subst hu
    exact Wi.callV (f112.enter (Wi.get (l.at k1 (by omega)) rfl (Wi.call (fn113 hm (Wi.not (hK _ (.refl _)))))))
  · refine Wi.not ?_
    have e : (!xs.any fun x => !inR (-m) m x) = allUp m xs := by
      unfold allUp
      rw [← List.all_eq_not_any_not]
    rw [e]
    exact h H2 (l1.trans l2)

/-- A square of numbers, n rows of n. -/
def isSq (n : Nat) (m : List (List Int)) : Bool := decide (m.length = n) && m.all (fun r => decide (r.length = n))

theorem int_beq (a b : Nat) : ((a : Int) == (b : Int)) = decide (a = b) := by
  by_cases h : a = b
  · subst h; simp
  · have : ¬ (a : Int) = b := by omega
    simp [h, this]

theorem int_bne (a b : Nat) : ((a : Int) != (b : Int)) = !decide (a = b) := by
  rw [bne, int_beq]

theorem fn59 {H : Heap} {Q : Post} {bs : List Nat} {v : Value} {m : List (List Int)} {n : Nat} (hr : RSS.rel H bs [v] m) (h : ∀ H', H.Le H' → Q (.bool (isSq n m)) H') : Runs Tryz.prog 59 #[v, .int .i64 n] H Q := by
  refine f59.enter ?_
  unfold f59.w
  obtain ⟨p1, e1, g1⟩ := Rd.slice_val hr
  simp only [List.cons.injEq, and_true] at g1
  rw [g1]
  refine Wi.box1 rfl fun H1 l1 n1 k1 => Wi.len (Wi.get k1 rfl (Wi.eql ?_))
  rw [int_beq]
  unfold isSq at h
  cases hb : decide (m.length = n) with
  | false =>
    rw [hb] at h
    exact Wi.gF (Wi.gF (Wi.gF (Wi.gF (Wi.pickF (h H1 l1)))))
  | true =>
    rw [hb] at h
    rw [← g1]
    refine Wi.gT (Wi.gT (Wi.gT (Wi.call (contains60 _ _ _ _ _ (fun r => !decide (r.length = n)) _ (Rd.le _ hr l1) ?_ fun H2 l2 => Wi.gT (Wi.not (Wi.pickT ?_))))))
    · intro H' bs u x K l hr hK
      obtain ⟨p2, e2, g2⟩ := Rd.slice_val hr
      simp only [List.cons.injEq, and_true] at g2
      subst g2
      refine Wi.callV (f110.enter (Wi.len (Wi.get (l.at k1 (by omega)) rfl (Wi.neq ?_))))
      rw [int_bne]
      exact hK _ (.refl _)
    · have e : (!m.any fun r => !decide (r.length = n)) = m.all (fun r => decide (r.length = n)) := by rw [← List.all_eq_not_any_not]
      rw [e]
      have := h H2 (l1.trans l2)
      simpa using this

end Go.Proofs.YtdmgomeogedjgaaGreat

/-! Contracts of the program's IsMatrix, IsProblem and isSet. No condition. -/
namespace Go.Proofs.YtdmgomeogedjgaaGreat
open Go.Ab

/- loop.example/g01343/impl.IsMatrix -/
def f30.w (Q : Post) (m_0 : Value) (H : Heap) : Prop :=
  W.len m_0 H fun v1 H =>
  W.call Tryz.prog (.func (.func 31) #[] #[]) #[v1, (.int .i64 1), (.int .i64 5)] H fun v2 H =>
  W.guarded v2 true (fun H k => k m_0 H) H fun v3 H =>
  W.guarded v2 true (fun H k => k m_0 H) H fun v4 H =>
  W.guarded v2 true (fun H k => W.len v4 H k) H fun v5 H =>
  W.guarded v2 true (fun H k => W.call Tryz.prog (.func (.func 59) #[] #[]) #[v3, v5] H k) H fun v6 H =>
  W.pick v2 v6 (.bool false) H fun v7 H =>
  W.guarded v7 true (fun H k => k m_0 H) H fun v8 H =>
  W.guarded v7 true (fun H k => W.call Tryz.prog (.func (.func 60) #[] #[]) #[v8, (.func (.func 61) #[] #[])] H k) H fun v9 H =>
  W.guarded v7 true (fun H k => W.un .not v9 H k) H fun v10 H =>
  W.pick v7 v10 (.bool false) H fun v11 H =>
  Q v11 H
theorem f30.enter {Q : Post} {m_0 : Value} {H : Heap} (h : f30.w Q m_0 H) : Runs Tryz.prog 30 #[m_0] H Q :=
  fn_enter (ann := []) (by kernel_rfl) Tryz.func30 rfl (by kernel_rfl) h (by kernel_rfl)

/- loop.example/g01343/impl.IsMatrix$1 -/
def f61.w (Q : Post) (row_0 : Value) (H : Heap) : Prop :=
  W.call Tryz.prog (.func (.func 62) #[] #[]) #[row_0, (.int .i64 20)] H fun v1 H =>
  W.un .not v1 H fun v2 H =>
  Q v2 H
theorem f61.enter {Q : Post} {row_0 : Value} {H : Heap} (h : f61.w Q row_0 H) : Runs Tryz.prog 61 #[row_0] H Q :=
  fn_enter (ann := []) (by kernel_rfl) Tryz.func61 rfl (by kernel_rfl) h (by kernel_rfl)

/- loop.example/g01343/impl.IsProblem -/
def f89.w (Q : Post) (p_0 : Value) (H : Heap) : Prop :=
  W.box p_0 31 H fun v1 H =>
  W.fieldAddr 0 v1 H fun v2 H =>
  W.get v2 H fun v3 H =>
  W.call Tryz.prog (.func (.func 30) #[] #[]) #[v3] H fun v4 H =>
  W.guarded v4 true (fun H k => W.fieldAddr 1 v1 H k) H fun v5 H =>
  W.guarded v4 true (fun H k => W.get v5 H k) H fun v6 H =>
  W.guarded v4 true (fun H k => W.len v6 H k) H fun v7 H =>
  W.guarded v4 true (fun H k => W.fieldAddr 0 v1 H k) H fun v8 H =>
  W.guarded v4 true (fun H k => W.get v8 H k) H fun v9 H =>
  W.guarded v4 true (fun H k => W.len v9 H k) H fun v10 H =>
  W.guarded v4 true (fun H k => W.bin .eql v7 v10 H k) H fun v11 H =>
  W.pick v4 v11 (.bool false) H fun v12 H =>
  W.guarded v12 true (fun H k => W.fieldAddr 1 v1 H k) H fun v13 H =>
  W.guarded v12 true (fun H k => W.get v13 H k) H fun v14 H =>
  W.guarded v12 true (fun H k => W.call Tryz.prog (.func (.func 62) #[] #[]) #[v14, (.int .i64 100)] H k) H fun v15 H =>
  W.pick v12 v15 (.bool false) H fun v16 H =>
  Q v16 H
theorem f89.enter {Q : Post} {p_0 : Value} {H : Heap} (h : f89.w Q p_0 H) : Runs Tryz.prog 89 #[p_0] H Q :=
  fn_enter (ann := []) (by kernel_rfl) Tryz.func89 rfl (by kernel_rfl) h (by kernel_rfl)


/-- A matrix: square, of 1 to 5 rows, numbers of at most 20. -/
def isMat (m : List (List Int)) : Bool := (inR 1 5 m.length && isSq m.length m) && m.all (allUp 20)

theorem fn30 {H : Heap} {Q : Post} {bs : List Nat} {v : Value} {m : List (List Int)} (hr : RSS.rel H bs [v] m) (h : ∀ H', H.Le H' → Q (.bool (isMat m)) H') : Runs Tryz.prog 30 #[v] H Q := by
  refine f30.enter ?_
  unfold f30.w
  obtain ⟨p1, e1, g1⟩ := Rd.slice_val hr
  simp only [List.cons.injEq, and_true] at g1
  rw [g1]
  refine Wi.len (Wi.call (fn31 ?_))
  rw [← g1]
  unfold isMat at h
  have tail : ∀ (b : Bool) (H1 : Heap), H.Le H1 → (∀ H', H1.Le H' → Q (.bool (b && m.all (allUp 20))) H') →
      W.guarded (.bool b) true (fun H k => k v H) H1 fun v8 H => W.guarded (.bool b) true (fun H k => W.call Tryz.prog (.func (.func 60) #[] #[]) #[v8, (.func (.func 61) #[] #[])] H k) H fun v9 H =>
        W.guarded (.bool b) true (fun H k => W.un .not v9 H k) H fun v10 H => W.pick (.bool b) v10 (.bool false) H fun v11 H => Q v11 H := by
    intro b H1 l1 h
    cases b with
    | false => exact Wi.gF (Wi.gF (Wi.gF (Wi.pickF (h H1 (.refl _)))))
    | true =>
      refine Wi.gT (Wi.gT (Wi.call (contains60 _ _ _ _ _ (fun r => !allUp 20 r) _ (Rd.le _ hr l1) ?_ fun H2 l2 => Wi.gT (Wi.not (Wi.pickT ?_)))))
      · intro H' bs u x K l hr hK
        exact Wi.call (f61.enter (Wi.call (fn62 (by unfold I64; omega) hr fun H2 l2 => Wi.not (hK H2 l2))))
      · have e : (!m.any fun r => !allUp 20 r) = m.all (allUp 20) := by rw [← List.all_eq_not_any_not]
        rw [e]
        exact h H2 l2
  cases hb : inR 1 5 m.length with
  | false =>
    rw [hb] at h
    exact Wi.gF (Wi.gF (Wi.gF (Wi.gF (Wi.pickF (tail false H (.refl _) h)))))
  | true =>
    rw [hb, Bool.true_and] at h
    refine Wi.gT (Wi.gT (Wi.gT ?_))
    rw [g1]
    refine Wi.len ?_
    rw [← g1]
    refine Wi.gT (Wi.call (fn59 hr fun H1 l1 => Wi.pickT (tail _ H1 l1 fun H2 l2 => h H2 (l1.trans l2))))


/-- A problem. -/
def isProb (p : Prob) : Bool := (isMat p.1 && decide (p.2.length = p.1.length)) && allUp 100 p.2

theorem fn89 {H : Heap} {Q : Post} {bs : List Nat} {cs : List Value} {p : Prob} (hr : RProblem.rel H bs cs p) (h : ∀ H', H.Le H' → Q (.bool (isProb p)) H') : Runs Tryz.prog 89 #[.agg cs.toArray] H Q := by
  obtain ⟨u1, u2, b1, b2, rfl, _, hr1, hr2⟩ := prob_cells hr
  refine f89.enter ?_
  unfold f89.w
  obtain ⟨p1, e1, g1⟩ := Rd.slice_val hr1
  obtain ⟨p2, e2, g2⟩ := Rd.slice_val hr2
  simp only [List.cons.injEq, and_true] at g1 g2
  refine Wi.box fun H1 l1 n1 k1 => Wi.fieldAddr0 (Wi.get k1 rfl (Wi.call (fn30 (Rd.le _ hr1 l1) fun H2 l2 => ?_)))
  have k2 := l2.at k1 (by omega)
  unfold isProb at h
  have l12 := l1.trans l2
  cases hb : isMat p.1 with
  | false =>
    rw [hb] at h
    exact Wi.gF (Wi.gF (Wi.gF (Wi.gF (Wi.gF (Wi.gF (Wi.gF (Wi.pickF (Wi.gF (Wi.gF (Wi.gF (Wi.pickF (h H2 l12))))))))))))
  | true =>
    rw [hb, Bool.true_and] at h
    refine Wi.gT (Wi.fieldAddr0 (Wi.gT (Wi.get k2 rfl (Wi.gT ?_))))
    rw [g2]
    refine Wi.len (Wi.gT (Wi.fieldAddr0 (Wi.gT (Wi.get k2 rfl (Wi.gT ?_)))))
    rw [g1]
    refine Wi.len (Wi.gT (Wi.eql (Wi.pickT ?_)))
    rw [int_beq]
    cases hl : decide (p.2.length = p.1.length) with
    | false =>
      rw [hl] at h
      exact Wi.gF (Wi.gF (Wi.gF (Wi.pickF (h H2 l12))))
    | true =>
      rw [hl, Bool.true_and] at h
      exact Wi.gT (Wi.fieldAddr0 (Wi.gT (Wi.get k2 rfl (Wi.gT (Wi.call (fn62 (by unfold I64; omega) (Rd.le _ hr2 l12) fun H3 l3 => Wi.pickT (h H3 (l12.trans l3))))))))

end Go.Proofs.YtdmgomeogedjgaaGreat

/-! Contracts of the reference's l01In, l01Matrix and l01Is. No condition. -/
namespace Go.Proofs.YtdmgomeogedjgaaGreat
open Go.Ab

/- loop.example/g01343/spec.l01Matrix -/
def f43.l2 (Q : Post) (v1 : Value) (m_0 : Value) (i_4 : Value) (I1 : St [4] → Heap → Prop) (I2 : St [5] → Heap → Prop) (k_5 : Value) (H : Heap) : Prop :=
  W.bin .lss k_5 v1 H fun v11 H =>
  W.cond v11 H
  (fun H => W.indexAddr 1 m_0 i_4 H fun v12 H =>
   W.get v12 H fun v13 H =>
   W.indexAddr 1 v13 k_5 H fun v14 H =>
   W.get v14 H fun v15 H =>
   W.call Tryz.prog (.func (.func 44) #[] #[]) #[v15, (.int .i64 (-20)), (.int .i64 20)] H fun v16 H =>
   W.un .not v16 H fun v17 H =>
   W.cond v17 H
   (fun H => Q (.bool false) H)
   (fun H => W.bin .add k_5 (.int .i64 1) H fun v18 H =>
    I2 (v18, ()) H))
  (fun H => W.bin .add i_4 (.int .i64 1) H fun v19 H =>
   I1 (v19, ()) H)
def f43.l1 (Q : Post) (v1 : Value) (m_0 : Value) (I1 : St [4] → Heap → Prop) (i_4 : Value) (H : Heap) : Prop :=
  W.bin .lss i_4 v1 H fun v6 H =>
  W.cond v6 H
  (fun H => W.indexAddr 1 m_0 i_4 H fun v7 H =>
   W.get v7 H fun v8 H =>
   W.len v8 H fun v9 H =>
   W.bin .neq v9 v1 H fun v10 H =>
   W.cond v10 H
   (fun H => Q (.bool false) H)
   (fun H => W.loop (S := St [5]) (fun I2 s H => f43.l2 Q v1 m_0 i_4 I1 I2 s.1 H) ((.int .i64 0), ()) H))
  (fun H => Q (.bool true) H)
def f43.w (Q : Post) (m_0 : Value) (H : Heap) : Prop :=
  W.len m_0 H fun v1 H =>
  W.bin .lss v1 (.int .i64 1) H fun v2 H =>
  W.guarded v2 false (fun H k => k v1 H) H fun v3 H =>
  W.guarded v2 false (fun H k => W.bin .gtr v3 (.int .i64 5) H k) H fun v4 H =>
  W.pick v2 (.bool true) v4 H fun v5 H =>
  W.cond v5 H
  (fun H => Q (.bool false) H)
  (fun H => W.loop (S := St [4]) (fun I1 s H => f43.l1 Q v1 m_0 I1 s.1 H) ((.int .i64 0), ()) H)
theorem f43.enter {Q : Post} {m_0 : Value} {H : Heap} (h : f43.w Q m_0 H) : Runs Tryz.prog 43 #[m_0] H Q :=
  fn_enter (ann := [(5, [4]), (10, [5])]) (by kernel_rfl) Tryz.func43 rfl (by kernel_rfl) h (by kernel_rfl)

/- loop.example/g01343/spec.l01Is -/
def f27.l1 (Q : Post) (v1 : Value) (I1 : St [3] → Heap → Prop) (i_3 : Value) (H : Heap) : Prop :=
  W.fieldAddr 1 v1 H fun v14 H =>
  W.get v14 H fun v15 H =>
  W.len v15 H fun v16 H =>
  W.bin .lss i_3 v16 H fun v17 H =>
  W.cond v17 H
  (fun H => W.fieldAddr 1 v1 H fun v18 H =>
   W.get v18 H fun v19 H =>
   W.indexAddr 1 v19 i_3 H fun v20 H =>
   W.get v20 H fun v21 H =>
   W.call Tryz.prog (.func (.func 44) #[] #[]) #[v21, (.int .i64 (-100)), (.int .i64 100)] H fun v22 H =>
   W.un .not v22 H fun v23 H =>
   W.cond v23 H
   (fun H => Q (.bool false) H)
   (fun H => W.bin .add i_3 (.int .i64 1) H fun v24 H =>
    I1 (v24, ()) H))
  (fun H => Q (.bool true) H)
def f27.w (Q : Post) (p_0 : Value) (H : Heap) : Prop :=
  W.box p_0 31 H fun v1 H =>
  W.fieldAddr 0 v1 H fun v2 H =>
  W.get v2 H fun v3 H =>
  W.call Tryz.prog (.func (.func 43) #[] #[]) #[v3] H fun v4 H =>
  W.un .not v4 H fun v5 H =>
  W.guarded v5 false (fun H k => W.fieldAddr 1 v1 H k) H fun v6 H =>
  W.guarded v5 false (fun H k => W.get v6 H k) H fun v7 H =>
  W.guarded v5 false (fun H k => W.len v7 H k) H fun v8 H =>
  W.guarded v5 false (fun H k => W.fieldAddr 0 v1 H k) H fun v9 H =>
  W.guarded v5 false (fun H k => W.get v9 H k) H fun v10 H =>
  W.guarded v5 false (fun H k => W.len v10 H k) H fun v11 H =>
  W.guarded v5 false (fun H k => W.bin .neq v8 v11 H k) H fun v12 H =>
  W.pick v5 (.bool true) v12 H fun v13 H =>
  W.cond v13 H
  (fun H => Q (.bool false) H)
  (fun H => W.loop (S := St [3]) (fun I1 s H => f27.l1 Q v1 I1 s.1 H) ((.int .i64 0), ()) H)
theorem f27.enter {Q : Post} {p_0 : Value} {H : Heap} (h : f27.w Q p_0 H) : Runs Tryz.prog 27 #[p_0] H Q :=
  fn_enter (ann := [(4, [3])]) (by kernel_rfl) Tryz.func27 rfl (by kernel_rfl) h (by kernel_rfl)


theorem isMat_eq (m : List (List Int)) : isMat m = (decide (1 ≤ m.length) && decide (m.length ≤ 5) && m.all (fun r => decide (r.length = m.length) && r.all (inR (-20) 20))) := by
  unfold isMat isSq inR allUp inR
  have : (m.all fun r => decide (r.length = m.length) && r.all fun n => decide (-20 ≤ n) && decide (n ≤ 20)) = (m.all (fun r => decide (r.length = m.length)) && m.all fun xs => xs.all fun n => decide (-20 ≤ n) && decide (n ≤ 20)) := by
    induction m with
    | nil => rfl
    | cons x xs ih =>
      rw [Bool.eq_iff_iff]
      simp only [List.all_eq_true, Bool.and_eq_true, decide_eq_true_eq]
      constructor
      · intro h; exact ⟨fun r hr => (h r hr).1, fun r hr n hn => (h r hr).2 n hn⟩
      · intro h r hr; exact ⟨h.1 r hr, fun n hn => h.2 r hr n hn⟩
  rw [this]
  simp
  have e : decide (1 ≤ (m.length : Int)) = decide (1 ≤ m.length) := by
    by_cases h : 1 ≤ m.length <;> simp <;> omega
  have e2 : decide ((m.length : Int) ≤ 5) = decide (m.length ≤ 5) := by
    by_cases h : m.length ≤ 5 <;> simp <;> omega
  rw [e, e2]
  simp [Bool.and_assoc]

theorem fn43 {H : Heap} {Q : Post} {bs : List Nat} {v : Value} {m : List (List Int)} (hr : RSS.rel H bs [v] m) (h : ∀ H', H.Le H' → Q (.bool (isMat m)) H') : Runs Tryz.prog 43 #[v] H Q := by
  refine f43.enter ?_
  unfold f43.w
  refine Wi.lenOf hr (Wi.lss ?_)
  rw [isMat_eq] at h
  have hT : m.length < 1 ∨ 5 < m.length → ∀ H', H.Le H' → Q (.bool false) H' := fun hc H' l => by
    have := h H' l
    rw [show (decide (1 ≤ m.length) && decide (m.length ≤ 5) && m.all (fun r => decide (r.length = m.length) && r.all (inR (-20) 20))) = false by
      rw [show (decide (1 ≤ m.length) && decide (m.length ≤ 5)) = false by rw [Bool.and_eq_false_iff]; exact hc.elim (fun h => .inl (decide_eq_false (by omega))) fun h => .inr (decide_eq_false (by omega))]; rfl] at this
    exact this
  have body : 1 ≤ m.length → m.length ≤ 5 → W.loop (S := St [4]) (fun I1 s H => f43.l1 Q (.int .i64 m.length) v I1 s.1 H) ((.int .i64 0), ()) H := by
    intro h1 h5
    have hF : ∀ r ∈ m, (decide (r.length = m.length) && r.all (inR (-20) 20)) = false → ∀ H', H.Le H' → Q (.bool false) H' := fun r hr hf H' l => by
      have := h H' l
      rw [show (decide (1 ≤ m.length) && decide (m.length ≤ 5) && m.all (fun r => decide (r.length = m.length) && r.all (inR (-20) 20))) = false by
        rw [Bool.and_eq_false_iff]; right; rw [List.all_eq_false]; exact ⟨r, hr, by simp [hf]⟩] at this
      exact this
    refine W.loop_rule (fun s H' => ∃ i : Nat, s = (.int .i64 i, ()) ∧ i ≤ m.length ∧ H.Le H' ∧ ∀ (j : Nat) (hj : j < i) (g : j < m.length), (decide (m[j].length = m.length) && m[j].all (inR (-20) 20)) = true)
      (fun s _ => match s.1 with | .int _ i => m.length - i.toNat | _ => 0) ⟨0, rfl, Nat.zero_le _, .refl _, fun j hj => by omega⟩ ?_
    rintro s H1 ⟨i, rfl, hi, l1, ok⟩
    unfold f43.l1
    refine Wi.lss (Wi.cond (fun hlt => ?_) fun hge => ?_)
    · have hix : i < m.length := by simp only [decide_eq_true_eq] at hlt; omega
      refine Wi.at1 rfl (Rd.le _ hr l1) hix fun u bu hu => Wi.lenOf hu (Wi.neq ?_)
      rw [int_bne]
      refine Wi.cond (fun hne => ?_) fun heq => ?_
      · exact hF _ (List.getElem_mem hix) (by simp at hne; simp [hne]) H1 l1
      · have hlen : m[i].length = m.length := by simpa using heq
        refine W.loop_rule (fun s H' => ∃ k : Nat, s = (.int .i64 k, ()) ∧ k ≤ m.length ∧ H1.Le H' ∧ ∀ (j : Nat) (hj : j < k) (g : j < m[i].length), inR (-20) 20 m[i][j] = true)
          (fun s _ => match s.1 with | .int _ i => m.length - i.toNat | _ => 0) ⟨0, rfl, Nat.zero_le _, .refl _, fun j hj => by omega⟩ ?_
        rintro s H2 ⟨k, rfl, hk, l2, ok2⟩
        unfold f43.l2
        have l12 := l1.trans l2
        refine Wi.lss (Wi.cond (fun hlt => ?_) fun hge => ?_)
        · have hkx : k < m[i].length := by simp only [decide_eq_true_eq] at hlt; omega
          refine Wi.at1 rfl (Rd.le _ hr l12) hix fun u' bu' hu' => Wi.atInt hu' hkx (Wi.call (fn44 (Wi.not (Wi.cond (fun hn => ?_) fun hy => ?_))))
          · refine hF _ (List.getElem_mem hix) ?_ H2 l12
            rw [Bool.and_eq_false_iff]; right; rw [List.all_eq_false]
            exact ⟨_, List.getElem_mem hkx, by simpa using hn⟩
          · refine Wi.add (by unfold I64; omega) ⟨⟨k + 1, rfl, by omega, l2, fun j hj g => ?_⟩, by simp only; omega⟩
            by_cases hjk : j < k
            · exact ok2 j hjk g
            · have : j = k := by omega
              subst this
              simpa using hy
        · have hkk : k = m.length := by simp only [decide_eq_false_iff_not] at hge; omega
          refine Wi.add (by unfold I64; omega) ⟨⟨i + 1, rfl, by omega, l12, fun j hj g => ?_⟩, by simp only; omega⟩
          by_cases hji : j < i
          · exact ok j hji g
          · have : j = i := by omega
            subst this
            rw [Bool.and_eq_true]
            refine ⟨by simpa using hlen, ?_⟩
            rw [List.all_eq_true]
            intro x hx
            obtain ⟨n, hn, rfl⟩ := List.mem_iff_getElem.1 hx
            exact ok2 n (by omega) hn
    · have hii : i = m.length := by simp only [decide_eq_false_iff_not] at hge; omega
      have := h H1 l1
      rw [show (decide (1 ≤ m.length) && decide (m.length ≤ 5) && m.all (fun r => decide (r.length = m.length) && r.all (inR (-20) 20))) = true by
        rw [Bool.and_eq_true, Bool.and_eq_true]
        refine ⟨⟨by simpa using h1, by simpa using h5⟩, ?_⟩
        rw [List.all_eq_true]
        intro x hx
        obtain ⟨n, hn, rfl⟩ := List.mem_iff_getElem.1 hx
        exact ok n (by omega) hn] at this
      exact this
  cases hb : decide ((m.length : Int) < 1) with
  | true =>
    exact Wi.nT (Wi.nT (Wi.pickT (Wi.tru (hT (by simp only [decide_eq_true_eq] at hb; omega) H (.refl _)))))
  | false =>
    refine Wi.nF (Wi.nF (Wi.gtr (Wi.pickF (Wi.cond (fun hc => ?_) fun hc => ?_))))
    · exact hT (by simp only [decide_eq_true_eq] at hc; omega) H (.refl _)
    · exact body (by simp only [decide_eq_false_iff_not] at hb; omega) (by simp only [decide_eq_false_iff_not] at hc; omega)

theorem fn27 {H : Heap} {Q : Post} {bs : List Nat} {cs : List Value} {p : Prob} (hr : RProblem.rel H bs cs p) (h : ∀ H', H.Le H' → Q (.bool (isProb p)) H') : Runs Tryz.prog 27 #[.agg cs.toArray] H Q := by
  obtain ⟨u1, u2, b1, b2, rfl, _, hr1, hr2⟩ := prob_cells hr
  refine f27.enter ?_
  unfold f27.w
  unfold isProb at h
  refine Wi.box fun H1 l1 n1 k1 => Wi.fieldAddr0 (Wi.get k1 rfl (Wi.call (fn43 (Rd.le _ hr1 l1) fun H2 l2 => Wi.not ?_)))
  have k2 := l2.at k1 (by omega)
  have l12 := l1.trans l2
  cases hb : isMat p.1 with
  | false =>
    rw [hb] at h
    exact Wi.nT (Wi.nT (Wi.nT (Wi.nT (Wi.nT (Wi.nT (Wi.nT (Wi.pickT (Wi.tru (h H2 l12)))))))))
  | true =>
    rw [hb, Bool.true_and] at h
    refine Wi.nF (Wi.fieldAddr0 (Wi.nF (Wi.get k2 rfl (Wi.nF (Wi.lenOf (Rd.le _ hr2 l12) (Wi.nF (Wi.fieldAddr0 (Wi.nF (Wi.get k2 rfl (Wi.nF (Wi.lenOf (Rd.le _ hr1 l12) (Wi.nF (Wi.neq (Wi.pickF ?_))))))))))))))
    rw [int_bne]
    cases hl : decide (p.2.length = p.1.length) with
    | false =>
      rw [hl] at h
      exact Wi.tru (h H2 l12)
    | true =>
      rw [hl, Bool.true_and] at h
      refine Wi.fls ?_
      have hx := Rd.slice_small hr2
      refine W.loop_rule (fun s H' => ∃ i : Nat, s = (.int .i64 i, ()) ∧ i ≤ p.2.length ∧ H2.Le H' ∧ ∀ (j : Nat) (hj : j < i) (g : j < p.2.length), inR (-100) 100 p.2[j] = true)
        (fun s _ => match s.1 with | .int _ i => p.2.length - i.toNat | _ => 0) ⟨0, rfl, Nat.zero_le _, .refl _, fun j hj => by omega⟩ ?_
      rintro s H3 ⟨i, rfl, hi, l3, ok⟩
      unfold f27.l1
      have k3 := l3.at k2 (by have := l2.next; omega)
      have l13 := l12.trans l3
      refine Wi.fieldAddr0 (Wi.get k3 rfl (Wi.lenOf (Rd.le _ hr2 l13) (Wi.lss (Wi.cond (fun hlt => ?_) fun hge => ?_))))
      · have hix : i < p.2.length := by simp only [decide_eq_true_eq] at hlt; omega
        refine Wi.fieldAddr0 (Wi.get k3 rfl (Wi.atInt (Rd.le _ hr2 l13) hix (Wi.call (fn44 (Wi.not (Wi.cond (fun hn => ?_) fun hy => ?_))))))
        · have := h H3 l13
          rw [show allUp 100 p.2 = false by
            unfold allUp; rw [List.all_eq_false]; exact ⟨_, List.getElem_mem hix, by simpa using hn⟩] at this
          exact this
        · refine Wi.add (by unfold I64; omega) ⟨⟨i + 1, rfl, by omega, l3, fun j hj g => ?_⟩, by simp only; omega⟩
          by_cases hji : j < i
          · exact ok j hji g
          · have : j = i := by omega
            subst this
            simpa using hy
      · have hii : i = p.2.length := by simp only [decide_eq_false_iff_not] at hge; omega
        have := h H3 l13
        rw [show allUp 100 p.2 = true by
          unfold allUp; rw [List.all_eq_true]
          intro x hx
          obtain ⟨n, hn, rfl⟩ := List.mem_iff_getElem.1 hx
          exact ok n (by omega) hn] at this
        exact this

end Go.Proofs.YtdmgomeogedjgaaGreat

/-! Fractions: the greatest common divisor, tests, lowest terms. No condition. -/
namespace Go.Proofs.YtdmgomeogedjgaaGreat
open Go.Ab

/- loop.example/g01343/impl.size -/
def f119.w (Q : Post) (n_0 : Value) (H : Heap) : Prop :=
  W.un .neg n_0 H fun v1 H =>
  W.max2 n_0 v1 H fun v2 H =>
  Q v2 H
theorem f119.enter {Q : Post} {n_0 : Value} {H : Heap} (h : f119.w Q n_0 H) : Runs Tryz.prog 119 #[n_0] H Q :=
  fn_enter (ann := []) (by kernel_rfl) Tryz.func119 rfl (by kernel_rfl) h (by kernel_rfl)

/- loop.example/g01343/impl.common -/
def f138.l1 (Q : Post) (I1 : St [0, 1] → Heap → Prop) (a_0' : Value) (b_1' : Value) (H : Heap) : Prop :=
  W.bin .neq b_1' (.int .i64 0) H fun v3 H =>
  W.cond v3 H
  (fun H => W.bin .rem a_0' b_1' H fun v4 H =>
   I1 (b_1', v4, ()) H)
  (fun H => Q a_0' H)
def f138.w (Q : Post) (a_0 : Value) (b_1 : Value) (H : Heap) : Prop :=
  W.call Tryz.prog (.func (.func 119) #[] #[]) #[a_0] H fun v1 H =>
  W.call Tryz.prog (.func (.func 119) #[] #[]) #[b_1] H fun v2 H =>
  W.loop (S := St [0, 1]) (fun I1 s H => f138.l1 Q I1 s.1 s.2.1 H) (v1, v2, ()) H
theorem f138.enter {Q : Post} {a_0 : Value} {b_1 : Value} {H : Heap} (h : f138.w Q a_0 b_1 H) : Runs Tryz.prog 138 #[a_0, b_1] H Q :=
  fn_enter (ann := [(2, [0, 1])]) (by kernel_rfl) Tryz.func138 rfl (by kernel_rfl) h (by kernel_rfl)

/- loop.example/g01343/impl.IsFrac -/
def f139.w (Q : Post) (a_0 : Value) (H : Heap) : Prop :=
  W.box a_0 67 H fun v1 H =>
  W.fieldAddr 1 v1 H fun v2 H =>
  W.get v2 H fun v3 H =>
  W.call Tryz.prog (.func (.func 31) #[] #[]) #[v3, (.int .i64 1), (.int .i64 1000000000)] H fun v4 H =>
  W.guarded v4 true (fun H k => W.fieldAddr 0 v1 H k) H fun v5 H =>
  W.guarded v4 true (fun H k => W.get v5 H k) H fun v6 H =>
  W.guarded v4 true (fun H k => W.call Tryz.prog (.func (.func 113) #[] #[]) #[v6, (.int .i64 1000000000)] H k) H fun v7 H =>
  W.pick v4 v7 (.bool false) H fun v8 H =>
  W.guarded v8 true (fun H k => W.fieldAddr 0 v1 H k) H fun v9 H =>
  W.guarded v8 true (fun H k => W.get v9 H k) H fun v10 H =>
  W.guarded v8 true (fun H k => W.fieldAddr 1 v1 H k) H fun v11 H =>
  W.guarded v8 true (fun H k => W.get v11 H k) H fun v12 H =>
  W.guarded v8 true (fun H k => W.call Tryz.prog (.func (.func 138) #[] #[]) #[v10, v12] H k) H fun v13 H =>
  W.guarded v8 true (fun H k => W.bin .eql v13 (.int .i64 1) H k) H fun v14 H =>
  W.pick v8 v14 (.bool false) H fun v15 H =>
  Q v15 H
theorem f139.enter {Q : Post} {a_0 : Value} {H : Heap} (h : f139.w Q a_0 H) : Runs Tryz.prog 139 #[a_0] H Q :=
  fn_enter (ann := []) (by kernel_rfl) Tryz.func139 rfl (by kernel_rfl) h (by kernel_rfl)

/- loop.example/g01343/impl.reduced -/
def f95.j1 (Q : Post) (num_0 : Value) (den_1 : Value) (v1 : Value) (by_6 : Value) (H : Heap) : Prop :=
  W.bin .quo num_0 by_6 H fun v5 H =>
  W.bin .quo den_1 by_6 H fun v6 H =>
  W.build [(.int .i64 0), (.int .i64 0)] [(0, 1, v5), (1, 1, v6)] H fun v7 H =>
  W.new [(.int .i64 0), (.int .i64 0)] 67 H fun v8 H =>
  W.putN 2 v8 v7 H fun _ H =>
  W.getN 2 v8 H fun v9 H =>
  W.call Tryz.prog (.func (.func 139) #[] #[]) #[v9] H fun v10 H =>
  W.un .not v10 H fun v11 H =>
  W.cond v11 H
  (fun H => W.build [(.int .i64 0), (.int .i64 0)] [] H fun v12 H =>
   W.putN 2 v1 v12 H fun _ H =>
   W.getN 2 v1 H fun v13 H => Q (.tuple #[v13, (.int .i64 3)]) H)
  (fun H => W.getN 2 v8 H fun v14 H =>
   W.putN 2 v1 v14 H fun _ H =>
   W.getN 2 v1 H fun v15 H => Q (.tuple #[v15, (.int .i64 0)]) H)
def f95.w (Q : Post) (num_0 : Value) (den_1 : Value) (H : Heap) : Prop :=
  W.new [(.int .i64 0), (.int .i64 0)] 67 H fun v1 H =>
  W.call Tryz.prog (.func (.func 138) #[] #[]) #[num_0, den_1] H fun v2 H =>
  W.bin .lss den_1 (.int .i64 0) H fun v3 H =>
  W.cond v3 H
  (fun H => W.un .neg v2 H fun v4 H =>
   f95.j1 Q num_0 den_1 v1 v4 H)
  (fun H => f95.j1 Q num_0 den_1 v1 v2 H)
theorem f95.enter {Q : Post} {num_0 : Value} {den_1 : Value} {H : Heap} (h : f95.w Q num_0 den_1 H) : Runs Tryz.prog 95 #[num_0, den_1] H Q :=
  fn_enter (ann := []) (by kernel_rfl) Tryz.func95 rfl (by kernel_rfl) h (by kernel_rfl)

/- loop.example/g01343/spec.l01Gcd -/
def f128.l1 (Q : Post) (I1 : St [0, 1] → Heap → Prop) (a_0' : Value) (b_1' : Value) (H : Heap) : Prop :=
  W.bin .neq b_1' (.int .i64 0) H fun v1 H =>
  W.cond v1 H
  (fun H => W.bin .rem a_0' b_1' H fun v2 H =>
   I1 (b_1', v2, ()) H)
  (fun H => W.un .neg a_0' H fun v3 H =>
   W.max2 a_0' v3 H fun v4 H =>
   Q v4 H)
def f128.w (Q : Post) (a_0 : Value) (b_1 : Value) (H : Heap) : Prop :=
  W.loop (S := St [0, 1]) (fun I1 s H => f128.l1 Q I1 s.1 s.2.1 H) (a_0, b_1, ()) H
theorem f128.enter {Q : Post} {a_0 : Value} {b_1 : Value} {H : Heap} (h : f128.w Q a_0 b_1 H) : Runs Tryz.prog 128 #[a_0, b_1] H Q :=
  fn_enter (ann := [(1, [0, 1])]) (by kernel_rfl) Tryz.func128 rfl (by kernel_rfl) h (by kernel_rfl)

/- loop.example/g01343/spec.l01Frac -/
def f79.j1 (Q : Post) (v1 : Value) (num_0' : Value) (den_1' : Value) (H : Heap) : Prop :=
  W.call Tryz.prog (.func (.func 128) #[] #[]) #[num_0', den_1'] H fun v5 H =>
  W.bin .quo num_0' v5 H fun v6 H =>
  W.bin .quo den_1' v5 H fun v7 H =>
  W.build [(.int .i64 0), (.int .i64 0)] [(0, 1, v6), (1, 1, v7)] H fun v8 H =>
  W.putN 2 v1 v8 H fun _ H =>
  W.getN 2 v1 H fun v9 H => Q v9 H
def f79.w (Q : Post) (num_0 : Value) (den_1 : Value) (H : Heap) : Prop :=
  W.new [(.int .i64 0), (.int .i64 0)] 67 H fun v1 H =>
  W.bin .lss den_1 (.int .i64 0) H fun v2 H =>
  W.cond v2 H
  (fun H => W.un .neg num_0 H fun v3 H =>
   W.un .neg den_1 H fun v4 H =>
   f79.j1 Q v1 v3 v4 H)
  (fun H => f79.j1 Q v1 num_0 den_1 H)
theorem f79.enter {Q : Post} {num_0 : Value} {den_1 : Value} {H : Heap} (h : f79.w Q num_0 den_1 H) : Runs Tryz.prog 79 #[num_0, den_1] H Q :=
  fn_enter (ann := []) (by kernel_rfl) Tryz.func79 rfl (by kernel_rfl) h (by kernel_rfl)


theorem Wi.rem {a b : Int} {H : Heap} {k : Post} (hb : b ≠ 0) (hw : I64 (a.tmod b)) (h : k (.int .i64 (a.tmod b)) H) : W.bin .rem (.int .i64 a) (.int .i64 b) H k := by
  simpa [W.bin, binEval, intEval, hb, wrap_id hw] using h
theorem Wi.quo {a b : Int} {H : Heap} {k : Post} (hb : b ≠ 0) (hw : I64 (a.tdiv b)) (h : k (.int .i64 (a.tdiv b)) H) : W.bin .quo (.int .i64 a) (.int .i64 b) H k := by
  simpa [W.bin, binEval, intEval, hb, wrap_id hw] using h

theorem Wi.max2 {a b c : Int} {κ κ' : IntKind} {H : Heap} {k : Post} (e : (if b > a then b else a) = c) (h : k (.int κ c) H) : W.max2 (.int κ a) (.int κ' b) H k := by
  subst e
  exact h

/-- A number whose opposite is a number too. -/
def B64 (a : Int) : Prop := a.natAbs < 9223372036854775808

theorem fn119 {H0 : Heap} {Q : Post} {a : Int} (ha : B64 a) (h : Q (.int .i64 a.natAbs) H0) : Runs Tryz.prog 119 #[.int .i64 a] H0 Q := by
  unfold B64 at ha
  refine f119.enter ?_
  unfold f119.w
  refine Wi.neg (by unfold I64; omega) ?_
  exact Wi.max2 (c := (a.natAbs : Int)) (by split <;> omega) h

theorem tmod_B {a b : Int} (hb : B64 b) (h : b ≠ 0) : B64 (a.tmod b) := by
  have := tmod_lt a h
  unfold B64 at *
  omega

theorem fn128 {H0 : Heap} {Q : Post} {a b : Int} (ha : B64 a) (hb : B64 b) (hQ : Q (.int .i64 (Int.gcd a b)) H0) : Runs Tryz.prog 128 #[.int .i64 a, .int .i64 b] H0 Q := by
  refine f128.enter ?_
  unfold f128.w
  refine W.loop_rule (fun s H => H = H0 ∧ ∃ c d : Int, s = (.int .i64 c, .int .i64 d, ()) ∧ B64 c ∧ B64 d ∧ Int.gcd c d = Int.gcd a b) (fun s _ => match s.2.1 with | .int _ d => d.natAbs | _ => 0) ⟨rfl, a, b, rfl, ha, hb, rfl⟩ ?_
  rintro s H ⟨rfl, c, d, rfl, hc, hd, hg⟩
  refine Wi.neqC (fun hne => Wi.tru ?_) fun heq => Wi.fls ?_
  · have hm := tmod_B (a := c) hd hne
    refine Wi.rem hne (by unfold B64 at hm; unfold I64; omega) ⟨⟨rfl, d, _, rfl, hd, hm, by rw [gcd_step]; exact hg⟩, ?_⟩
    exact tmod_lt c hne
  · subst heq
    rw [← hg] at hQ
    unfold B64 at hc
    refine Wi.neg (by unfold I64; omega) ?_
    exact Wi.max2 (c := ((Int.gcd c 0 : Nat) : Int)) (by rw [Int.gcd_zero_right]; split <;> omega) hQ

theorem fn138 {H0 : Heap} {Q : Post} {a b : Int} (ha : B64 a) (hb : B64 b) (hQ : Q (.int .i64 (Int.gcd a b)) H0) : Runs Tryz.prog 138 #[.int .i64 a, .int .i64 b] H0 Q := by
  refine f138.enter ?_
  unfold f138.w
  refine Wi.call (fn119 ha (Wi.call (fn119 hb ?_)))
  refine W.loop_rule (fun s H => H = H0 ∧ ∃ c d : Nat, s = (.int .i64 (c : Int), .int .i64 (d : Int), ()) ∧ c < 9223372036854775808 ∧ d < 9223372036854775808 ∧ Nat.gcd c d = Int.gcd a b) (fun s _ => match s.2.1 with | .int _ d => d.natAbs | _ => 0) ⟨rfl, a.natAbs, b.natAbs, rfl, ha, hb, rfl⟩ ?_
  rintro s H ⟨rfl, c, d, rfl, hc, hd, hg⟩
  refine Wi.neqC (fun hne => Wi.tru ?_) fun heq => Wi.fls ?_
  · have hd0 : 0 < d := by omega
    have e : ((c : Int).tmod d) = ((c % d : Nat) : Int) := by rw [Int.ofNat_tmod]
    have hlt := Nat.mod_lt c hd0
    refine Wi.rem hne (by rw [e]; unfold I64; omega) ?_
    rw [e]
    exact ⟨⟨rfl, d, c % d, rfl, hd, by omega, by rw [Nat.gcd_comm, ← Nat.gcd_rec, Nat.gcd_comm]; exact hg⟩, by show ((c % d : Nat) : Int).natAbs < ((d : Nat) : Int).natAbs; rw [Int.natAbs_natCast, Int.natAbs_natCast]; exact hlt⟩
  · have : d = 0 := by omega
    subst this
    rw [Nat.gcd_zero_right] at hg
    rw [hg]
    exact hQ

theorem B64_of {a m : Int} (h : -m ≤ a ∧ a ≤ m) (hm : m ≤ 9223372036854775807) : B64 a := by unfold B64; omega

theorem fn139 {H0 : Heap} {Q : Post} {a : Frac} (hQ : ∀ H', H0.Le H' → Q (.bool (isFr 1000000000 a)) H') : Runs Tryz.prog 139 #[.agg (frC a).toArray] H0 Q := by
  refine f139.enter ?_
  unfold f139.w
  refine Wl.box (Loc.start H0) fun H b h => Wi.fieldAddr0 (Wl.get h rfl (Wi.call (fn31 ?_)))
  have hQ := hQ _ h.le
  unfold isFr at hQ
  cases h1 : inR 1 1000000000 a.2 with
  | false =>
    rw [h1] at hQ
    simp only [gw]
    exact hQ
  | true =>
  rw [h1] at hQ
  simp only [gw]
  refine Wi.fieldAddr0 (Wl.get h rfl (Wi.call (fn113 (by unfold I64; omega) ?_)))
  cases h2 : inR (-1000000000) 1000000000 a.1 with
  | false =>
    rw [h2] at hQ
    simp only [gw]
    exact hQ
  | true =>
  rw [h2] at hQ
  have k1 := inR_iff.1 h1
  have k2 := inR_iff.1 h2
  simp only [gw]
  refine Wi.fieldAddr0 (Wl.get h rfl (Wi.fieldAddr0 (Wl.get h rfl (Wi.call (fn138 (B64_of k2 (by omega)) (by unfold B64; omega) (Wi.eql ?_))))))
  have e : (((Int.gcd a.1 a.2 : Nat) : Int) == 1) = decide (Int.gcd a.1 a.2 = 1) := by
    rw [Bool.eq_iff_iff]
    simp
    omega
  rw [e]
  simpa using hQ


theorem tdiv_gcd {n d : Int} (h : d ≠ 0) : (n.tdiv (Int.gcd n d) = n / (Int.gcd n d : Int)) ∧ (d.tdiv (Int.gcd n d) = d / (Int.gcd n d : Int)) :=
  ⟨Int.tdiv_eq_ediv_of_dvd (Int.gcd_dvd_left n d), Int.tdiv_eq_ediv_of_dvd (Int.gcd_dvd_right n d)⟩

theorem tdiv_B {a b : Int} (h : B64 a) : B64 (a.tdiv b) := by
  unfold B64 at *
  have := Int.natAbs_tdiv_le_natAbs a b
  omega

theorem B64.i64 {a : Int} (h : B64 a) : I64 a := by unfold B64 at h; unfold I64; omega
theorem B64.neg {a : Int} (h : B64 a) : B64 (-a) := by unfold B64 at *; omega

theorem frac_neg {n d : Int} (hd : d < 0) : frac n d = ((-n).tdiv (Int.gcd (-n) (-d)), (-d).tdiv (Int.gcd (-n) (-d))) := by
  unfold frac
  rw [if_pos hd, Int.neg_tdiv, Int.neg_tdiv, Int.neg_gcd, Int.gcd_neg, (tdiv_gcd (by omega)).1, (tdiv_gcd (by omega)).2]

theorem frac_pos' {n d : Int} (hd : 0 < d) : frac n d = (n.tdiv (Int.gcd n d), d.tdiv (Int.gcd n d)) := by
  unfold frac
  rw [if_neg (by omega), (tdiv_gcd (by omega)).1, (tdiv_gcd (by omega)).2]

theorem fn79 {H0 : Heap} {Q : Post} {n d : Int} (hn : B64 n) (hd : B64 d) (h0 : d ≠ 0) (hQ : ∀ H', H0.Le H' → Q (.agg (frC (frac n d)).toArray) H') : Runs Tryz.prog 79 #[.int .i64 n, .int .i64 d] H0 Q := by
  refine f79.enter ?_
  unfold f79.w
  refine Wl.new (Loc.start H0) fun H b h => ?_
  have key : ∀ n' d' : Int, B64 n' → B64 d' → 0 < d' → frac n d = (n'.tdiv (Int.gcd n' d'), d'.tdiv (Int.gcd n' d')) → f79.j1 Q (pt b 0) (.int .i64 n') (.int .i64 d') H := by
    intro n' d' hn' hd' hp e
    have hg := gcd_pos (n := n') (d := d') (by omega)
    unfold f79.j1
    refine Wi.call (fn128 hn' hd' (Wi.quo (by omega) (tdiv_B hn').i64 (Wi.quo (by omega) (tdiv_B hd').i64 ?_)))
    refine Wi.build (cells := frC (n'.tdiv (Int.gcd n' d'), d'.tdiv (Int.gcd n' d'))) rfl (Wl.putA h rfl rfl rfl fun H h => Wl.getA h rfl ?_)
    have := hQ _ h.le
    rw [e] at this
    exact this
  refine Wi.lssC (fun hlt => Wi.tru ?_) fun hge => Wi.fls ?_
  · exact Wi.neg hn.neg.i64 (Wi.neg hd.neg.i64 (key _ _ hn.neg hd.neg (by omega) (frac_neg hlt)))
  · exact key _ _ hn hd (by omega) (frac_pos' (by omega))


theorem fn95 {H0 : Heap} {Q : Post} {n d : Int} (hn : B64 n) (hd : B64 d) (h0 : d ≠ 0) (hQ : ∀ H', H0.Le H' → Q (.tuple #[.agg (frC (fracT n d).1).toArray, .int .i64 (fracT n d).2]) H') : Runs Tryz.prog 95 #[.int .i64 n, .int .i64 d] H0 Q := by
  refine f95.enter ?_
  unfold f95.w
  have hg := gcd_pos (n := n) h0
  refine Wl.new (Loc.start H0) fun H b h => Wi.call (fn138 hn hd ?_)
  have key : ∀ g : Int, g ≠ 0 → frac n d = (n.tdiv g, d.tdiv g) → f95.j1 Q (.int .i64 n) (.int .i64 d) (pt b 0) (.int .i64 g) H := by
    intro g hg e
    unfold f95.j1
    refine Wi.quo hg (tdiv_B hn).i64 (Wi.quo hg (tdiv_B hd).i64 ?_)
    refine Wi.build (cells := frC (n.tdiv g, d.tdiv g)) rfl (Wl.new h fun H b2 h => Wl.putA h rfl rfl rfl fun H h => Wl.getA h rfl (Wi.call (fn139 (a := (n.tdiv g, d.tdiv g)) fun H l => ?_)))
    have h := h.to l
    unfold fracT at hQ
    rw [e] at hQ
    cases hf : isFr 1000000000 (n.tdiv g, d.tdiv g) with
    | false =>
      rw [hf] at hQ
      simp only [gw]
      exact Wi.build (cells := frC (0, 0)) rfl (Wl.putA h rfl rfl rfl fun H h => Wl.getA h rfl (hQ _ h.le))
    | true =>
      rw [hf] at hQ
      simp only [gw]
      exact Wl.getA h rfl (Wl.putA h rfl rfl rfl fun H h => Wl.getA h rfl (hQ _ h.le))
  have hgB : B64 (Int.gcd n d) := by
    unfold B64 at *
    have := Int.gcd_le_natAbs_right n h0
    omega
  refine Wi.lssC (fun hlt => Wi.tru ?_) fun hge => Wi.fls ?_
  · refine Wi.neg hgB.neg.i64 (key _ (by omega) ?_)
    rw [frac_neg hlt, Int.neg_gcd, Int.gcd_neg, Int.neg_tdiv, Int.neg_tdiv, Int.tdiv_neg, Int.tdiv_neg]
  · exact key _ (by omega) (frac_pos' (by omega))


end Go.Proofs.YtdmgomeogedjgaaGreat

/-! Lists of fractions in lowest terms by one denominator: the contract of allReduced. No condition. -/
namespace Go.Proofs.YtdmgomeogedjgaaGreat
open Go.Ab

/- loop.example/g01343/impl.allReduced -/
def f50.l1 (Q : Post) (v1 : Value) (list_0 : Value) (den_1 : Value) (I1 : St [6, 13] → Heap → Prop) (out_6 : Value) (x_13 : Value) (H : Heap) : Prop :=
  W.bin .lss x_13 v1 H fun v2 H =>
  W.cond v2 H
  (fun H => W.indexAddr 1 list_0 x_13 H fun v3 H =>
   W.get v3 H fun v4 H =>
   W.call Tryz.prog (.func (.func 95) #[] #[]) #[v4, den_1] H fun v5 H =>
   W.extract 0 v5 H fun v6 H =>
   W.extract 1 v5 H fun v7 H =>
   W.new [(.int .i64 0), (.int .i64 0)] 67 H fun v8 H =>
   W.putN 2 v8 v6 H fun _ H =>
   W.bin .neq v7 (.int .i64 0) H fun v9 H =>
   W.cond v9 H
   (fun H => Q (.tuple #[(.slice none 0 0), v7]) H)
   (fun H => W.getN 2 v8 H fun v10 H =>
    W.lit 1 [(.int .i64 0), (.int .i64 0)] 67 [(0, 2, v10)] H fun v11 H =>
    W.append 2 67 out_6 v11 H fun v12 H =>
    W.bin .add x_13 (.int .i64 1) H fun v13 H =>
    I1 (v12, v13, ()) H))
  (fun H => Q (.tuple #[out_6, (.int .i64 0)]) H)
def f50.w (Q : Post) (list_0 : Value) (den_1 : Value) (H : Heap) : Prop :=
  W.len list_0 H fun v1 H =>
  W.loop (S := St [6, 13]) (fun I1 s H => f50.l1 Q v1 list_0 den_1 I1 s.1 s.2.1 H) ((.slice none 0 0), (.int .i64 0), ()) H
theorem f50.enter {Q : Post} {list_0 : Value} {den_1 : Value} {H : Heap} (h : f50.w Q list_0 den_1 H) : Runs Tryz.prog 50 #[list_0, den_1] H Q :=
  fn_enter (ann := [(3, [6, 13])]) (by kernel_rfl) Tryz.func50 rfl (by kernel_rfl) h (by kernel_rfl)


theorem fracT_i64 (n d : Int) : I64 (fracT n d).1.1 ∧ I64 (fracT n d).1.2 := by
  unfold fracT
  split
  · rename_i h
    have := isFr_iff.1 h
    simp only
    constructor <;> (unfold I64; omega)
  · constructor <;> (unfold I64; decide)

theorem fracT_code (n d : Int) : (fracT n d).2 = 0 ∨ (fracT n d).2 = 3 := by
  unfold fracT
  split
  · exact .inl rfl
  · exact .inr rfl

/-- The fractions of numbers by one denominator, if all are within the limits. -/
def frAll (l : List Int) (d : Int) : List Frac × Int := if l.all fun n => decide ((fracT n d).2 = 0) then (l.map fun n => (fracT n d).1, 0) else ([], 3)

theorem frAll_bad {l : List Int} {d : Int} {i : Nat} (hi : i < l.length) (h : (fracT l[i] d).2 ≠ 0) : frAll l d = ([], 3) ∧ (fracT l[i] d).2 = 3 := by
  refine ⟨?_, (fracT_code _ _).resolve_left h⟩
  unfold frAll
  rw [if_neg]
  intro g
  have := List.all_eq_true.1 g _ (List.getElem_mem hi)
  exact h (of_decide_eq_true this)

theorem frAll_ok {l : List Int} {d : Int} (h : ∀ i (hi : i < l.length), (fracT l[i] d).2 = 0) : frAll l d = (l.map fun n => (fracT n d).1, 0) := by
  unfold frAll
  rw [if_pos]
  refine List.all_eq_true.2 fun x hx => ?_
  obtain ⟨i, hi, rfl⟩ := List.mem_iff_getElem.1 hx
  exact decide_eq_true (h i hi)

theorem fnG50 {H0 : Heap} {Q : Post} {v : Value} {l : List Int} {d : Int} (hr : Has RS H0 [v] l) (hB : ∀ n ∈ l, B64 n) (hd : B64 d) (h0 : d ≠ 0) (hl : l.length ≤ 1048576)
    (hQ : ∀ H' u, FreshG RFrac 67 H0 u (frAll l d).1 H' → Q (.tuple #[u, .int .i64 (frAll l d).2]) H') : Runs Tryz.prog 50 #[v, .int .i64 d] H0 Q := by
  refine f50.enter (Wl.lenH hr ?_)
  have h := ((Loc.start H0).lent hr).nilG RFrac 67
  refine W.for_rule l.length (fun i s H => ∃ u, s = (u, .int .i64 (i : Nat), ()) ∧ Ab.Loc H0 [.grow RFrac 67 u ((l.take i).map fun n => (fracT n d).1), .lent RS [v] l] H ∧ ∀ j (hj : j < l.length), j < i → (fracT l[j] d).2 = 0) ⟨_, rfl, h, fun j _ hj => by omega⟩ ?_
  rintro i s H J hi ⟨u, rfl, h, hok⟩ hJ
  refine Wi.lssC (fun hlt => Wi.tru ?_) fun hge => Wi.fls ?_
  · have hix : i < l.length := by omega
    refine Wl.atInt h hix fun _ => Wi.call (fn95 (hB _ (List.getElem_mem hix)) hd h0 fun H l1 => ?_)
    have h := h.to l1
    simp only [g11, g12]
    refine Wl.new h fun H b h => Wl.putA (vs := frC _) h rfl rfl rfl fun H h => Wi.neqC (fun hne => Wi.tru ?_) fun he => Wi.fls (Wl.getA h rfl ?_)
    · obtain ⟨e1, e2⟩ := frAll_bad hix hne
      have := hQ H (.slice none 0 0) (by rw [e1]; exact (h.nilG RFrac 67).retGG (i := 0) rfl)
      rw [e1] at this
      rw [e2]
      exact this
    · refine Wl.pushP (r := RFrac) (x := (fracT l[i] d).1) rfl rfl rfl (frac_rel (fracT_i64 _ _)) h.tl (by simp; omega) fun H u' h => Wi.add (by unfold I64; omega) (hJ _ _ hix ⟨u', rfl, ?_, fun j hj hji => ?_⟩)
      · rw [List.take_succ_eq_append_getElem hix, List.map_append]
        exact h
      · by_cases e : j = i
        · subst e; exact he
        · exact hok j hj (by omega)
  · have : i = l.length := by omega
    subst this
    rw [List.take_length] at h
    have e := frAll_ok fun j hj => hok j hj hj
    have := hQ H u (by rw [e]; exact h.retGG (i := 0) rfl)
    rw [e] at this
    exact this

theorem fn50 {H0 : Heap} {Q : Post} {v : Value} {l : List Int} {d : Int} (hr : Has RS H0 [v] l) (hB : ∀ n ∈ l, B64 n) (hd : B64 d) (h0 : d ≠ 0) (hl : l.length ≤ 1048576)
    (hQ : ∀ H' u, Fresh RFS H0 [u] (frAll l d).1 H' → Q (.tuple #[u, .int .i64 (frAll l d).2]) H') : Runs Tryz.prog 50 #[v, .int .i64 d] H0 Q :=
  fnG50 hr hB hd h0 hl fun _ _ f => hQ _ _ f.fresh

end Go.Proofs.YtdmgomeogedjgaaGreat
