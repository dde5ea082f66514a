/- Contracts of l01Own and slices.Clone. No condition. -/
import Derived.Test.YtgdiebnokgnniaaGreatDoorA1
import Derived.Test.YtgdiebnokgnniaaGreatDoorZabG5
namespace Go.Proofs.YtgdiebnokgnniaaGreatDoor
open Go.Ab

/- slices.Clone[[]int64,int64] -/
def f112.w (Q : Post) (s_0 : Value) (H : Heap) : Prop :=
  W.eqNilR .eql s_0 (.slice none 0 0) H fun v1 H =>
  W.cond v1 H
  (fun H => Q (.slice none 0 0) H)
  (fun H => W.lit 0 [(.int .i64 0)] 2 [] H fun v2 H =>
   W.append 1 2 v2 s_0 H fun v3 H =>
   Q v3 H)
theorem f112.enter {Q : Post} {s_0 : Value} {H : Heap} (h : f112.w Q s_0 H) : Runs Tryz.prog 112 #[s_0] H Q :=
  fn_enter (ann := []) (by kernel_rfl) Tryz.func112 rfl (by kernel_rfl) h (by kernel_rfl)


theorem fn112 {H0 : Heap} {Q : Post} {v : Value} {xs : List Int} (hr : Has RS H0 [v] xs) (hlen : xs.length ≤ 17179869184) (hQ : ∀ H' u, FreshG Rd.int 2 H0 u xs H' → Q u H') : Runs Tryz.prog 112 #[v] H0 Q := by
  refine f112.enter (Wl.isNilH hr (fun e => Wi.tru ?_) (Wi.fls ?_))
  · subst e
    exact hQ _ _ ((((Loc.start H0).nilG Rd.int 2)).retGG (i := 0) rfl)
  · exact Wl.lit0 Rd.int rfl ((Loc.start H0).lent hr) fun H u h => Wl.appendH (i := 0) rfl h rfl h.rd (by simpa using hlen) fun H' v' h => hQ _ _ (h.retGG (i := 0) rfl)

end Go.Proofs.YtgdiebnokgnniaaGreatDoor
/-! The contract of copyRows. No condition. -/
namespace Go.Proofs.YtgdiebnokgnniaaGreatDoor
open Go.Ab

/- loop.example/g01343/impl.copyRows -/
def f83.l1 (Q : Post) (v1 : Value) (rows_0 : Value) (I1 : St [3, 8] → Heap → Prop) (out_3 : Value) (x_8 : Value) (H : Heap) : Prop :=
  W.bin .lss x_8 v1 H fun v2 H =>
  W.cond v2 H
  (fun H => W.indexAddr 1 rows_0 x_8 H fun v3 H =>
   W.get v3 H fun v4 H =>
   W.call Tryz.prog (.func (.func 112) #[] #[]) #[v4] H fun v5 H =>
   W.lit 1 [(.slice none 0 0)] 25 [(0, 1, v5)] H fun v6 H =>
   W.append 1 25 out_3 v6 H fun v7 H =>
   W.bin .add x_8 (.int .i64 1) H fun v8 H =>
   I1 (v7, v8, ()) H)
  (fun H => Q out_3 H)
def f83.w (Q : Post) (rows_0 : Value) (H : Heap) : Prop :=
  W.len rows_0 H fun v1 H =>
  W.loop (S := St [3, 8]) (fun I1 s H => f83.l1 Q v1 rows_0 I1 s.1 s.2.1 H) ((.slice none 0 0), (.int .i64 0), ()) H
theorem f83.enter {Q : Post} {rows_0 : Value} {H : Heap} (h : f83.w Q rows_0 H) : Runs Tryz.prog 83 #[rows_0] H Q :=
  fn_enter (ann := [(3, [3, 8])]) (by kernel_rfl) Tryz.func83 rfl (by kernel_rfl) h (by kernel_rfl)


/-- Rows that may be copied. -/
def okRows (m : List (List Int)) : Prop := m.length ≤ 1048576 ∧ ∀ r ∈ m, r.length ≤ 1048576

theorem fn83 {H0 : Heap} {Q : Post} {v : Value} {m : List (List Int)} (hr : Has RSS H0 [v] m) (hm : okRows m) (hQ : ∀ H' u, FreshG RS 25 H0 u m H' → Q u H') : Runs Tryz.prog 83 #[v] H0 Q := by
  refine f83.enter (Wl.lenH hr ?_)
  refine W.for_rule m.length (fun i s H => ∃ u, s = (u, .int .i64 (i : Nat), ()) ∧ Ab.Loc H0 [.grow RS 25 u (m.take i), .lent RSS [v] m] H) ⟨_, rfl, (((Loc.start H0).lent hr).nilG RS 25)⟩ ?_
  rintro i s H J hi ⟨u, rfl, h⟩ hJ
  have := hm.1
  refine Wi.lssC (fun hlt => Wi.tru ?_) fun hge => Wi.fls ?_
  · have hix : i < m.length := by omega
    refine Wl.at1 rfl h hix fun w hw => Wi.call (fn112 hw (by have := hm.2 _ (List.getElem_mem hix); omega) fun H2 u2 f => ?_)
    refine Wl.pushF rfl h f.fresh f.fresh.read.one (by simp; omega) fun H3 v' h => Wi.add (by unfold I64; omega) (hJ _ _ hix ⟨v', rfl, ?_⟩)
    rw [List.take_succ_eq_append_getElem hix]
    exact h
  · have : i = m.length := by omega
    subst this
    rw [List.take_length] at h
    exact hQ _ _ (h.retGG (i := 0) rfl)

end Go.Proofs.YtgdiebnokgnniaaGreatDoor

/-! Contracts of the program's small tests of numbers, lists and rows. No condition. -/
namespace Go.Proofs.YtgdiebnokgnniaaGreatDoor
open Go.Ab

/- loop.example/g01343/impl.within -/
def f68.w (Q : Post) (n_0 : Value) (low_1 : Value) (high_2 : Value) (H : Heap) : Prop :=
  W.bin .geq n_0 low_1 H fun v1 H =>
  W.guarded v1 true (fun H k => k n_0 H) H fun v2 H =>
  W.guarded v1 true (fun H k => k high_2 H) H fun v3 H =>
  W.guarded v1 true (fun H k => W.bin .leq v2 v3 H k) H fun v4 H =>
  W.pick v1 v4 (.bool false) H fun v5 H =>
  Q v5 H
theorem f68.enter {Q : Post} {n_0 : Value} {low_1 : Value} {high_2 : Value} {H : Heap} (h : f68.w Q n_0 low_1 high_2 H) : Runs Tryz.prog 68 #[n_0, low_1, high_2] H Q :=
  fn_enter (ann := []) (by kernel_rfl) Tryz.func68 rfl (by kernel_rfl) h (by kernel_rfl)

/- loop.example/g01343/impl.upTo -/
def f100.w (Q : Post) (n_0 : Value) (most_1 : Value) (H : Heap) : Prop :=
  W.un .neg most_1 H fun v1 H =>
  W.call Tryz.prog (.func (.func 68) #[] #[]) #[n_0, v1, most_1] H fun v2 H =>
  Q v2 H
theorem f100.enter {Q : Post} {n_0 : Value} {most_1 : Value} {H : Heap} (h : f100.w Q n_0 most_1 H) : Runs Tryz.prog 100 #[n_0, most_1] H Q :=
  fn_enter (ann := []) (by kernel_rfl) Tryz.func100 rfl (by kernel_rfl) h (by kernel_rfl)

/- slices.IndexFunc[[]int64,int64] -/
def f121.l1 (Q : Post) (v1 : Value) (s_0 : Value) (f_1 : Value) (I1 : St [8] → Heap → Prop) (x_8 : Value) (H : Heap) : Prop :=
  W.bin .lss x_8 v1 H fun v2 H =>
  W.cond v2 H
  (fun H => W.indexAddr 1 s_0 x_8 H fun v3 H =>
   W.get v3 H fun v4 H =>
   W.call Tryz.prog f_1 #[v4] H fun v5 H =>
   W.cond v5 H
   (fun H => Q x_8 H)
   (fun H => W.bin .add x_8 (.int .i64 1) H fun v6 H =>
    I1 (v6, ()) H))
  (fun H => Q (.int .i64 (-1)) H)
def f121.w (Q : Post) (s_0 : Value) (f_1 : Value) (H : Heap) : Prop :=
  W.len s_0 H fun v1 H =>
  W.loop (S := St [8]) (fun I1 s H => f121.l1 Q v1 s_0 f_1 I1 s.1 H) ((.int .i64 0), ()) H
theorem f121.enter {Q : Post} {s_0 : Value} {f_1 : Value} {H : Heap} (h : f121.w Q s_0 f_1 H) : Runs Tryz.prog 121 #[s_0, f_1] H Q :=
  fn_enter (ann := [(2, [8])]) (by kernel_rfl) Tryz.func121 rfl (by kernel_rfl) h (by kernel_rfl)

/- slices.IndexFunc[[][]int64,[]int64] -/
def f90.l1 (Q : Post) (v1 : Value) (s_0 : Value) (f_1 : Value) (I1 : St [8] → Heap → Prop) (x_8 : Value) (H : Heap) : Prop :=
  W.bin .lss x_8 v1 H fun v2 H =>
  W.cond v2 H
  (fun H => W.indexAddr 1 s_0 x_8 H fun v3 H =>
   W.get v3 H fun v4 H =>
   W.call Tryz.prog f_1 #[v4] H fun v5 H =>
   W.cond v5 H
   (fun H => Q x_8 H)
   (fun H => W.bin .add x_8 (.int .i64 1) H fun v6 H =>
    I1 (v6, ()) H))
  (fun H => Q (.int .i64 (-1)) H)
def f90.w (Q : Post) (s_0 : Value) (f_1 : Value) (H : Heap) : Prop :=
  W.len s_0 H fun v1 H =>
  W.loop (S := St [8]) (fun I1 s H => f90.l1 Q v1 s_0 f_1 I1 s.1 H) ((.int .i64 0), ()) H
theorem f90.enter {Q : Post} {s_0 : Value} {f_1 : Value} {H : Heap} (h : f90.w Q s_0 f_1 H) : Runs Tryz.prog 90 #[s_0, f_1] H Q :=
  fn_enter (ann := [(2, [8])]) (by kernel_rfl) Tryz.func90 rfl (by kernel_rfl) h (by kernel_rfl)

/- slices.ContainsFunc[[]int64,int64] -/
def f98.w (Q : Post) (s_0 : Value) (f_1 : Value) (H : Heap) : Prop :=
  W.call Tryz.prog (.func (.func 121) #[] #[]) #[s_0, f_1] H fun v1 H =>
  W.bin .geq v1 (.int .i64 0) H fun v2 H =>
  Q v2 H
theorem f98.enter {Q : Post} {s_0 : Value} {f_1 : Value} {H : Heap} (h : f98.w Q s_0 f_1 H) : Runs Tryz.prog 98 #[s_0, f_1] H Q :=
  fn_enter (ann := []) (by kernel_rfl) Tryz.func98 rfl (by kernel_rfl) h (by kernel_rfl)

/- slices.ContainsFunc[[][]int64,[]int64] -/
def f96.w (Q : Post) (s_0 : Value) (f_1 : Value) (H : Heap) : Prop :=
  W.call Tryz.prog (.func (.func 90) #[] #[]) #[s_0, f_1] H fun v1 H =>
  W.bin .geq v1 (.int .i64 0) H fun v2 H =>
  Q v2 H
theorem f96.enter {Q : Post} {s_0 : Value} {f_1 : Value} {H : Heap} (h : f96.w Q s_0 f_1 H) : Runs Tryz.prog 96 #[s_0, f_1] H Q :=
  fn_enter (ann := []) (by kernel_rfl) Tryz.func96 rfl (by kernel_rfl) h (by kernel_rfl)

/- loop.example/g01343/impl.allUpTo -/
def f46.w (Q : Post) (list_0 : Value) (most_1 : Value) (H : Heap) : Prop :=
  W.box most_1 2 H fun v1 H =>
  W.call Tryz.prog (.func (.func 98) #[] #[]) #[list_0, (.func (.func 99) #[] #[v1])] H fun v2 H =>
  W.un .not v2 H fun v3 H =>
  Q v3 H
theorem f46.enter {Q : Post} {list_0 : Value} {most_1 : Value} {H : Heap} (h : f46.w Q list_0 most_1 H) : Runs Tryz.prog 46 #[list_0, most_1] H Q :=
  fn_enter (ann := []) (by kernel_rfl) Tryz.func46 rfl (by kernel_rfl) h (by kernel_rfl)

/- loop.example/g01343/impl.allUpTo$1 -/
def f99.w (Q : Post) (n_0 : Value) (x_1 : Value) (H : Heap) : Prop :=
  W.get x_1 H fun v1 H =>
  W.call Tryz.prog (.func (.func 100) #[] #[]) #[n_0, v1] H fun v2 H =>
  W.un .not v2 H fun v3 H =>
  Q v3 H
theorem f99.enter {Q : Post} {n_0 : Value} {x_1 : Value} {H : Heap} (h : f99.w Q n_0 x_1 H) : Runs Tryz.prog 99 #[n_0, x_1] H Q :=
  fn_enter (ann := []) (by kernel_rfl) Tryz.func99 rfl (by kernel_rfl) h (by kernel_rfl)

/- loop.example/g01343/impl.isSquare -/
def f95.w (Q : Post) (m_0 : Value) (n_1 : Value) (H : Heap) : Prop :=
  W.box n_1 3 H fun v1 H =>
  W.len m_0 H fun v2 H =>
  W.get v1 H fun v3 H =>
  W.bin .eql v2 v3 H fun v4 H =>
  W.guarded v4 true (fun H k => k m_0 H) H fun v5 H =>
  W.guarded v4 true (fun H k => k (.func (.func 120) #[] #[v1]) H) H fun v6 H =>
  W.guarded v4 true (fun H k => W.call Tryz.prog (.func (.func 96) #[] #[]) #[v5, v6] H k) H fun v7 H =>
  W.guarded v4 true (fun H k => W.un .not v7 H k) H fun v8 H =>
  W.pick v4 v8 (.bool false) H fun v9 H =>
  Q v9 H
theorem f95.enter {Q : Post} {m_0 : Value} {n_1 : Value} {H : Heap} (h : f95.w Q m_0 n_1 H) : Runs Tryz.prog 95 #[m_0, n_1] H Q :=
  fn_enter (ann := []) (by kernel_rfl) Tryz.func95 rfl (by kernel_rfl) h (by kernel_rfl)

/- loop.example/g01343/impl.isSquare$1 -/
def f120.w (Q : Post) (row_0 : Value) (x_1 : Value) (H : Heap) : Prop :=
  W.len row_0 H fun v1 H =>
  W.get x_1 H fun v2 H =>
  W.bin .neq v1 v2 H fun v3 H =>
  Q v3 H
theorem f120.enter {Q : Post} {row_0 : Value} {x_1 : Value} {H : Heap} (h : f120.w Q row_0 x_1 H) : Runs Tryz.prog 120 #[row_0, x_1] H Q :=
  fn_enter (ann := []) (by kernel_rfl) Tryz.func120 rfl (by kernel_rfl) h (by kernel_rfl)


theorem fn68 {H : Heap} {Q : Post} {n lo hi : Int} (h : Q (.bool (inR lo hi n)) H) : Runs Tryz.prog 68 #[.int .i64 n, .int .i64 lo, .int .i64 hi] H Q := by
  refine f68.enter ?_
  unfold f68.w
  refine Wi.geq ?_
  unfold inR at h
  cases hb : decide (lo ≤ n) with
  | true =>
    rw [hb] at h
    exact Wi.gT (Wi.gT (Wi.gT (Wi.leq (Wi.pickT h))))
  | false =>
    rw [hb] at h
    exact Wi.gF (Wi.gF (Wi.gF (Wi.pickF h)))

theorem fn100 {H : Heap} {Q : Post} {n m : Int} (hm : I64 (-m)) (h : Q (.bool (inR (-m) m n)) H) : Runs Tryz.prog 100 #[.int .i64 n, .int .i64 m] H Q :=
  f100.enter (Wi.neg hm (Wi.call (fn68 h)))

theorem index121 : IndexF Tryz.prog 121 Rd.int := IndexF.of rfl (n := 8) fun _ _ _ _ h => f121.enter h
theorem index90 : IndexF Tryz.prog 90 RS := IndexF.of rfl (n := 8) fun _ _ _ _ h => f90.enter h
theorem contains98 : ContainsF Tryz.prog 98 Rd.int := ContainsF.of index121 fun _ _ _ _ h => f98.enter h
theorem contains96 : ContainsF Tryz.prog 96 RS := ContainsF.of index90 fun _ _ _ _ h => f96.enter h

/-- All numbers are from -m to m. -/
def allUp (m : Int) (xs : List Int) : Bool := xs.all (inR (-m) m)

theorem fn46 {H : Heap} {Q : Post} {bs : List Nat} {v : Value} {xs : List Int} {m : Int} (hm : I64 (-m)) (hr : RS.rel H bs [v] xs) (h : ∀ H', H.Le H' → Q (.bool (allUp m xs)) H') : Runs Tryz.prog 46 #[v, .int .i64 m] H Q := by
  refine f46.enter ?_
  unfold f46.w
  refine Wi.box1 rfl fun H1 l1 n1 k1 => Wi.call (contains98 _ _ _ _ _ (fun x => !inR (-m) m x) _ (Rd.le _ hr l1) ?_ fun H2 l2 => ?_)
  · intro H' bs u x K l hr hK
    obtain ⟨_, hu, _⟩ := hr
    simp only [List.cons.injEq, and_true] at hu
    subst hu
    exact Wi.callV (f99.enter (Wi.get (l.at k1 (by omega)) rfl (Wi.call (fn100 hm (Wi.not (hK _ (.refl _)))))))
  · refine Wi.not ?_
    have e : (!xs.any fun x => !inR (-m) m x) = allUp m xs := by
      unfold allUp
      rw [← List.all_eq_not_any_not]
    rw [e]
    exact h H2 (l1.trans l2)

/-- A square of numbers, n rows of n. -/
def isSq (n : Nat) (m : List (List Int)) : Bool := decide (m.length = n) && m.all (fun r => decide (r.length = n))

theorem int_beq (a b : Nat) : ((a : Int) == (b : Int)) = decide (a = b) := by
  by_cases h : a = b
  · subst h; simp
  · have : ¬ (a : Int) = b := by omega
    simp [h, this]

theorem int_bne (a b : Nat) : ((a : Int) != (b : Int)) = !decide (a = b) := by
  rw [bne, int_beq]

theorem fn95 {H : Heap} {Q : Post} {bs : List Nat} {v : Value} {m : List (List Int)} {n : Nat} (hr : RSS.rel H bs [v] m) (h : ∀ H', H.Le H' → Q (.bool (isSq n m)) H') : Runs Tryz.prog 95 #[v, .int .i64 n] H Q := by
  refine f95.enter ?_
  unfold f95.w
  obtain ⟨p1, e1, g1⟩ := Rd.slice_val hr
  simp only [List.cons.injEq, and_true] at g1
  rw [g1]
  refine Wi.box1 rfl fun H1 l1 n1 k1 => Wi.len (Wi.get k1 rfl (Wi.eql ?_))
  rw [int_beq]
  unfold isSq at h
  cases hb : decide (m.length = n) with
  | false =>
    rw [hb] at h
    exact Wi.gF (Wi.gF (Wi.gF (Wi.gF (Wi.pickF (h H1 l1)))))
  | true =>
    rw [hb] at h
    rw [← g1]
    refine Wi.gT (Wi.gT (Wi.gT (Wi.call (contains96 _ _ _ _ _ (fun r => !decide (r.length = n)) _ (Rd.le _ hr l1) ?_ fun H2 l2 => Wi.gT (Wi.not (Wi.pickT ?_))))))
    · intro H' bs u x K l hr hK
      obtain ⟨p2, e2, g2⟩ := Rd.slice_val hr
      simp only [List.cons.injEq, and_true] at g2
      subst g2
      refine Wi.callV (f120.enter (Wi.len (Wi.get (l.at k1 (by omega)) rfl (Wi.neq ?_))))
      rw [int_bne]
      exact hK _ (.refl _)
    · have e : (!m.any fun r => !decide (r.length = n)) = m.all (fun r => decide (r.length = n)) := by rw [← List.all_eq_not_any_not]
      rw [e]
      have := h H2 (l1.trans l2)
      simpa using this

end Go.Proofs.YtgdiebnokgnniaaGreatDoor

/-! The contract of the reference's l01In. No condition. -/
namespace Go.Proofs.YtgdiebnokgnniaaGreatDoor
open Go.Ab

/- loop.example/g01343/spec.l01In -/
def f70.w (Q : Post) (n_0 : Value) (low_1 : Value) (high_2 : Value) (H : Heap) : Prop :=
  W.bin .geq n_0 low_1 H fun v1 H =>
  W.guarded v1 true (fun H k => k n_0 H) H fun v2 H =>
  W.guarded v1 true (fun H k => k high_2 H) H fun v3 H =>
  W.guarded v1 true (fun H k => W.bin .leq v2 v3 H k) H fun v4 H =>
  W.pick v1 v4 (.bool false) H fun v5 H =>
  Q v5 H
theorem f70.enter {Q : Post} {n_0 : Value} {low_1 : Value} {high_2 : Value} {H : Heap} (h : f70.w Q n_0 low_1 high_2 H) : Runs Tryz.prog 70 #[n_0, low_1, high_2] H Q :=
  fn_enter (ann := []) (by kernel_rfl) Tryz.func70 rfl (by kernel_rfl) h (by kernel_rfl)


theorem fn70 {H : Heap} {Q : Post} {n lo hi : Int} (h : Q (.bool (inR lo hi n)) H) : Runs Tryz.prog 70 #[.int .i64 n, .int .i64 lo, .int .i64 hi] H Q := by
  refine f70.enter ?_
  unfold f70.w
  refine Wi.geq ?_
  unfold inR at h
  cases hb : decide (lo ≤ n) with
  | true =>
    rw [hb] at h
    exact Wi.gT (Wi.gT (Wi.gT (Wi.leq (Wi.pickT h))))
  | false =>
    rw [hb] at h
    exact Wi.gF (Wi.gF (Wi.gF (Wi.pickF h)))

end Go.Proofs.YtgdiebnokgnniaaGreatDoor

/-! Fractions: the greatest common divisor, tests, lowest terms. No condition. -/
namespace Go.Proofs.YtgdiebnokgnniaaGreatDoor
open Go.Ab

/- loop.example/g01343/impl.size -/
def f86.w (Q : Post) (n_0 : Value) (H : Heap) : Prop :=
  W.un .neg n_0 H fun v1 H =>
  W.max2 n_0 v1 H fun v2 H =>
  Q v2 H
theorem f86.enter {Q : Post} {n_0 : Value} {H : Heap} (h : f86.w Q n_0 H) : Runs Tryz.prog 86 #[n_0] H Q :=
  fn_enter (ann := []) (by kernel_rfl) Tryz.func86 rfl (by kernel_rfl) h (by kernel_rfl)

/- loop.example/g01343/impl.common -/
def f103.l1 (Q : Post) (I1 : St [0, 1] → Heap → Prop) (a_0' : Value) (b_1' : Value) (H : Heap) : Prop :=
  W.bin .neq b_1' (.int .i64 0) H fun v3 H =>
  W.cond v3 H
  (fun H => W.bin .rem a_0' b_1' H fun v4 H =>
   I1 (b_1', v4, ()) H)
  (fun H => Q a_0' H)
def f103.w (Q : Post) (a_0 : Value) (b_1 : Value) (H : Heap) : Prop :=
  W.call Tryz.prog (.func (.func 86) #[] #[]) #[a_0] H fun v1 H =>
  W.call Tryz.prog (.func (.func 86) #[] #[]) #[b_1] H fun v2 H =>
  W.loop (S := St [0, 1]) (fun I1 s H => f103.l1 Q I1 s.1 s.2.1 H) (v1, v2, ()) H
theorem f103.enter {Q : Post} {a_0 : Value} {b_1 : Value} {H : Heap} (h : f103.w Q a_0 b_1 H) : Runs Tryz.prog 103 #[a_0, b_1] H Q :=
  fn_enter (ann := [(2, [0, 1])]) (by kernel_rfl) Tryz.func103 rfl (by kernel_rfl) h (by kernel_rfl)

/- loop.example/g01343/impl.IsFrac -/
def f119.w (Q : Post) (a_0 : Value) (H : Heap) : Prop :=
  W.box a_0 38 H fun v1 H =>
  W.fieldAddr 1 v1 H fun v2 H =>
  W.get v2 H fun v3 H =>
  W.call Tryz.prog (.func (.func 68) #[] #[]) #[v3, (.int .i64 1), (.int .i64 1000000000)] H fun v4 H =>
  W.guarded v4 true (fun H k => W.fieldAddr 0 v1 H k) H fun v5 H =>
  W.guarded v4 true (fun H k => W.get v5 H k) H fun v6 H =>
  W.guarded v4 true (fun H k => W.call Tryz.prog (.func (.func 100) #[] #[]) #[v6, (.int .i64 1000000000)] H k) H fun v7 H =>
  W.pick v4 v7 (.bool false) H fun v8 H =>
  W.guarded v8 true (fun H k => W.fieldAddr 0 v1 H k) H fun v9 H =>
  W.guarded v8 true (fun H k => W.get v9 H k) H fun v10 H =>
  W.guarded v8 true (fun H k => W.fieldAddr 1 v1 H k) H fun v11 H =>
  W.guarded v8 true (fun H k => W.get v11 H k) H fun v12 H =>
  W.guarded v8 true (fun H k => W.call Tryz.prog (.func (.func 103) #[] #[]) #[v10, v12] H k) H fun v13 H =>
  W.guarded v8 true (fun H k => W.bin .eql v13 (.int .i64 1) H k) H fun v14 H =>
  W.pick v8 v14 (.bool false) H fun v15 H =>
  Q v15 H
theorem f119.enter {Q : Post} {a_0 : Value} {H : Heap} (h : f119.w Q a_0 H) : Runs Tryz.prog 119 #[a_0] H Q :=
  fn_enter (ann := []) (by kernel_rfl) Tryz.func119 rfl (by kernel_rfl) h (by kernel_rfl)

/- loop.example/g01343/impl.reduced -/
def f87.j1 (Q : Post) (num_0 : Value) (den_1 : Value) (v1 : Value) (by_6 : Value) (H : Heap) : Prop :=
  W.bin .quo num_0 by_6 H fun v5 H =>
  W.bin .quo den_1 by_6 H fun v6 H =>
  W.build [(.int .i64 0), (.int .i64 0)] [(0, 1, v5), (1, 1, v6)] H fun v7 H =>
  W.new [(.int .i64 0), (.int .i64 0)] 38 H fun v8 H =>
  W.putN 2 v8 v7 H fun _ H =>
  W.getN 2 v8 H fun v9 H =>
  W.call Tryz.prog (.func (.func 119) #[] #[]) #[v9] H fun v10 H =>
  W.un .not v10 H fun v11 H =>
  W.cond v11 H
  (fun H => W.build [(.int .i64 0), (.int .i64 0)] [] H fun v12 H =>
   W.putN 2 v1 v12 H fun _ H =>
   W.getN 2 v1 H fun v13 H => Q (.tuple #[v13, (.int .i64 3)]) H)
  (fun H => W.getN 2 v8 H fun v14 H =>
   W.putN 2 v1 v14 H fun _ H =>
   W.getN 2 v1 H fun v15 H => Q (.tuple #[v15, (.int .i64 0)]) H)
def f87.w (Q : Post) (num_0 : Value) (den_1 : Value) (H : Heap) : Prop :=
  W.new [(.int .i64 0), (.int .i64 0)] 38 H fun v1 H =>
  W.call Tryz.prog (.func (.func 103) #[] #[]) #[num_0, den_1] H fun v2 H =>
  W.bin .lss den_1 (.int .i64 0) H fun v3 H =>
  W.cond v3 H
  (fun H => W.un .neg v2 H fun v4 H =>
   f87.j1 Q num_0 den_1 v1 v4 H)
  (fun H => f87.j1 Q num_0 den_1 v1 v2 H)
theorem f87.enter {Q : Post} {num_0 : Value} {den_1 : Value} {H : Heap} (h : f87.w Q num_0 den_1 H) : Runs Tryz.prog 87 #[num_0, den_1] H Q :=
  fn_enter (ann := []) (by kernel_rfl) Tryz.func87 rfl (by kernel_rfl) h (by kernel_rfl)

/- loop.example/g01343/spec.l01Gcd -/
def f115.l1 (Q : Post) (I1 : St [0, 1] → Heap → Prop) (a_0' : Value) (b_1' : Value) (H : Heap) : Prop :=
  W.bin .neq b_1' (.int .i64 0) H fun v1 H =>
  W.cond v1 H
  (fun H => W.bin .rem a_0' b_1' H fun v2 H =>
   I1 (b_1', v2, ()) H)
  (fun H => W.un .neg a_0' H fun v3 H =>
   W.max2 a_0' v3 H fun v4 H =>
   Q v4 H)
def f115.w (Q : Post) (a_0 : Value) (b_1 : Value) (H : Heap) : Prop :=
  W.loop (S := St [0, 1]) (fun I1 s H => f115.l1 Q I1 s.1 s.2.1 H) (a_0, b_1, ()) H
theorem f115.enter {Q : Post} {a_0 : Value} {b_1 : Value} {H : Heap} (h : f115.w Q a_0 b_1 H) : Runs Tryz.prog 115 #[a_0, b_1] H Q :=
  fn_enter (ann := [(1, [0, 1])]) (by kernel_rfl) Tryz.func115 rfl (by kernel_rfl) h (by kernel_rfl)

/- loop.example/g01343/spec.l01IsFrac -/
def f89.w (Q : Post) (a_0 : Value) (most_1 : Value) (H : Heap) : Prop :=
  W.box a_0 38 H fun v1 H =>
  W.fieldAddr 1 v1 H fun v2 H =>
  W.get v2 H fun v3 H =>
  W.call Tryz.prog (.func (.func 70) #[] #[]) #[v3, (.int .i64 1), most_1] H fun v4 H =>
  W.guarded v4 true (fun H k => W.fieldAddr 0 v1 H k) H fun v5 H =>
  W.guarded v4 true (fun H k => W.get v5 H k) H fun v6 H =>
  W.guarded v4 true (fun H k => k most_1 H) H fun v7 H =>
  W.guarded v4 true (fun H k => W.un .neg v7 H k) H fun v8 H =>
  W.guarded v4 true (fun H k => k most_1 H) H fun v9 H =>
  W.guarded v4 true (fun H k => W.call Tryz.prog (.func (.func 70) #[] #[]) #[v6, v8, v9] H k) H fun v10 H =>
  W.pick v4 v10 (.bool false) H fun v11 H =>
  W.guarded v11 true (fun H k => W.fieldAddr 0 v1 H k) H fun v12 H =>
  W.guarded v11 true (fun H k => W.get v12 H k) H fun v13 H =>
  W.guarded v11 true (fun H k => W.fieldAddr 1 v1 H k) H fun v14 H =>
  W.guarded v11 true (fun H k => W.get v14 H k) H fun v15 H =>
  W.guarded v11 true (fun H k => W.call Tryz.prog (.func (.func 115) #[] #[]) #[v13, v15] H k) H fun v16 H =>
  W.guarded v11 true (fun H k => W.bin .eql v16 (.int .i64 1) H k) H fun v17 H =>
  W.pick v11 v17 (.bool false) H fun v18 H =>
  Q v18 H
theorem f89.enter {Q : Post} {a_0 : Value} {most_1 : Value} {H : Heap} (h : f89.w Q a_0 most_1 H) : Runs Tryz.prog 89 #[a_0, most_1] H Q :=
  fn_enter (ann := []) (by kernel_rfl) Tryz.func89 rfl (by kernel_rfl) h (by kernel_rfl)

/- loop.example/g01343/spec.l01Frac -/
def f76.j1 (Q : Post) (v1 : Value) (num_0' : Value) (den_1' : Value) (H : Heap) : Prop :=
  W.call Tryz.prog (.func (.func 115) #[] #[]) #[num_0', den_1'] H fun v5 H =>
  W.bin .quo num_0' v5 H fun v6 H =>
  W.bin .quo den_1' v5 H fun v7 H =>
  W.build [(.int .i64 0), (.int .i64 0)] [(0, 1, v6), (1, 1, v7)] H fun v8 H =>
  W.putN 2 v1 v8 H fun _ H =>
  W.getN 2 v1 H fun v9 H => Q v9 H
def f76.w (Q : Post) (num_0 : Value) (den_1 : Value) (H : Heap) : Prop :=
  W.new [(.int .i64 0), (.int .i64 0)] 38 H fun v1 H =>
  W.bin .lss den_1 (.int .i64 0) H fun v2 H =>
  W.cond v2 H
  (fun H => W.un .neg num_0 H fun v3 H =>
   W.un .neg den_1 H fun v4 H =>
   f76.j1 Q v1 v3 v4 H)
  (fun H => f76.j1 Q v1 num_0 den_1 H)
theorem f76.enter {Q : Post} {num_0 : Value} {den_1 : Value} {H : Heap} (h : f76.w Q num_0 den_1 H) : Runs Tryz.prog 76 #[num_0, den_1] H Q :=
  fn_enter (ann := []) (by kernel_rfl) Tryz.func76 rfl (by kernel_rfl) h (by kernel_rfl)

/- loop.example/g01343/spec.l01Told -/
def f75.w (Q : Post) (a_0 : Value) (H : Heap) : Prop :=
  W.box a_0 38 H fun v1 H =>
  W.new [(.int .i64 0), (.int .i64 0)] 38 H fun v2 H =>
  W.getN 2 v1 H fun v3 H =>
  W.call Tryz.prog (.func (.func 89) #[] #[]) #[v3, (.int .i64 1000000000)] H fun v4 H =>
  W.un .not v4 H fun v5 H =>
  W.cond v5 H
  (fun H => W.build [(.int .i64 0), (.int .i64 0)] [] H fun v6 H =>
   W.putN 2 v2 v6 H fun _ H =>
   W.getN 2 v2 H fun v7 H => Q (.tuple #[v7, (.int .i64 3)]) H)
  (fun H => W.getN 2 v1 H fun v8 H =>
   W.putN 2 v2 v8 H fun _ H =>
   W.getN 2 v2 H fun v9 H => Q (.tuple #[v9, (.int .i64 0)]) H)
theorem f75.enter {Q : Post} {a_0 : Value} {H : Heap} (h : f75.w Q a_0 H) : Runs Tryz.prog 75 #[a_0] H Q :=
  fn_enter (ann := []) (by kernel_rfl) Tryz.func75 rfl (by kernel_rfl) h (by kernel_rfl)


theorem Wi.rem {a b : Int} {H : Heap} {k : Post} (hb : b ≠ 0) (hw : I64 (a.tmod b)) (h : k (.int .i64 (a.tmod b)) H) : W.bin .rem (.int .i64 a) (.int .i64 b) H k := by
  simpa [W.bin, binEval, intEval, hb, wrap_id hw] using h
theorem Wi.quo {a b : Int} {H : Heap} {k : Post} (hb : b ≠ 0) (hw : I64 (a.tdiv b)) (h : k (.int .i64 (a.tdiv b)) H) : W.bin .quo (.int .i64 a) (.int .i64 b) H k := by
  simpa [W.bin, binEval, intEval, hb, wrap_id hw] using h

theorem Wi.max2 {a b c : Int} {κ κ' : IntKind} {H : Heap} {k : Post} (e : (if b > a then b else a) = c) (h : k (.int κ c) H) : W.max2 (.int κ a) (.int κ' b) H k := by
  subst e
  exact h

/-- A number whose opposite is a number too. -/
def B64 (a : Int) : Prop := a.natAbs < 9223372036854775808

theorem fn86 {H0 : Heap} {Q : Post} {a : Int} (ha : B64 a) (h : Q (.int .i64 a.natAbs) H0) : Runs Tryz.prog 86 #[.int .i64 a] H0 Q := by
  unfold B64 at ha
  refine f86.enter ?_
  unfold f86.w
  refine Wi.neg (by unfold I64; omega) ?_
  exact Wi.max2 (c := (a.natAbs : Int)) (by split <;> omega) h

theorem tmod_B {a b : Int} (hb : B64 b) (h : b ≠ 0) : B64 (a.tmod b) := by
  have := tmod_lt a h
  unfold B64 at *
  omega

theorem fn115 {H0 : Heap} {Q : Post} {a b : Int} (ha : B64 a) (hb : B64 b) (hQ : Q (.int .i64 (Int.gcd a b)) H0) : Runs Tryz.prog 115 #[.int .i64 a, .int .i64 b] H0 Q := by
  refine f115.enter ?_
  unfold f115.w
  refine W.loop_rule (fun s H => H = H0 ∧ ∃ c d : Int, s = (.int .i64 c, .int .i64 d, ()) ∧ B64 c ∧ B64 d ∧ Int.gcd c d = Int.gcd a b) (fun s _ => match s.2.1 with | .int _ d => d.natAbs | _ => 0) ⟨rfl, a, b, rfl, ha, hb, rfl⟩ ?_
  rintro s H ⟨rfl, c, d, rfl, hc, hd, hg⟩
  refine Wi.neqC (fun hne => Wi.tru ?_) fun heq => Wi.fls ?_
  · have hm := tmod_B (a := c) hd hne
    refine Wi.rem hne (by unfold B64 at hm; unfold I64; omega) ⟨⟨rfl, d, _, rfl, hd, hm, by rw [gcd_step]; exact hg⟩, ?_⟩
    exact tmod_lt c hne
  · subst heq
    rw [← hg] at hQ
    unfold B64 at hc
    refine Wi.neg (by unfold I64; omega) ?_
    exact Wi.max2 (c := ((Int.gcd c 0 : Nat) : Int)) (by rw [Int.gcd_zero_right]; split <;> omega) hQ

theorem fn103 {H0 : Heap} {Q : Post} {a b : Int} (ha : B64 a) (hb : B64 b) (hQ : Q (.int .i64 (Int.gcd a b)) H0) : Runs Tryz.prog 103 #[.int .i64 a, .int .i64 b] H0 Q := by
  refine f103.enter ?_
  unfold f103.w
  refine Wi.call (fn86 ha (Wi.call (fn86 hb ?_)))
  refine W.loop_rule (fun s H => H = H0 ∧ ∃ c d : Nat, s = (.int .i64 (c : Int), .int .i64 (d : Int), ()) ∧ c < 9223372036854775808 ∧ d < 9223372036854775808 ∧ Nat.gcd c d = Int.gcd a b) (fun s _ => match s.2.1 with | .int _ d => d.natAbs | _ => 0) ⟨rfl, a.natAbs, b.natAbs, rfl, ha, hb, rfl⟩ ?_
  rintro s H ⟨rfl, c, d, rfl, hc, hd, hg⟩
  refine Wi.neqC (fun hne => Wi.tru ?_) fun heq => Wi.fls ?_
  · have hd0 : 0 < d := by omega
    have e : ((c : Int).tmod d) = ((c % d : Nat) : Int) := by rw [Int.ofNat_tmod]
    have hlt := Nat.mod_lt c hd0
    refine Wi.rem hne (by rw [e]; unfold I64; omega) ?_
    rw [e]
    exact ⟨⟨rfl, d, c % d, rfl, hd, by omega, by rw [Nat.gcd_comm, ← Nat.gcd_rec, Nat.gcd_comm]; exact hg⟩, by show ((c % d : Nat) : Int).natAbs < ((d : Nat) : Int).natAbs; rw [Int.natAbs_natCast, Int.natAbs_natCast]; exact hlt⟩
  · have : d = 0 := by omega
    subst this
    rw [Nat.gcd_zero_right] at hg
    rw [hg]
    exact hQ

theorem B64_of {a m : Int} (h : -m ≤ a ∧ a ≤ m) (hm : m ≤ 9223372036854775807) : B64 a := by unfold B64; omega

theorem fn119 {H0 : Heap} {Q : Post} {a : Frac} (hQ : ∀ H', H0.Le H' → Q (.bool (isFr 1000000000 a)) H') : Runs Tryz.prog 119 #[.agg (frC a).toArray] H0 Q := by
  refine f119.enter ?_
  unfold f119.w
  refine Wl.box (Loc.start H0) fun H b h => Wi.fieldAddr0 (Wl.get h rfl (Wi.call (fn68 ?_)))
  have hQ := hQ _ h.le
  unfold isFr at hQ
  cases h1 : inR 1 1000000000 a.2 with
  | false =>
    rw [h1] at hQ
    simp only [gw]
    exact hQ
  | true =>
  rw [h1] at hQ
  simp only [gw]
  refine Wi.fieldAddr0 (Wl.get h rfl (Wi.call (fn100 (by unfold I64; omega) ?_)))
  cases h2 : inR (-1000000000) 1000000000 a.1 with
  | false =>
    rw [h2] at hQ
    simp only [gw]
    exact hQ
  | true =>
  rw [h2] at hQ
  have k1 := inR_iff.1 h1
  have k2 := inR_iff.1 h2
  simp only [gw]
  refine Wi.fieldAddr0 (Wl.get h rfl (Wi.fieldAddr0 (Wl.get h rfl (Wi.call (fn103 (B64_of k2 (by omega)) (by unfold B64; omega) (Wi.eql ?_))))))
  have e : (((Int.gcd a.1 a.2 : Nat) : Int) == 1) = decide (Int.gcd a.1 a.2 = 1) := by
    rw [Bool.eq_iff_iff]
    simp
    omega
  rw [e]
  simpa using hQ

theorem fn89 {H0 : Heap} {Q : Post} {a : Frac} (hQ : ∀ H', H0.Le H' → Q (.bool (isFr 1000000000 a)) H') : Runs Tryz.prog 89 #[.agg (frC a).toArray, .int .i64 1000000000] H0 Q := by
  refine f89.enter ?_
  unfold f89.w
  refine Wl.box (Loc.start H0) fun H b h => Wi.fieldAddr0 (Wl.get h rfl (Wi.call (fn70 ?_)))
  have hQ := hQ _ h.le
  unfold isFr at hQ
  cases h1 : inR 1 1000000000 a.2 with
  | false =>
    rw [h1] at hQ
    simp only [gw]
    exact hQ
  | true =>
  rw [h1] at hQ
  simp only [gw]
  refine Wi.fieldAddr0 (Wl.get h rfl (Wi.neg (by unfold I64; omega) (Wi.call (fn70 ?_))))
  cases h2 : inR (-1000000000) 1000000000 a.1 with
  | false =>
    rw [h2] at hQ
    simp only [gw]
    exact hQ
  | true =>
  rw [h2] at hQ
  have k1 := inR_iff.1 h1
  have k2 := inR_iff.1 h2
  simp only [gw]
  refine Wi.fieldAddr0 (Wl.get h rfl (Wi.fieldAddr0 (Wl.get h rfl (Wi.call (fn115 (B64_of k2 (by omega)) (by unfold B64; omega) (Wi.eql ?_))))))
  have e : (((Int.gcd a.1 a.2 : Nat) : Int) == 1) = decide (Int.gcd a.1 a.2 = 1) := by
    rw [Bool.eq_iff_iff]
    simp
    omega
  rw [e]
  simpa using hQ

theorem tdiv_gcd {n d : Int} (h : d ≠ 0) : (n.tdiv (Int.gcd n d) = n / (Int.gcd n d : Int)) ∧ (d.tdiv (Int.gcd n d) = d / (Int.gcd n d : Int)) :=
  ⟨Int.tdiv_eq_ediv_of_dvd (Int.gcd_dvd_left n d), Int.tdiv_eq_ediv_of_dvd (Int.gcd_dvd_right n d)⟩

theorem tdiv_B {a b : Int} (h : B64 a) : B64 (a.tdiv b) := by
  unfold B64 at *
  have := Int.natAbs_tdiv_le_natAbs a b
  omega

theorem B64.i64 {a : Int} (h : B64 a) : I64 a := by unfold B64 at h; unfold I64; omega
theorem B64.neg {a : Int} (h : B64 a) : B64 (-a) := by unfold B64 at *; omega

theorem frac_neg {n d : Int} (hd : d < 0) : frac n d = ((-n).tdiv (Int.gcd (-n) (-d)), (-d).tdiv (Int.gcd (-n) (-d))) := by
  unfold frac
  rw [if_pos hd, Int.neg_tdiv, Int.neg_tdiv, Int.neg_gcd, Int.gcd_neg, (tdiv_gcd (by omega)).1, (tdiv_gcd (by omega)).2]

theorem frac_pos' {n d : Int} (hd : 0 < d) : frac n d = (n.tdiv (Int.gcd n d), d.tdiv (Int.gcd n d)) := by
  unfold frac
  rw [if_neg (by omega), (tdiv_gcd (by omega)).1, (tdiv_gcd (by omega)).2]

theorem fn76 {H0 : Heap} {Q : Post} {n d : Int} (hn : B64 n) (hd : B64 d) (h0 : d ≠ 0) (hQ : ∀ H', H0.Le H' → Q (.agg (frC (frac n d)).toArray) H') : Runs Tryz.prog 76 #[.int .i64 n, .int .i64 d] H0 Q := by
  refine f76.enter ?_
  unfold f76.w
  refine Wl.new (Loc.start H0) fun H b h => ?_
  have key : ∀ n' d' : Int, B64 n' → B64 d' → 0 < d' → frac n d = (n'.tdiv (Int.gcd n' d'), d'.tdiv (Int.gcd n' d')) → f76.j1 Q (pt b 0) (.int .i64 n') (.int .i64 d') H := by
    intro n' d' hn' hd' hp e
    have hg := gcd_pos (n := n') (d := d') (by omega)
    unfold f76.j1
    refine Wi.call (fn115 hn' hd' (Wi.quo (by omega) (tdiv_B hn').i64 (Wi.quo (by omega) (tdiv_B hd').i64 ?_)))
    refine Wi.build (cells := frC (n'.tdiv (Int.gcd n' d'), d'.tdiv (Int.gcd n' d'))) rfl (Wl.putA h rfl rfl rfl fun H h => Wl.getA h rfl ?_)
    have := hQ _ h.le
    rw [e] at this
    exact this
  refine Wi.lssC (fun hlt => Wi.tru ?_) fun hge => Wi.fls ?_
  · exact Wi.neg hn.neg.i64 (Wi.neg hd.neg.i64 (key _ _ hn.neg hd.neg (by omega) (frac_neg hlt)))
  · exact key _ _ hn hd (by omega) (frac_pos' (by omega))

theorem fn75 {H0 : Heap} {Q : Post} {a : Frac} (hQ : ∀ H', H0.Le H' → Q (.tuple #[.agg (frC (if isFr 1000000000 a then (a, 0) else ((0, 0), 3) : Frac × Int).1).toArray, .int .i64 (if isFr 1000000000 a then (a, 0) else ((0, 0), 3) : Frac × Int).2]) H') : Runs Tryz.prog 75 #[.agg (frC a).toArray] H0 Q := by
  refine f75.enter ?_
  unfold f75.w
  refine Wl.box (Loc.start H0) fun H b h => Wl.new h fun H b2 h => Wl.getA h rfl (Wi.call (fn89 fun H l => ?_))
  have h := h.to l
  cases hf : isFr 1000000000 a with
  | false =>
    rw [hf] at hQ
    simp only [gw]
    exact Wi.build (cells := frC (0, 0)) rfl (Wl.putA h rfl rfl rfl fun H h => Wl.getA h rfl (hQ _ h.le))
  | true =>
    rw [hf] at hQ
    simp only [gw]
    exact Wl.getA h rfl (Wl.putA h rfl rfl rfl fun H h => Wl.getA h rfl (hQ _ h.le))

theorem fn87 {H0 : Heap} {Q : Post} {n d : Int} (hn : B64 n) (hd : B64 d) (h0 : d ≠ 0) (hQ : ∀ H', H0.Le H' → Q (.tuple #[.agg (frC (fracT n d).1).toArray, .int .i64 (fracT n d).2]) H') : Runs Tryz.prog 87 #[.int .i64 n, .int .i64 d] H0 Q := by
  refine f87.enter ?_
  unfold f87.w
  have hg := gcd_pos (n := n) h0
  refine Wl.new (Loc.start H0) fun H b h => Wi.call (fn103 hn hd ?_)
  have key : ∀ g : Int, g ≠ 0 → frac n d = (n.tdiv g, d.tdiv g) → f87.j1 Q (.int .i64 n) (.int .i64 d) (pt b 0) (.int .i64 g) H := by
    intro g hg e
    unfold f87.j1
    refine Wi.quo hg (tdiv_B hn).i64 (Wi.quo hg (tdiv_B hd).i64 ?_)
    refine Wi.build (cells := frC (n.tdiv g, d.tdiv g)) rfl (Wl.new h fun H b2 h => Wl.putA h rfl rfl rfl fun H h => Wl.getA h rfl (Wi.call (fn119 (a := (n.tdiv g, d.tdiv g)) fun H l => ?_)))
    have h := h.to l
    unfold fracT at hQ
    rw [e] at hQ
    cases hf : isFr 1000000000 (n.tdiv g, d.tdiv g) with
    | false =>
      rw [hf] at hQ
      simp only [gw]
      exact Wi.build (cells := frC (0, 0)) rfl (Wl.putA h rfl rfl rfl fun H h => Wl.getA h rfl (hQ _ h.le))
    | true =>
      rw [hf] at hQ
      simp only [gw]
      exact Wl.getA h rfl (Wl.putA h rfl rfl rfl fun H h => Wl.getA h rfl (hQ _ h.le))
  have hgB : B64 (Int.gcd n d) := by
    unfold B64 at *
    have := Int.gcd_le_natAbs_right n h0
    omega
  refine Wi.lssC (fun hlt => Wi.tru ?_) fun hge => Wi.fls ?_
  · refine Wi.neg hgB.neg.i64 (key _ (by omega) ?_)
    rw [frac_neg hlt, Int.neg_gcd, Int.gcd_neg, Int.neg_tdiv, Int.neg_tdiv, Int.tdiv_neg, Int.tdiv_neg]
  · exact key _ (by omega) (frac_pos' (by omega))


end Go.Proofs.YtgdiebnokgnniaaGreatDoor
