/- SolutionsOf of the program, any problem: the solutions of all covering sets, each once, in order. No condition. -/
import Derived.Test.YtdmgomeogedjgaaGreatSQ2
import Derived.Test.YtdmgomeogedjgaaGreatGSX
import Derived.Test.YtdmgomeogedjgaaGreatDG1
namespace Go.Proofs.YtdmgomeogedjgaaGreat
open Go.Ab

/- slices.CompactFunc[[][]loop.example/g01343/impl.Frac,[]loop.example/g01343/impl.Frac] -/
def f25.j1 (Q : Post) (k2_7 : Value) (I2 : St [5, 7] → Heap → Prop) (k_5'' : Value) (H : Heap) : Prop :=
  W.bin .add k2_7 (.int .i64 1) H fun v25 H =>
  I2 (k_5'', v25, ()) H
def f25.l2 (Q : Post) (v11 : Value) (eq_1 : Value) (s_0 : Value) (I2 : St [5, 7] → Heap → Prop) (k_5' : Value) (k2_7 : Value) (H : Heap) : Prop :=
  W.len v11 H fun v12 H =>
  W.bin .lss k2_7 v12 H fun v13 H =>
  W.cond v13 H
  (fun H => W.indexAddr 1 v11 k2_7 H fun v14 H =>
   W.get v14 H fun v15 H =>
   W.bin .sub k2_7 (.int .i64 1) H fun v16 H =>
   W.indexAddr 1 v11 v16 H fun v17 H =>
   W.get v17 H fun v18 H =>
   W.callQ Tryz.prog eq_1 #[v15, v18] H fun v19 H =>
   W.un .not v19 H fun v20 H =>
   W.cond v20 H
   (fun H => W.indexAddr 1 v11 k2_7 H fun v21 H =>
    W.get v21 H fun v22 H =>
    W.indexAddr 1 s_0 k_5' H fun v23 H =>
    W.put v23 v22 H fun _ H =>
    W.bin .add k_5' (.int .i64 1) H fun v24 H =>
    f25.j1 Q k2_7 I2 v24 H)
   (fun H => f25.j1 Q k2_7 I2 k_5' H))
  (fun H => W.slice 1 s_0 (some k_5') none H fun v26 H =>
   W.clear [(.slice none 0 0)] v26 H fun _ H =>
   W.slice 1 s_0 none (some k_5') H fun v27 H =>
   Q v27 H)
def f25.l1 (Q : Post) (s_0 : Value) (eq_1 : Value) (I1 : St [5] → Heap → Prop) (k_5 : Value) (H : Heap) : Prop :=
  W.len s_0 H fun v3 H =>
  W.bin .lss k_5 v3 H fun v4 H =>
  W.cond v4 H
  (fun H => W.indexAddr 1 s_0 k_5 H fun v5 H =>
   W.get v5 H fun v6 H =>
   W.bin .sub k_5 (.int .i64 1) H fun v7 H =>
   W.indexAddr 1 s_0 v7 H fun v8 H =>
   W.get v8 H fun v9 H =>
   W.callQ Tryz.prog eq_1 #[v6, v9] H fun v10 H =>
   W.cond v10 H
   (fun H => W.slice 1 s_0 (some k_5) none H fun v11 H =>
    W.loop (S := St [5, 7]) (fun I2 s H => f25.l2 Q v11 eq_1 s_0 I2 s.1 s.2.1 H) (k_5, (.int .i64 1), ()) H)
   (fun H => W.bin .add k_5 (.int .i64 1) H fun v28 H =>
    I1 (v28, ()) H))
  (fun H => Q s_0 H)
def f25.w (Q : Post) (s_0 : Value) (eq_1 : Value) (H : Heap) : Prop :=
  W.len s_0 H fun v1 H =>
  W.bin .lss v1 (.int .i64 2) H fun v2 H =>
  W.cond v2 H
  (fun H => Q s_0 H)
  (fun H => W.loop (S := St [5]) (fun I1 s H => f25.l1 Q s_0 eq_1 I1 s.1 H) ((.int .i64 1), ()) H)
theorem f25.enter {Q : Post} {s_0 : Value} {eq_1 : Value} {H : Heap} (h : f25.w Q s_0 eq_1 H) : Runs Tryz.prog 25 #[s_0, eq_1] H Q :=
  fn_enter (ann := [(4, [5]), (9, [5, 7])]) (by kernel_rfl) Tryz.func25 rfl (by kernel_rfl) h (by kernel_rfl)

/- loop.example/g01343/impl.SolutionsOf$1 -/
def f26.w (Q : Post) (a_0 : Value) (b_1 : Value) (H : Heap) : Prop :=
  W.call Tryz.prog (.func (.func 24) #[] #[]) #[a_0, b_1] H fun v1 H =>
  W.bin .eql v1 (.int .i64 0) H fun v2 H =>
  Q v2 H
theorem f26.enter {Q : Post} {a_0 : Value} {b_1 : Value} {H : Heap} (h : f26.w Q a_0 b_1 H) : Runs Tryz.prog 26 #[a_0, b_1] H Q :=
  fn_enter (ann := []) (by kernel_rfl) Tryz.func26 rfl (by kernel_rfl) h (by kernel_rfl)

/- loop.example/g01343/impl.SolutionsOf -/
def f8.l1 (Q : Post) (v7 : Value) (v4 : Value) (v1 : Value) (I1 : St [6, 21] → Heap → Prop) (out_6 : Value) (x_21 : Value) (H : Heap) : Prop :=
  W.bin .lss x_21 v7 H fun v8 H =>
  W.cond v8 H
  (fun H => W.indexAddr 1 v4 x_21 H fun v9 H =>
   W.get v9 H fun v10 H =>
   W.getN 2 v1 H fun v11 H =>
   W.call Tryz.prog (.func (.func 22) #[] #[]) #[v11, v10] H fun v12 H =>
   W.extract 0 v12 H fun v13 H =>
   W.extract 1 v12 H fun v14 H =>
   W.bin .neq v14 (.int .i64 0) H fun v15 H =>
   W.cond v15 H
   (fun H => Q (.tuple #[(.slice none 0 0), v14]) H)
   (fun H => W.lit 1 [(.slice none 0 0)] 38 [(0, 1, v13)] H fun v16 H =>
    W.append 1 38 out_6 v16 H fun v17 H =>
    W.bin .add x_21 (.int .i64 1) H fun v18 H =>
    I1 (v17, v18, ()) H))
  (fun H => W.call Tryz.prog (.func (.func 23) #[] #[]) #[out_6, (.func (.func 24) #[] #[])] H fun v19 H =>
   W.call Tryz.prog (.func (.func 25) #[] #[]) #[out_6, (.func (.func 26) #[] #[])] H fun v20 H =>
   Q (.tuple #[v20, (.int .i64 0)]) H)
def f8.w (Q : Post) (p_0 : Value) (H : Heap) : Prop :=
  W.box p_0 31 H fun v1 H =>
  W.getN 2 v1 H fun v2 H =>
  W.call Tryz.prog (.func (.func 21) #[] #[]) #[v2] H fun v3 H =>
  W.extract 0 v3 H fun v4 H =>
  W.extract 1 v3 H fun v5 H =>
  W.bin .neq v5 (.int .i64 0) H fun v6 H =>
  W.cond v6 H
  (fun H => Q (.tuple #[(.slice none 0 0), v5]) H)
  (fun H => W.len v4 H fun v7 H =>
   W.loop (S := St [6, 21]) (fun I1 s H => f8.l1 Q v7 v4 v1 I1 s.1 s.2.1 H) ((.slice none 0 0), (.int .i64 0), ()) H)
theorem f8.enter {Q : Post} {p_0 : Value} {H : Heap} (h : f8.w Q p_0 H) : Runs Tryz.prog 8 #[p_0] H Q :=
  fn_enter (ann := [(6, [6, 21])]) (by kernel_rfl) Tryz.func8 rfl (by kernel_rfl) h (by kernel_rfl)


/-! ### Lists in order, each once -/

abbrev IncL (ys : List (List Frac)) : Prop := ys.Pairwise fun a b => cmpL a b < 0

theorem cmpL_asym {m : Nat} {A B : List Frac} (hA : LowL m A) (hB : LowL m B) (h : cmpL A B < 0) : ¬ cmpL B A < 0 := by
  have := cmpL_neg (A := A) (B := B) (by rw [hA.1, hB.1])
  omega

theorem inc_uniq {m : Nat} : ∀ {xs ys : List (List Frac)}, (∀ z ∈ xs, LowL m z) → (∀ z ∈ ys, LowL m z) → IncL xs → IncL ys → (∀ z, z ∈ xs ↔ z ∈ ys) → xs = ys
  | [], [], _, _, _, _, _ => rfl
  | [], y :: ys, _, _, _, _, h => absurd ((h y).2 List.mem_cons_self) (by simp)
  | x :: xs, [], _, _, _, _, h => absurd ((h x).1 List.mem_cons_self) (by simp)
  | x :: xs, y :: ys, lx, ly, px, py, h => by
    have px' := List.pairwise_cons.1 px
    have py' := List.pairwise_cons.1 py
    have e : x = y := by
      rcases List.mem_cons.1 ((h x).1 List.mem_cons_self) with e | hx
      · exact e
      · rcases List.mem_cons.1 ((h y).2 List.mem_cons_self) with e | hy
        · exact e.symm
        · exact absurd (px'.1 y hy) (cmpL_asym (ly _ List.mem_cons_self) (lx _ List.mem_cons_self) (py'.1 x hx))
    subst e
    have key : ∀ z, z ∈ xs ↔ z ∈ ys := fun z => by
      constructor
      · intro hz
        rcases List.mem_cons.1 ((h z).1 (List.mem_cons_of_mem _ hz)) with e | hz'
        · subst e
          have := px'.1 z hz
          rw [cmpL_self] at this
          exact absurd this (by decide)
        · exact hz'
      · intro hz
        rcases List.mem_cons.1 ((h z).2 (List.mem_cons_of_mem _ hz)) with e | hz'
        · subst e
          have := py'.1 z hz
          rw [cmpL_self] at this
          exact absurd this (by decide)
        · exact hz'
    rw [inc_uniq (fun z hz => lx z (List.mem_cons_of_mem _ hz)) (fun z hz => ly z (List.mem_cons_of_mem _ hz)) px'.2 py'.2 key]

/-- The solutions of a problem. -/
structure SolsOf (n : Nat) (p : Prob) (ys : List (List Frac)) : Prop where
  inc : IncL ys
  mem : ∀ z, z ∈ ys ↔ ∃ s ∈ covN n p, z = solF n p s

theorem covN_ok2 {n : Nat} {p : Prob} {s : Nat} (h : s ∈ covN n p) : s < 2 ^ n ∧ det n (mAt (colL n p.1 s)) ≠ 0 ∧ ∀ x ∈ ptOf n p s, 0 ≤ x := by
  unfold covN at h
  rw [List.mem_filter, List.mem_range] at h
  obtain ⟨h1, h2⟩ := h
  unfold covB at h2
  rw [Bool.and_eq_true] at h2
  exact ⟨h1, of_decide_eq_true h2.1, fun x hx => of_decide_eq_true (List.all_eq_true.1 h2.2 x hx)⟩

theorem solF_cov {n : Nat} {p : Prob} {s : Nat} (hp : PB n p) (hs : s ∈ covN n p) : LowL n (solF n p s) := ⟨by simp [solF], solF_fr hp (covN_ok2 hs).2.1⟩

theorem SolsOf.low {n : Nat} {p : Prob} {ys : List (List Frac)} (h : SolsOf n p ys) (hp : PB n p) : ∀ z ∈ ys, LowL n z := fun z hz => by
  obtain ⟨s, hs, rfl⟩ := (h.mem z).1 hz
  exact solF_cov hp hs

theorem SolsOf.uniq {n : Nat} {p : Prob} {xs ys : List (List Frac)} (h : SolsOf n p xs) (k : SolsOf n p ys) (hp : PB n p) : xs = ys :=
  inc_uniq (h.low hp) (k.low hp) h.inc k.inc fun z => (h.mem z).trans (k.mem z).symm

/-! ### What is left of equal neighbours -/

def kp {m : Nat} (f : Nat → El m) (k : Nat) : Bool := k == 0 || decide ((f k).1.2 ≠ (f (k - 1)).1.2)
def ddI {m : Nat} (f : Nat → El m) (x : Nat) : List Nat := (List.range x).filter (kp f)

theorem ddI_step {m : Nat} {f : Nat → El m} {x : Nat} : ddI f (x + 1) = ddI f x ++ (if kp f x = true then [x] else []) := by
  unfold ddI
  rw [List.range_succ, List.filter_append]
  congr 1
  by_cases h : kp f x = true
  · simp [h]
  · simp [h]

theorem ddI_all {m : Nat} {f : Nat → El m} {x : Nat} (h : ∀ k, k < x → kp f k = true) : ddI f x = List.range x := by
  unfold ddI
  rw [List.filter_eq_self]
  exact fun k hk => h k (by simpa using hk)

/-- Of a sorted list, what is left is in order, each once, and nothing is lost. -/
theorem dd_sols {n N : Nat} {p : Prob} {f g : Nat → El n} (hs : Sw 0 N f g) (hr : Srt ltE g 0 N) (hl : N = (covN n p).length) (hf : ∀ k (hk : k < (covN n p).length), (f k).1.2 = solF n p (covN n p)[k]) : SolsOf n p ((ddI g N).map fun k => (g k).1.2) := by
  have o := ltE_swo n
  have hle : ∀ i j, i ≤ j → j < N → ltE (g j) (g i) = false := fun i j hij hj => by
    by_cases e : i = j
    · subst e; exact o.irr _
    · exact hr i j (by omega) (by omega) hj
  refine ⟨?_, fun z => ?_⟩
  · rw [IncL, List.pairwise_map]
    refine List.Pairwise.imp_of_mem (R := fun a b => a < b) (fun {i j} hi hj hij => ?_) ?_
    · have hj1 := List.mem_filter.1 hj
      have hjN : j < N := by simpa using hj1.1
      have hk := hj1.2
      unfold kp at hk
      rw [Bool.or_eq_true, beq_iff_eq, decide_eq_true_iff] at hk
      have hne : (g j).1.2 ≠ (g (j - 1)).1.2 := hk.resolve_left (by omega)
      have h1 := hle (j - 1) j (by omega) hjN
      have h2 := hle i (j - 1) (by omega) (by omega)
      have h3 : ltE (g (j - 1)) (g j) = true := by
        have q1 := of_decide_eq_false h1
        have q2 : cmpL (g j).1.2 (g (j - 1)).1.2 ≠ 0 := fun e => hne (cmpL_eq (g j).2 (g (j - 1)).2 e)
        have q3 := cmpL_neg (A := (g j).1.2) (B := (g (j - 1)).1.2) (by rw [(g j).2.1, (g (j - 1)).2.1])
        exact decide_eq_true (by omega)
      cases h4 : ltE (g i) (g j) with
      | true => exact of_decide_eq_true h4
      | false =>
        have := o.tr h4 h2
        rw [h3] at this
        cases this
    · exact List.Pairwise.filter _ List.pairwise_lt_range
  · constructor
    · intro hz
      obtain ⟨k, hk, rfl⟩ := List.mem_map.1 hz
      have hkN : k < N := by simpa using (List.mem_filter.1 hk).1
      obtain ⟨q, _, hq, e⟩ := hs.mem k (by omega) hkN
      refine ⟨(covN n p)[q]'(by omega), List.getElem_mem _, ?_⟩
      rw [e]
      exact hf q (by omega)
    · rintro ⟨s, hsm, rfl⟩
      obtain ⟨q, hq, rfl⟩ := List.mem_iff_getElem.1 hsm
      obtain ⟨k, _, hk, e⟩ := hs.symm.mem q (by omega) (by omega)
      rw [← hf q hq, e]
      clear e
      induction k with
      | zero => exact List.mem_map.2 ⟨0, List.mem_filter.2 ⟨by simpa using hk, rfl⟩, rfl⟩
      | succ k ih =>
        by_cases c : kp g (k + 1) = true
        · exact List.mem_map.2 ⟨k + 1, List.mem_filter.2 ⟨by simpa using hk, c⟩, rfl⟩
        · unfold kp at c
          rw [Bool.or_eq_true, beq_iff_eq, decide_eq_true_iff] at c
          have e : (g (k + 1)).1.2 = (g k).1.2 := Classical.byContradiction fun q => c (.inr q)
          rw [e]
          exact ih (by omega) (by omega)

section
variable {H0 H : Heap} {L : List (Atom H0.next)} {m n : Nat} {v : Value} {tbl : List (Value × List Frac)} {f : Nat → El m} {K Q : Post} {κ : IntKind}

abbrev eqV : Value := .func (.func 26) #[] #[]

theorem SSt.eqq {i j : Nat} (h : SSt L m n v tbl f H) (hi : i < n) (hj : j < n) (k : ∀ H', SSt L m n v tbl f H' → K (.bool (decide ((f i).1.2 = (f j).1.2))) H') : W.callQ Tryz.prog eqV #[(f i).1.1, (f j).1.1] H K :=
  Wi.callQ (f26.enter (Wi.call (fnQ24 (f i).2 (f j).2 (h.has hi) (h.has hj) fun H' l => Wi.eql ⟨l, by
    have e : (cmpL (f i).1.2 (f j).1.2 == 0) = decide ((f i).1.2 = (f j).1.2) := by
      rw [Bool.eq_iff_iff, beq_iff_eq, decide_eq_true_iff]
      exact ⟨cmpL_eq (f i).2 (f j).2, fun e => by rw [e]; exact cmpL_self _⟩
    rw [e]
    exact k H' (h.to l)⟩)))

theorem SSt.set1 {i : Nat} {x : El m} (h : SSt L m n v tbl f H) (hi : i < n) (hx : x.1 ∈ tbl) (k : ∀ H', SSt L m n v tbl (fun y => if y = i then x else f y) H' → K undef H') : W.indexAddr 1 v (.int κ i) H fun p H => W.put p x.1.1 H K := by
  have cx := ((h.1.rd (cs := []) (r := Rd.bag RFS) (x := tbl)).bag hx).cell1
  refine Wl.setRawG (us := (List.range n).map fun k => (f k).1.1) (j := 0) h.1 rfl (by simpa using hi) cx fun H1 h1 => k H1 ⟨?_, fun y hy => ?_⟩
  · have h1 : Ab.Loc H0 (.grow Rd.raw 38 v (((List.range n).map fun k => (f k).1.1).set i x.1.1) :: .view (Rd.bag RFS) [] tbl :: L) H1 := h1
    have e : ((List.range n).map fun k => (f k).1.1).set i x.1.1 = (List.range n).map fun k => (if k = i then x else f k).1.1 := by
      apply List.ext_getElem
      · simp
      · intro y h1 h2
        rw [List.getElem_set]
        simp only [List.getElem_map, List.getElem_range]
        by_cases c : i = y
        · subst c; rw [if_pos rfl, if_pos rfl]
        · rw [if_neg c, if_neg fun e => c e.symm]
    rw [e] at h1
    exact h1
  · show (if y = i then x else f y).1 ∈ tbl
    split
    · exact hx
    · exact h.2 y hy

theorem SSt.all {H : Heap} (h : SSt L m n v tbl f H) : Has (Rd.slice RFS) H [v] ((List.range n).map fun k => (f k).1.2) :=
  (h.1.rd (cs := []) (r := Rd.bag RFS) (x := tbl)).rowsB rfl (h.1.rd (cs := [v]) (r := Rd.slice Rd.raw)) (by simp) fun i hi => by
    have hin : i < n := by simpa using hi
    simp only [List.getElem_map, List.getElem_range]
    exact h.2 i hin

theorem fnQ25 (h : SSt L m n v tbl f H) (hn : n ≤ 1000) (hQ : ∀ H' w, H0.Le H' → Has (Rd.slice RFS) H' [w] ((ddI f n).map fun k => (f k).1.2) → Q w H') : Runs Tryz.prog 25 #[v, eqV] H Q := by
  refine f25.enter ?_
  unfold f25.w
  have len : ∀ {K : Post} {H} {g : Nat → El m}, SSt L m n v tbl g H → K (.int .i64 (n : Nat)) H → W.len v H K := fun {K H g} h hk => Wl.lenH (h.1.rd (cs := [v]) (r := Rd.slice Rd.raw)) (by rw [List.length_map, List.length_range]; exact hk)
  have whole : ∀ H, SSt L m n v tbl f H → (∀ k, k < n → kp f k = true) → Q v H := fun H h hk => hQ H v h.1.le (by rw [ddI_all hk]; exact h.all)
  refine len h (Wi.lssC (fun h2 => Wi.tru (whole _ h fun k hk => by rw [show k = 0 by omega]; rfl)) fun h2 => Wi.fls ?_)
  refine W.for_rule n (fun t st H => st = (.int .i64 ((1 + t : Nat) : Int), ()) ∧ SSt L m n v tbl f H ∧ ∀ k, k < 1 + t → kp f k = true) ⟨rfl, h, fun k hk => by rw [show k = 0 by omega]; rfl⟩ ?_
  rintro t st H J ht ⟨rfl, h, hall⟩ hJ
  unfold f25.l1
  refine len h (Wi.lssC (fun hlt => Wi.tru ?_) fun hge => Wi.fls (whole _ h fun k hk => hall k (by omega)))
  obtain ⟨k0, hk0⟩ : ∃ k0, k0 = 1 + t := ⟨_, rfl⟩
  rw [← hk0] at hall hlt ⊢
  have hkn : k0 < n := by omega
  refine h.get (i := k0) hkn (Wi.sub (by unfold I64; omega) ?_)
  rw [show (k0 : Int) - 1 = ((k0 - 1 : Nat) : Int) by omega]
  refine h.get (i := k0 - 1) (by omega) (h.eqq (i := k0) (j := k0 - 1) hkn (by omega) fun H h => ?_)
  by_cases he : (f k0).1.2 = (f (k0 - 1)).1.2
  rotate_left
  · rw [decide_eq_false he]
    refine Wi.fls (Wi.add (by unfold I64; omega) (hJ _ _ (by omega) ⟨by congr 2 <;> omega, h, fun k hk => ?_⟩))
    by_cases e : k = k0
    · subst e
      unfold kp
      rw [decide_eq_true he, Bool.or_true]
    · exact hall k (by omega)
  rw [decide_eq_true he]
  have hkp : kp f k0 = false := by
    unfold kp
    rw [decide_eq_false fun q => q he, Bool.or_false]
    simp
    omega
  refine Wi.tru (Wl.tailG (j := 0) h.1 rfl (by omega) (by simpa using hkn) fun w hw => ?_)
  rw [List.length_map, List.length_range] at hw
  have hd0 : ddI f (k0 + 1) = List.range k0 := by
    rw [ddI_step, hkp, ddI_all hall]
    simp
  refine W.for_rule n (fun t2 st H => ∃ (kk : Nat) (g : Nat → El m), st = (.int .i64 (kk : Nat), .int .i64 ((1 + t2 : Nat) : Int), ()) ∧ k0 + 1 + t2 ≤ n ∧ 1 ≤ kk ∧ kk ≤ k0 + t2 ∧ kk = (ddI f (k0 + 1 + t2)).length ∧ SSt L m n v tbl g H ∧ (∀ y, k0 + t2 ≤ y → y < n → g y = f y) ∧ ∀ y (hy : y < (ddI f (k0 + 1 + t2)).length), g y = f ((ddI f (k0 + 1 + t2))[y])) ⟨k0, f, rfl, by omega, by omega, by omega, by rw [Nat.add_zero, hd0]; simp, h, fun _ _ _ => rfl, fun y hy => by simp only [Nat.add_zero, hd0, List.getElem_range]⟩ ?_
  rintro t2 st H J2 ht2 ⟨kk, g, rfl, hx, hk1, hk2, hkl, h, hg1, hg2⟩ hJ2
  unfold f25.l2
  refine hw.len (Wi.lssC (fun hlt2 => Wi.tru ?_) fun hge2 => Wi.fls ?_)
  · have hxn : k0 + 1 + t2 < n := by omega
    have est := ddI_step (f := f) (x := k0 + 1 + t2)
    have at1 : ∀ {K : Post} {H} (i : Nat), SSt L m n v tbl g H → k0 + i < n → K (g (k0 + i)).1.1 H → W.indexAddr 1 w (.int .i64 (i : Nat)) H fun p H => W.get p H K := fun {K H} i h hi hk => by
      refine hw.at (us := (List.range n).map fun k => (g k).1.1) (h.1.rd (cs := [v]) (r := Rd.slice Rd.raw)) (by simp) (by simpa using hi) ?_
      simp only [List.getElem_map, List.getElem_range]
      exact hk
    have e1 : g (k0 + (1 + t2)) = f (k0 + 1 + t2) := by rw [hg1 _ (by omega) (by omega)]; congr 1; omega
    have e2 : g (k0 + t2) = f (k0 + 1 + t2 - 1) := by rw [hg1 _ (by omega) (by omega)]; congr 1; omega
    refine at1 (1 + t2) h (by omega) (Wi.sub (by unfold I64; omega) ?_)
    rw [show ((1 + t2 : Nat) : Int) - 1 = (t2 : Nat) by omega]
    refine at1 t2 h (by omega) (h.eqq (i := k0 + (1 + t2)) (j := k0 + t2) (by omega) (by omega) fun H h => Wi.not ?_)
    rw [e1, e2]
    by_cases hc : (f (k0 + 1 + t2)).1.2 = (f (k0 + 1 + t2 - 1)).1.2
    · rw [decide_eq_true hc]
      have hkf : kp f (k0 + 1 + t2) = false := by
        unfold kp
        rw [decide_eq_false fun q => q hc, Bool.or_false]
        exact beq_eq_false_iff_ne.2 (by omega)
      rw [hkf, if_neg (by decide), List.append_nil] at est
      unfold f25.j1
      refine Wi.fls (Wi.add (by unfold I64; omega) (hJ2 _ _ (by omega) ⟨kk, g, by congr 3 <;> omega, by omega, hk1, by omega, ?_, h, fun y y1 y2 => hg1 y (by omega) y2, ?_⟩))
      · rw [show k0 + 1 + (t2 + 1) = k0 + 1 + t2 + 1 by omega, est]; exact hkl
      · intro y hy
        simp only [show k0 + 1 + (t2 + 1) = k0 + 1 + t2 + 1 by omega, est] at hy ⊢
        exact hg2 y hy
    · rw [decide_eq_false hc]
      have hkt : kp f (k0 + 1 + t2) = true := by
        unfold kp
        rw [decide_eq_true hc, Bool.or_true]
      rw [hkt, if_pos rfl] at est
      refine Wi.tru (at1 (1 + t2) h (by omega) ?_)
      rw [e1]
      refine h.set1 (i := kk) (by omega) (by rw [← e1]; exact h.2 _ (by omega)) fun H h => Wi.add (by unfold I64; omega) ?_
      unfold f25.j1
      refine Wi.add (by unfold I64; omega) (hJ2 _ _ (by omega) ⟨kk + 1, _, by congr 3 <;> omega, by omega, by omega, by omega, ?_, h, fun y y1 y2 => ?_, ?_⟩)
      · rw [show k0 + 1 + (t2 + 1) = k0 + 1 + t2 + 1 by omega, est, List.length_append, ← hkl]; rfl
      · show (if y = kk then _ else g y) = f y
        rw [if_neg (by omega)]
        exact hg1 y (by omega) y2
      · intro y hy
        simp only [show k0 + 1 + (t2 + 1) = k0 + 1 + t2 + 1 by omega, est] at hy ⊢
        show (if y = kk then _ else g y) = _
        rw [List.length_append, ← hkl] at hy
        by_cases c : y = kk
        · subst c
          rw [if_pos rfl]
          congr 1
          rw [List.getElem_append_right (by omega)]
          simp
        · rw [if_neg c]
          have hyk : y < (ddI f (k0 + 1 + t2)).length := by simp at hy; omega
          rw [hg2 y hyk]
          congr 1
          rw [List.getElem_append_left hyk]
  · have hxe : k0 + 1 + t2 = n := by omega
    rw [hxe] at hkl hg2
    have hkn2 : kk < n := by omega
    refine Wl.clearG (us := (List.range n).map fun k => (g k).1.1) (j := 0) h.1 rfl hk1 (by simpa using hkn2) fun H h2 => ?_
    have h2 : Ab.Loc H0 (.grow Rd.raw 38 v (((List.range n).map fun k => (g k).1.1).take kk ++ List.replicate (((List.range n).map fun k => (g k).1.1).length - kk) (.slice none 0 0)) :: .view (Rd.bag RFS) [] tbl :: L) H := h2
    have hl0 : (((List.range n).map fun k => (g k).1.1).take kk).length = kk := by simp; omega
    refine Wl.cutLoH (h2.rd (cs := [v]) (r := Rd.slice Rd.raw)) (by simp; omega) fun w2 hw2 => ?_
    rw [List.take_append_of_le_length (by omega), List.take_of_length_le (by omega)] at hw2
    refine hQ H w2 h2.le ((h2.rd (cs := []) (r := Rd.bag RFS) (x := tbl)).rowsB rfl hw2 (by rw [hl0, List.length_map]; exact hkl) fun i hi => ?_)
    have hik : i < kk := by rw [hl0] at hi; exact hi
    have e := hg2 i (by omega)
    simp only [List.getElem_take, List.getElem_map, List.getElem_range]
    rw [e]
    have := h.2 i (by omega)
    rw [e] at this
    exact this

end

/-- A list to begin with. -/
theorem zero_low (n : Nat) : LowL n (List.replicate n ((0, 1) : Frac)) := ⟨by simp, fun a ha => by rw [List.eq_of_mem_replicate ha]; decide +kernel⟩

theorem fnQ8 {H0 : Heap} {Q : Post} {cs : List Value} {p : Prob} (hr : Has RProblem H0 cs p) (h1 : isProb p = false → ∀ H', H0.Le H' → Q (.tuple #[.slice none 0 0, .int .i64 1]) H')
    (h2 : isProb p = true → ∀ H' w ys, H0.Le H' → Has (Rd.slice RFS) H' [w] ys → SolsOf p.2.length p ys → Q (.tuple #[w, .int .i64 0]) H') : Runs Tryz.prog 8 #[.agg cs.toArray] H0 Q := by
  have hlen := hr.len
  have h := (Loc.start H0).lent hr
  refine f8.enter ?_
  unfold f8.w
  refine Wl.box h fun H b h => Wl.getA h hlen (Wi.call (fn21 (h.rd (cs := cs)) fun H v4 f => ?_))
  have h := h.add f
  cases hp : isProb p with
  | false =>
    have ecv : cvRes p = ([], 1) := by unfold cvRes; rw [if_neg (by rw [hp]; decide)]
    rw [ecv]
    simp only [gw]
    exact Wi.neqC (fun _ => Wi.tru (h1 hp _ h.le)) fun g => absurd g (by decide)
  | true =>
  have hpb := PB.of hp
  have h32 := pow5 hpb.n5
  have hcl := covN_len p.2.length p
  have ecv : cvRes p = (covL p.2.length p, 0) := by unfold cvRes; rw [if_pos hp]
  rw [ecv, covL_map] at h
  rw [ecv]
  simp only [gw]
  refine Wi.neqC (fun g => absurd rfl g) fun _ => Wi.fls ?_
  refine Wl.len (v := v4) (xs := (covN p.2.length p).map fun (s : Nat) => (s : Int)) h ?_
  rw [List.length_map]
  obtain ⟨M, hM⟩ : ∃ M, M = p.2.length := ⟨_, rfl⟩
  obtain ⟨S, hS⟩ : ∃ S, S = covN p.2.length p := ⟨_, rfl⟩
  have h := (h.bag0 RFS).nilG Rd.raw 38
  have low : ∀ s ∈ covN p.2.length p, LowL p.2.length (solF p.2.length p s) := fun s hs => solF_cov hpb hs
  rw [← hS] at hcl ⊢
  refine W.for_rule S.length (fun x st H => ∃ (out : Value) (hs : Nat → El p.2.length), st = (out, .int .i64 (x : Nat), ()) ∧ SSt (H0 := H0) [.data RS [v4] (S.map fun (s : Nat) => (s : Int)), .box b cs, .lent RProblem cs p] p.2.length x out ((List.range x).map fun k => (hs k).1) hs H ∧ ∀ k (hk : k < S.length), k < x → (hs k).1.2 = solF p.2.length p S[k]) ⟨.slice none 0 0, fun _ => ⟨(undef, List.replicate p.2.length (0, 1)), zero_low _⟩, rfl, ⟨by rw [hS]; exact h, fun k hk => by omega⟩, fun k _ hk => by omega⟩ ?_
  rintro x st H J hx ⟨out, hs, rfl, h, hval⟩ hJ
  unfold f8.l1
  refine Wi.lssC (fun hlt => Wi.tru ?_) fun hge => Wi.fls ?_
  · have hxl : x < S.length := by omega
    have hmem : S[x] ∈ covN p.2.length p := by rw [← hS]; exact List.getElem_mem hxl
    obtain ⟨g1, g2, g3⟩ := covN_ok2 hmem
    refine Wl.atInt (v := v4) (xs := S.map fun (s : Nat) => (s : Int)) (i := x) h.1 (by simpa using hxl) fun _ => ?_
    rw [List.getElem_map]
    refine Wl.getA (b := b) h.1 hlen (Wi.call (fn22 (h.1.rd (cs := cs)) hp g1 g2 g3 fun H u f => ?_))
    have et : tolF (solF p.2.length p S[x]) = (solF p.2.length p S[x], 0) := by
      unfold tolF
      rw [if_pos (List.all_eq_true.2 (low _ hmem).2)]
    rw [et] at f ⊢
    have h2 := h.1.add f
    have hcu := (h2.rd (cs := [u]) (r := RFS) (x := solF p.2.length p S[x])).one
    have hc1 := (h2.rd (cs := [u]) (r := RFS) (x := solF p.2.length p S[x])).cell1
    simp only [gw]
    refine Wi.neqC (fun g => absurd rfl g) fun _ => Wi.fls ?_
    refine Wl.pushP (r := Rd.raw) (x := u) (i := 1) rfl rfl hcu (fun _ => ⟨rfl, rfl, hc1⟩) h2 (by simp; omega) fun H out' h3 => ?_
    have h3 : Ab.Loc H0 (.data RFS [u] (solF p.2.length p S[x]) :: .grow Rd.raw 38 out' (((List.range x).map fun k => (hs k).1.1) ++ [u]) :: .view (Rd.bag RFS) [] ((List.range x).map fun k => (hs k).1) :: [.data RS [v4] (S.map fun (s : Nat) => (s : Int)), .box b cs, .lent RProblem cs p]) H := h3
    have h3 := (h3.front 2 rfl).front 1 rfl
    have h3 : Ab.Loc H0 (.data RFS [u] (solF p.2.length p S[x]) :: .view (Rd.bag RFS) [] ((List.range x).map fun k => (hs k).1) :: .grow Rd.raw 38 out' (((List.range x).map fun k => (hs k).1.1) ++ [u]) :: [.data RS [v4] (S.map fun (s : Nat) => (s : Int)), .box b cs, .lent RProblem cs p]) H := h3
    have h3 := h3.bagAdd.front 1 rfl
    have ex : ∀ k, k < x → (if k = x then (⟨(u, solF p.2.length p S[x]), low _ hmem⟩ : El p.2.length) else hs k) = hs k := fun k hk => if_neg (by omega)
    have t1 : ((List.range (x + 1)).map fun k => (if k = x then (⟨(u, solF p.2.length p S[x]), low _ hmem⟩ : El p.2.length) else hs k).1) = ((List.range x).map fun k => (hs k).1) ++ [(u, solF p.2.length p S[x])] := by
      rw [List.range_succ, List.map_append]
      congr 1
      · exact List.map_congr_left fun k hk => by rw [ex k (by simpa using hk)]
      · simp
    have t2 : ((List.range (x + 1)).map fun k => (if k = x then (⟨(u, solF p.2.length p S[x]), low _ hmem⟩ : El p.2.length) else hs k).1.1) = ((List.range x).map fun k => (hs k).1.1) ++ [u] := by
      rw [List.range_succ, List.map_append]
      congr 1
      · exact List.map_congr_left fun k hk => by rw [ex k (by simpa using hk)]
      · simp
    refine Wi.add (by unfold I64; omega) (hJ _ _ hxl ⟨out', fun k => if k = x then ⟨(u, solF p.2.length p S[x]), low _ hmem⟩ else hs k, rfl, ⟨?_, fun k hk => List.mem_map.2 ⟨k, by simpa using hk, rfl⟩⟩, fun k hk hkx => ?_⟩)
    · rw [t1, t2]
      exact h3
    · show (if k = x then _ else hs k).1.2 = _
      by_cases c : k = x
      · subst c; rw [if_pos rfl]
      · rw [if_neg c]; exact hval k hk (by omega)
  · have hxe : x = S.length := by omega
    subst hxe
    refine Wi.call (fnQ23 h (by omega) fun H g h hsw hsr => ?_)
    refine Wi.call (fnQ25 h (by omega) fun H w l hw => ?_)
    exact h2 hp H w _ l hw (dd_sols hsw hsr (by rw [hS]) fun k hk => by
      have := hval k (by rw [hS]; exact hk) (by rw [hS]; exact hk)
      rw [this]
      congr 1
      simp only [hS])

end Go.Proofs.YtdmgomeogedjgaaGreat
