/- Contracts and facts for the law FnCones: kinds of matrices, draws, sums, covers of P matrices. No condition. -/
import Derived.Test.YthfcodelpebjcaaGreatDG1
import Derived.Test.YthfcodelpebjcaaGreatCN2
import Derived.Test.YthfcodelpebjcaaGreatGDR
import Derived.Test.YthfcodelpebjcaaGreatZabPmat
namespace Go.Proofs.YthfcodelpebjcaaGreat
open Go.Ab

/- loop.example/g01343/impl.IsOfKind -/
def f20.w (Q : Post) (m_0 : Value) (kind_1 : Value) (H : Heap) : Prop :=
  W.call Tryz.prog (.func (.func 66) #[] #[]) #[m_0] H fun v1 H =>
  W.un .not v1 H fun v2 H =>
  W.cond v2 H
  (fun H => Q (.tuple #[(.bool false), (.int .i64 1)]) H)
  (fun H => W.call Tryz.prog (.func (.func 57) #[] #[]) #[kind_1, (.int .i64 0), (.int .i64 11)] H fun v3 H =>
   W.un .not v3 H fun v4 H =>
   W.cond v4 H
   (fun H => Q (.tuple #[(.bool false), (.int .i64 2)]) H)
   (fun H => W.call Tryz.prog (.func (.func 67) #[] #[]) #[m_0, kind_1] H fun v5 H =>
    Q (.tuple #[v5, (.int .i64 0)]) H))
theorem f20.enter {Q : Post} {m_0 : Value} {kind_1 : Value} {H : Heap} (h : f20.w Q m_0 kind_1 H) : Runs Tryz.prog 20 #[m_0, kind_1] H Q :=
  fn_enter (ann := []) (by kernel_rfl) Tryz.func20 rfl (by kernel_rfl) h (by kernel_rfl)

/- loop.example/g01343/impl.isOfKind -/
def f67.w (Q : Post) (m_0 : Value) (kind_1 : Value) (H : Heap) : Prop :=
  W.box m_0 24 H fun v1 H =>
  W.bin .eql kind_1 (.int .i64 0) H fun v2 H =>
  W.cond v2 H
  (fun H => W.get v1 H fun v3 H =>
   W.call Tryz.prog (.func (.func 100) #[] #[]) #[v3, (.int .i64 1)] H fun v4 H =>
   Q v4 H)
  (fun H => W.bin .eql kind_1 (.int .i64 1) H fun v5 H =>
   W.cond v5 H
   (fun H => W.get v1 H fun v6 H =>
    W.call Tryz.prog (.func (.func 100) #[] #[]) #[v6, (.int .i64 0)] H fun v7 H =>
    Q v7 H)
   (fun H => W.bin .eql kind_1 (.int .i64 2) H fun v8 H =>
    W.cond v8 H
    (fun H => W.get v1 H fun v9 H =>
     W.call Tryz.prog (.func (.func 101) #[] #[]) #[v9] H fun v10 H =>
     Q v10 H)
    (fun H => W.bin .eql kind_1 (.int .i64 3) H fun v11 H =>
     W.cond v11 H
     (fun H => W.get v1 H fun v12 H =>
      W.call Tryz.prog (.func (.func 102) #[] #[]) #[v12] H fun v13 H =>
      Q v13 H)
     (fun H => W.bin .eql kind_1 (.int .i64 4) H fun v14 H =>
      W.cond v14 H
      (fun H => W.get v1 H fun v15 H =>
       W.call Tryz.prog (.func (.func 103) #[] #[]) #[v15] H fun v16 H =>
       W.call Tryz.prog (.func (.func 102) #[] #[]) #[v16] H fun v17 H =>
       Q v17 H)
      (fun H => W.bin .eql kind_1 (.int .i64 5) H fun v18 H =>
       W.cond v18 H
       (fun H => W.get v1 H fun v19 H =>
        W.call Tryz.prog (.func (.func 104) #[] #[]) #[v19] H fun v20 H =>
        W.call Tryz.prog (.func (.func 100) #[] #[]) #[v20, (.int .i64 1)] H fun v21 H =>
        Q v21 H)
       (fun H => W.bin .eql kind_1 (.int .i64 6) H fun v22 H =>
        W.cond v22 H
        (fun H => W.get v1 H fun v23 H =>
         W.call Tryz.prog (.func (.func 104) #[] #[]) #[v23] H fun v24 H =>
         W.call Tryz.prog (.func (.func 100) #[] #[]) #[v24, (.int .i64 0)] H fun v25 H =>
         Q v25 H)
        (fun H => W.bin .eql kind_1 (.int .i64 7) H fun v26 H =>
         W.cond v26 H
         (fun H => W.get v1 H fun v27 H =>
          W.call Tryz.prog (.func (.func 105) #[] #[]) #[v27, (.int .i64 0)] H fun v28 H =>
          Q v28 H)
         (fun H => W.bin .eql kind_1 (.int .i64 8) H fun v29 H =>
          W.cond v29 H
          (fun H => W.get v1 H fun v30 H =>
           W.call Tryz.prog (.func (.func 105) #[] #[]) #[v30, (.int .i64 1)] H fun v31 H =>
           Q v31 H)
          (fun H => W.bin .eql kind_1 (.int .i64 9) H fun v32 H =>
           W.cond v32 H
           (fun H => W.get v1 H fun v33 H =>
            W.call Tryz.prog (.func (.func 106) #[] #[]) #[v33, (.func (.func 107) #[] #[v1])] H fun v34 H =>
            Q v34 H)
           (fun H => W.bin .eql kind_1 (.int .i64 10) H fun v35 H =>
            W.cond v35 H
            (fun H => W.get v1 H fun v36 H =>
             W.call Tryz.prog (.func (.func 108) #[] #[]) #[v36] H fun v37 H =>
             Q v37 H)
            (fun H => W.get v1 H fun v38 H =>
             W.call Tryz.prog (.func (.func 106) #[] #[]) #[v38, (.func (.func 109) #[] #[v1])] H fun v39 H =>
             W.guarded v39 false (fun H k => W.get v1 H k) H fun v40 H =>
             W.guarded v39 false (fun H k => k (.func (.func 110) #[] #[v1]) H) H fun v41 H =>
             W.guarded v39 false (fun H k => W.call Tryz.prog (.func (.func 106) #[] #[]) #[v40, v41] H k) H fun v42 H =>
             W.pick v39 (.bool true) v42 H fun v43 H =>
             Q v43 H)))))))))))
theorem f67.enter {Q : Post} {m_0 : Value} {kind_1 : Value} {H : Heap} (h : f67.w Q m_0 kind_1 H) : Runs Tryz.prog 67 #[m_0, kind_1] H Q :=
  fn_enter (ann := []) (by kernel_rfl) Tryz.func67 rfl (by kernel_rfl) h (by kernel_rfl)

/- loop.example/g01343/spec.l01Small -/
def f53.w (Q : Post) (s_0 : Value) (H : Heap) : Prop :=
  W.new [(.slice none 0 0), (.slice none 0 0)] 27 H fun v1 H =>
  W.call Tryz.prog (.func (.func 55) #[] #[]) #[s_0, (.int .i64 3)] H fun v2 H =>
  W.bin .add (.int .i64 1) v2 H fun v3 H =>
  W.call Tryz.prog (.func (.func 90) #[] #[]) #[s_0, v3] H fun v4 H =>
  W.putN 2 v1 v4 H fun _ H =>
  W.getN 2 v1 H fun v5 H => Q v5 H
theorem f53.enter {Q : Post} {s_0 : Value} {H : Heap} (h : f53.w Q s_0 H) : Runs Tryz.prog 53 #[s_0] H Q :=
  fn_enter (ann := []) (by kernel_rfl) Tryz.func53 rfl (by kernel_rfl) h (by kernel_rfl)

/- loop.example/g01343/spec.DrawCoverNumbers -/
def f16.w (Q : Post) (code_0 : Value) (H : Heap) : Prop :=
  W.new [(.slice none 0 0), (.slice none 0 0)] 27 H fun v1 H =>
  W.call Tryz.prog (.func (.func 45) #[] #[]) #[code_0] H fun v2 H =>
  W.call Tryz.prog (.func (.func 53) #[] #[]) #[v2] H fun v3 H =>
  W.call Tryz.prog (.func (.func 55) #[] #[]) #[v2, (.int .i64 4)] H fun v4 H =>
  W.lit 4 [(.int .i64 0)] 2 [(0, 1, (.int .i64 1)), (1, 1, (.int .i64 1)), (2, 1, (.int .i64 2)), (3, 1, v4)] H fun v5 H =>
  W.call Tryz.prog (.func (.func 54) #[] #[]) #[v2, v5] H fun v6 H =>
  W.putN 2 v1 v3 H fun _ H =>
  W.getN 2 v1 H fun v7 H => Q (.tuple #[v7, v6]) H
theorem f16.enter {Q : Post} {code_0 : Value} {H : Heap} (h : f16.w Q code_0 H) : Runs Tryz.prog 16 #[code_0] H Q :=
  fn_enter (ann := []) (by kernel_rfl) Tryz.func16 rfl (by kernel_rfl) h (by kernel_rfl)


/-! ### Contracts -/

theorem mat_bound {m : List (List Int)} (h : isMat m = true) : Sq m.length m ∧ m.length ≤ 5 ∧ ∀ r c, (mAt m r c).natAbs ≤ 20 := by
  unfold isMat at h
  rw [Bool.and_eq_true, Bool.and_eq_true] at h
  have h1 := inR_iff.1 h.1.1
  have h2 := isSq_iff.1 h.1.2
  refine ⟨h2, by omega, fun r c => ?_⟩
  by_cases hr : r < m.length
  · by_cases hc : c < m[r].length
    · rw [mAt_at hr hc]
      have := List.all_eq_true.1 h.2 _ (List.getElem_mem hr)
      have := inR_iff.1 (List.all_eq_true.1 this _ (List.getElem_mem hc))
      omega
    · have : mAt m r c = 0 := by
        unfold mAt
        simp [List.getElem?_eq_getElem hr, List.getElem?_eq_none (show m[r].length ≤ c by omega)]
      rw [this]; decide
  · have : mAt m r c = 0 := by
      unfold mAt
      simp [List.getElem?_eq_none (show m.length ≤ r by omega)]
    rw [this]; decide

/-- Whether all principal minors are greater than 0. -/
def pB (m : List (List Int)) : Bool := (minorsL m.length m).all fun x => decide (1 ≤ x)

theorem pB_iff {m : List (List Int)} : pB m = true ↔ IsP m.length m := by
  unfold pB minorsL IsP
  rw [List.all_eq_true]
  constructor
  · intro h s hs
    have := h _ (List.mem_map.2 ⟨s, by simpa using hs, rfl⟩)
    rw [decide_eq_true_iff] at this
    omega
  · intro h x hx
    obtain ⟨s, hs, rfl⟩ := List.mem_map.1 hx
    have := h s (by simpa using hs)
    rw [decide_eq_true_iff]
    omega

theorem fnP20 {H0 : Heap} {Q : Post} {v : Value} {m : List (List Int)} (hr : Has RSS H0 [v] m) (hm : isMat m = true) (hQ : ∀ H', H0.Le H' → Q (.tuple #[.bool (pB m), .int .i64 0]) H') : Runs Tryz.prog 20 #[v, .int .i64 0] H0 Q := by
  obtain ⟨h1, h2, h3⟩ := mat_bound hm
  have h := (Loc.start H0).lent hr
  obtain ⟨_, q⟩ := hr
  refine f20.enter (Wi.call (fn66 q fun H l => ?_))
  rw [hm]
  have h := h.to l
  simp only [gw]
  refine Wi.call (fn57 ?_)
  rw [show inR 0 11 0 = true by decide]
  simp only [gw]
  refine Wi.call (f67.enter (Wl.box1 h (h.rd (cs := [v]) (r := RSS)).cell1 fun H b h => Wi.eqlC (fun _ => Wi.tru ?_) fun g => absurd rfl g))
  refine Wl.get h rfl (Wi.call (fn100 (h.rd (cs := [v])) h1 h2 (fun r c => by have := h3 r c; omega) fun H l => ?_))
  exact hQ _ (h.to l).le

section
variable {H0 H : Heap} {L : List (Atom H0.next)} {Q : Post} {b i : Nat} {vc : Value} {code : List Int}

theorem fn53 (h : Ab.Loc H0 L H) (hi : L[i]? = some (.src b vc code)) (hQ : ∀ H' u1 u2 p, Ab.Loc H0 (.data RProblem [u1, u2] p :: L) H' → SmallP p → Q (.agg #[u1, u2]) H') : Runs Tryz.prog 53 #[pt b 0] H Q := by
  refine f53.enter ?_
  unfold f53.w
  refine Wl.new h fun H b1 h => Wi.call (fn55 (i := i + 1) h (by simpa using hi) fun H x h hx hx' => ?_)
  have := hx' (by decide)
  obtain ⟨n, hn⟩ : ∃ n : Nat, 1 + x = (n : Int) := ⟨(1 + x).toNat, by omega⟩
  refine Wi.add (by unfold I64; omega) ?_
  rw [hn]
  refine Wi.call (fn90 (i := i + 1) h (by simpa using hi) (by omega) fun H u1 u2 p h hp => ?_)
  have kc := (h.rd (cs := [u1, u2]) (r := RProblem)).cell
  refine Wl.putA (b := b1) (i := 1) h rfl rfl kc fun H h => Wl.getA (b := b1) h rfl ?_
  exact hQ _ u1 u2 p (h.cut 1) (hp.small (by omega))

end

theorem fn16 {H0 : Heap} {Q : Post} {vc : Value} {code : List Int} (hc : Has RBytes H0 [vc] code) (hQ : ∀ H' u1 u2 p (k : Int), Fresh RProblem H0 [u1, u2] p H' → SmallP p → I64 k → Q (.tuple #[.agg #[u1, u2], .int .i64 k]) H') : Runs Tryz.prog 16 #[vc] H0 Q := by
  refine f16.enter ?_
  unfold f16.w
  refine Wl.new (Loc.start H0) fun H b1 h => Wi.call (fn45 hc h fun H b h => Wi.call (fn53 (i := 0) h rfl fun H u1 u2 p h hp => ?_))
  have kc := (h.rd (cs := [u1, u2]) (r := RProblem)).cell
  refine Wi.call (fn55 (i := 1) h rfl fun H x h hx hx' => ?_)
  have := hx' (by decide)
  refine Wl.litN [1, 1, 2, x] rfl (by simp) (by intro y hy; simp at hy; unfold I64; omega) rfl h fun H vl h => Wi.call (fn54 (i := 2) h rfl (fun H h => h.rd (cs := [vl])) (by simp) fun H t h ht => ?_)
  have ht : I64 t := by simp at ht; unfold I64; omega
  refine Wl.putA (b := b1) (i := 3) h rfl rfl kc fun H h => Wl.getA (b := b1) h rfl ?_
  exact hQ _ u1 u2 p t (h.ret (i := 1) rfl) hp ht

theorem fn6 {H0 : Heap} {Q : Post} {vc : Value} {code : List Int} (hc : Has RBytes H0 [vc] code) (hQ : ∀ H' u1 u2 p (s : Int), Fresh RProblem H0 [u1, u2] p H' → SmallP p → I64 s → Q (.tuple #[.agg #[u1, u2], .int .i64 s]) H') : Runs Tryz.prog 6 #[vc] H0 Q := by
  refine f6.enter (Wl.new (Loc.start H0) fun H b1 h => Wi.call (fn38 (hc.le h.le) fun H u1 u2 p s r f hp hI => ?_))
  have h := h.add f
  have kc := (h.rd (cs := [u1, u2]) (r := RProblem)).cell
  simp only [gw]
  refine Wl.new h fun H b6 h => Wl.putA h rfl rfl kc fun H h => Wl.getA (b := b6) h rfl (Wl.putA (b := b1) (i := 2) h rfl rfl kc fun H h => Wl.getA (b := b1) h rfl ?_)
  exact hQ _ _ _ p _ (h.ret (i := 1) rfl) hp hI.1

theorem fn9 {H0 : Heap} {Q : Post} {vc : Value} {code : List Int} (hc : Has RBytes H0 [vc] code) (hQ : ∀ H' u1 u2 p, Fresh RProblem H0 [u1, u2] p H' → SmallP p → Q (.agg #[u1, u2]) H') : Runs Tryz.prog 9 #[vc] H0 Q := by
  refine f9.enter (Wl.new (Loc.start H0) fun H b1 h => Wi.call (fn45 hc h fun H b h => Wi.call (fn44 (i := 0) h rfl fun H u1 u2 p h hp => ?_)))
  have kc := (h.rd (cs := [u1, u2]) (r := RProblem)).cell
  refine Wl.putA (b := b1) (i := 2) h rfl rfl kc fun H h => Wl.getA (b := b1) h rfl ?_
  exact hQ _ u1 u2 p (h.ret (i := 0) rfl) hp

theorem fn13 {H0 : Heap} {Q : Post} {vc : Value} {code : List Int} (hc : Has RBytes H0 [vc] code) (hQ : ∀ H' u1 u2 p, Fresh RProblem H0 [u1, u2] p H' → SmallP p → Q (.agg #[u1, u2]) H') : Runs Tryz.prog 13 #[vc] H0 Q := by
  refine f13.enter (Wl.new (Loc.start H0) fun H b1 h => Wi.call (fn45 hc h fun H b h => Wi.call (fn44 (i := 0) h rfl fun H u1 u2 p h hp => ?_)))
  have kc := (h.rd (cs := [u1, u2]) (r := RProblem)).cell
  refine Wl.putA (b := b1) (i := 2) h rfl rfl kc fun H h => Wl.getA (b := b1) h rfl ?_
  exact hQ _ u1 u2 p (h.ret (i := 0) rfl) hp

/-! ### Facts -/

theorem sum_set : ∀ {l : List Int} {i : Nat} {y : Int} (h : i < l.length), (l.set i y).sum = l.sum - l[i] + y
  | x :: l, 0, y, _ => by simp; omega
  | x :: l, i + 1, y, h => by
    have := sum_set (l := l) (i := i) (y := y) (by simpa using h)
    simp only [List.set_cons_succ, List.sum_cons, this, List.getElem_cons_succ]
    omega

theorem cnL_sum {f : Nat → Nat} {len : Nat} : ∀ {t : Nat}, cnM f t ≤ len → (cnL f t len).sum = (t : Int)
  | 0, _ => by
    have : cnL f 0 len = List.replicate len 0 := by
      apply List.ext_getElem
      · simp [cnL]
      · intro i h1 h2
        rw [cnL_at]
        simp [cnH]
    rw [this]
    simp
  | t + 1, h => by
    have e : cnM f (t + 1) = max (cnM f t) (f t + 1) := rfl
    have hl : f t < (cnL f t len).length := by rw [cnL_len]; omega
    rw [← cnL_step hl, sum_set hl, cnL_sum (f := f) (len := len) (t := t) (by omega)]
    omega

theorem nodup_one {l : List Nat} (hn : l.Nodup) (h0 : l ≠ []) (h : ∀ x ∈ l, ∀ y ∈ l, x = y) : ∃ x, l = [x] := by
  cases l with
  | nil => exact absurd rfl h0
  | cons x l =>
    cases l with
    | nil => exact ⟨x, rfl⟩
    | cons y l =>
      have := h x (by simp) y (by simp)
      subst this
      simp at hn

theorem covB_at {n : Nat} {p : Prob} {s : Nat} (h : covB n p s = true) {i : Nat} (hi : i < n) : 0 ≤ (ptOf n p s).getD i 0 := by
  unfold covB at h
  rw [Bool.and_eq_true] at h
  have hl : i < (ptOf n p s).length := by rw [ptOf_len]; exact hi
  rw [atD hl]
  exact of_decide_eq_true (List.all_eq_true.1 h.2 _ (List.getElem_mem hl))

/-- A P matrix has the degree 1. -/
theorem deg_one {p : Prob} (h : (degRes p).2 = 0) (hP : IsP p.2.length p.1) : (degRes p).1 = 1 := by
  unfold degRes at h ⊢
  by_cases hp : isProb p = true
  case neg => rw [if_neg hp] at h; cases h
  rw [if_pos hp] at h ⊢
  by_cases hz : (covN p.2.length p).any (zeroB p.2.length p) = true
  · rw [if_pos hz] at h; cases h
  rw [if_neg hz]
  have hnz : ∀ s ∈ covN p.2.length p, zeroB p.2.length p s = false := fun s hs => by
    cases g : zeroB p.2.length p s with
    | false => rfl
    | true => exact absurd (List.any_eq_true.2 ⟨s, hs, g⟩) hz
  have hmem : ∀ s, s ∈ covN p.2.length p ↔ s < 2 ^ p.2.length ∧ covB p.2.length p s = true := fun s => by
    unfold covN
    rw [List.mem_filter, List.mem_range]
  obtain ⟨s0, hs0, hf0⟩ := P_some (n := p.2.length) (p := p) hP
  have hc0 : covB p.2.length p s0 = true := by
    unfold covB
    rw [Bool.and_eq_true]
    refine ⟨decide_eq_true (P_det hP hs0), List.all_eq_true.2 fun x hx => ?_⟩
    obtain ⟨i, hi, rfl⟩ := List.mem_iff_getElem.1 hx
    have hin : i < p.2.length := by simpa [pointL, solveL] using hi
    have := hf0 i hin
    rw [atD (show i < (ptOf p.2.length p s0).length by rw [ptOf_len]; exact hin)] at this
    exact decide_eq_true this
  have hpos : ∀ s ∈ covN p.2.length p, ∀ i, i < p.2.length → 0 < (ptOf p.2.length p s).getD i 0 := fun s hs i hi => by
    obtain ⟨_, hcb⟩ := (hmem s).1 hs
    have hz1 := hnz s hs
    have hall := hcb
    unfold covB at hall
    rw [Bool.and_eq_true] at hall
    have := zeroB_inner hall.2
    rw [hz1] at this
    have hl : i < (ptOf p.2.length p s).length := by rw [ptOf_len]; exact hi
    rw [atD hl]
    exact of_decide_eq_true (List.all_eq_true.1 this _ (List.getElem_mem hl))
  obtain ⟨x, hx⟩ := nodup_one (l := covN p.2.length p) (List.nodup_range.filter _) (fun g => by
    have := (hmem s0).2 ⟨hs0, hc0⟩
    rw [g] at this
    cases this) fun s hs t ht => P_same (p := p) hP ((hmem s).1 hs).1 ((hmem t).1 ht).1 (hpos s hs) fun i hi => covB_at ((hmem t).1 ht).2 hi
  have hxs := (hmem x).1 (by rw [hx]; simp)
  have hm := hP x hxs.1
  rw [hx]
  unfold degTo
  rw [hx]
  show (List.map (degF p.2.length p) [x]).sum = 1
  unfold degF
  simp only [List.map_cons, List.map_nil, List.sum_cons, List.sum_nil]
  unfold sgI
  rw [if_neg (by omega), if_pos (by omega)]
  rfl

theorem cov_mem {p : Prob} {s : Int} (h : (covRes p s).2 = 0) : (cvRes p).2 = 0 ∧ (covRes p s).1 = decide (s ∈ (cvRes p).1) := by
  unfold covRes at h ⊢
  unfold cvRes
  by_cases hp : isProb p = true
  case neg => rw [if_neg hp] at h; cases h
  rw [if_pos hp] at h ⊢
  rw [if_pos hp]
  by_cases hs : setOk p.2.length s = true
  case neg => rw [if_neg hs] at h; cases h
  rw [if_pos hs] at h ⊢
  by_cases hD : det p.2.length (mAt (colL p.2.length p.1 s.toNat)) = 0
  · rw [if_pos hD] at h; cases h
  rw [if_neg hD]
  refine ⟨rfl, ?_⟩
  obtain ⟨e, hs2⟩ := setOk_nat hs
  rw [Bool.eq_iff_iff, decide_eq_true_iff]
  have : s ∈ covL p.2.length p ↔ covB p.2.length p s.toNat = true := by
    rw [covL_map, List.mem_map]
    constructor
    · rintro ⟨a, ha, e2⟩
      have : a = s.toNat := by omega
      subst this
      exact (List.mem_filter.1 ha).2
    · intro g
      exact ⟨s.toNat, List.mem_filter.2 ⟨by simpa using hs2, g⟩, by omega⟩
  show (pointL p.2.length (colL p.2.length p.1 s.toNat) p.2).all (fun x => decide (0 ≤ x)) = true ↔ s ∈ covL p.2.length p
  rw [this]
  unfold covB
  rw [decide_eq_true hD, Bool.true_and]

theorem cov_none {p : Prob} {s : Int} (h : (covRes p s).2 ≠ 0) : (covRes p s).1 = false := by
  unfold covRes at h ⊢
  split
  · rename_i hp
    rw [if_pos hp] at h
    split
    · rename_i hs
      rw [if_pos hs] at h
      split
      · rfl
      · rename_i hD
        rw [if_neg hD] at h
        exact absurd rfl h
    · rfl
  · rfl

end Go.Proofs.YthfcodelpebjcaaGreat
