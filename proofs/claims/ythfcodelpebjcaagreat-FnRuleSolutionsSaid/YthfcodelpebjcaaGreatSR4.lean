/- The contracts of WorstSigns, the program's and the reference's. No condition. -/
import Derived.Test.YthfcodelpebjcaaGreatGSR
import Derived.Test.YthfcodelpebjcaaGreatGVV
namespace Go.Proofs.YthfcodelpebjcaaGreat
open Go.Ab

/- loop.example/g01343/impl.StepsByRule -/
def f27.w (Q : Post) (p_0 : Value) (rule_1 : Value) (H : Heap) : Prop :=
  W.box p_0 27 H fun v1 H =>
  W.getN 2 v1 H fun v2 H =>
  W.call Tryz.prog (.func (.func 69) #[] #[]) #[v2, (.int .i64 0), rule_1] H fun v3 H =>
  W.bin .neq v3 (.int .i64 0) H fun v4 H =>
  W.cond v4 H
  (fun H => Q (.tuple #[(.int .i64 0), v3]) H)
  (fun H => W.getN 2 v1 H fun v5 H =>
   W.call Tryz.prog (.func (.func 70) #[] #[]) #[v5, (.int .i64 0), rule_1] H fun v6 H =>
   W.extract 0 v6 H fun v7 H =>
   W.extract 1 v6 H fun v8 H =>
   W.bin .neq v8 (.int .i64 0) H fun v9 H =>
   W.cond v9 H
   (fun H => Q (.tuple #[(.int .i64 0), (.int .i64 4)]) H)
   (fun H => W.len v7 H fun v10 H =>
    W.bin .sub v10 (.int .i64 1) H fun v11 H =>
    Q (.tuple #[v11, (.int .i64 0)]) H))
theorem f27.enter {Q : Post} {p_0 : Value} {rule_1 : Value} {H : Heap} (h : f27.w Q p_0 rule_1 H) : Runs Tryz.prog 27 #[p_0, rule_1] H Q :=
  fn_enter (ann := []) (by kernel_rfl) Tryz.func27 rfl (by kernel_rfl) h (by kernel_rfl)

/- loop.example/g01343/impl.WorstSigns -/
def f30.j1 (Q : Post) (x_32 : Value) (I2 : St [32] → Heap → Prop) (H : Heap) : Prop :=
  W.bin .add x_32 (.int .i64 1) H fun v17 H =>
  I2 (v17, ()) H
def f30.j2 (Q : Post) (x_23 : Value) (I1 : St [8, 9, 23] → Heap → Prop) (most_8' : Value) (worst_9' : Value) (H : Heap) : Prop :=
  W.bin .add x_23 (.int .i64 1) H fun v26 H =>
  I1 (most_8', worst_9', v26, ()) H
def f30.l2 (Q : Post) (v12 : Value) (v11 : Value) (x_23 : Value) (v1 : Value) (rule_1 : Value) (most_8 : Value) (worst_9 : Value) (I1 : St [8, 9, 23] → Heap → Prop) (I2 : St [32] → Heap → Prop) (x_32 : Value) (H : Heap) : Prop :=
  W.bin .lss x_32 v12 H fun v13 H =>
  W.cond v13 H
  (fun H => W.indexAddr 1 v11 x_32 H fun v14 H =>
   W.put v14 (.int .i64 1) H fun _ H =>
   W.call Tryz.prog (.func (.func 75) #[] #[]) #[x_23, x_32] H fun v15 H =>
   W.cond v15 H
   (fun H => W.indexAddr 1 v11 x_32 H fun v16 H =>
    W.put v16 (.int .i64 (-1)) H fun _ H =>
    f30.j1 Q x_32 I2 H)
   (fun H => f30.j1 Q x_32 I2 H))
  (fun H => W.fieldAddr 0 v1 H fun v18 H =>
   W.get v18 H fun v19 H =>
   W.build [(.slice none 0 0), (.slice none 0 0)] [(0, 1, v19), (1, 1, v11)] H fun v20 H =>
   W.call Tryz.prog (.func (.func 27) #[] #[]) #[v20, rule_1] H fun v21 H =>
   W.extract 0 v21 H fun v22 H =>
   W.extract 1 v21 H fun v23 H =>
   W.bin .neq v23 (.int .i64 0) H fun v24 H =>
   W.cond v24 H
   (fun H => Q (.tuple #[(.int .i64 0), (.int .i64 0), v23]) H)
   (fun H => W.bin .gtr v22 most_8 H fun v25 H =>
    W.cond v25 H
    (fun H => f30.j2 Q x_23 I1 v22 x_23 H)
    (fun H => f30.j2 Q x_23 I1 most_8 worst_9 H)))
def f30.l1 (Q : Post) (v6 : Value) (v1 : Value) (rule_1 : Value) (I1 : St [8, 9, 23] → Heap → Prop) (most_8 : Value) (worst_9 : Value) (x_23 : Value) (H : Heap) : Prop :=
  W.bin .lss x_23 v6 H fun v7 H =>
  W.cond v7 H
  (fun H => W.fieldAddr 1 v1 H fun v8 H =>
   W.get v8 H fun v9 H =>
   W.len v9 H fun v10 H =>
   W.make [(.int .i64 0)] 2 v10 v10 H fun v11 H =>
   W.len v11 H fun v12 H =>
   W.loop (S := St [32]) (fun I2 s H => f30.l2 Q v12 v11 x_23 v1 rule_1 most_8 worst_9 I1 I2 s.1 H) ((.int .i64 0), ()) H)
  (fun H => Q (.tuple #[most_8, worst_9, (.int .i64 0)]) H)
def f30.w (Q : Post) (p_0 : Value) (rule_1 : Value) (H : Heap) : Prop :=
  W.box p_0 27 H fun v1 H =>
  W.getN 2 v1 H fun v2 H =>
  W.call Tryz.prog (.func (.func 69) #[] #[]) #[v2, (.int .i64 0), rule_1] H fun v3 H =>
  W.bin .neq v3 (.int .i64 0) H fun v4 H =>
  W.cond v4 H
  (fun H => Q (.tuple #[(.int .i64 0), (.int .i64 0), v3]) H)
  (fun H => W.getN 2 v1 H fun v5 H =>
   W.call Tryz.prog (.func (.func 58) #[] #[]) #[v5] H fun v6 H =>
   W.loop (S := St [8, 9, 23]) (fun I1 s H => f30.l1 Q v6 v1 rule_1 I1 s.1 s.2.1 s.2.2.1 H) ((.int .i64 (-1)), (.int .i64 0), (.int .i64 0), ()) H)
theorem f30.enter {Q : Post} {p_0 : Value} {rule_1 : Value} {H : Heap} (h : f30.w Q p_0 rule_1 H) : Runs Tryz.prog 30 #[p_0, rule_1] H Q :=
  fn_enter (ann := [(6, [8, 9, 23]), (10, [32])]) (by kernel_rfl) Tryz.func30 rfl (by kernel_rfl) h (by kernel_rfl)

/- loop.example/g01343/spec.WorstSigns -/
def f31.j1 (Q : Post) (signs_10 : Value) (I1 : St [8, 9, 10] → Heap → Prop) (most_8' : Value) (at_9' : Value) (H : Heap) : Prop :=
  W.bin .add signs_10 (.int .i64 1) H fun v39 H =>
  I1 (most_8', at_9', v39, ()) H
def f31.l2 (Q : Post) (v1 : Value) (v15 : Value) (signs_10 : Value) (rule_1 : Value) (most_8 : Value) (at_9 : Value) (I1 : St [8, 9, 10] → Heap → Prop) (I2 : St [12] → Heap → Prop) (i_12 : Value) (H : Heap) : Prop :=
  W.fieldAddr 1 v1 H fun v16 H =>
  W.get v16 H fun v17 H =>
  W.len v17 H fun v18 H =>
  W.bin .lss i_12 v18 H fun v19 H =>
  W.cond v19 H
  (fun H => W.fieldAddr 1 v15 H fun v20 H =>
   W.get v20 H fun v21 H =>
   W.conv .u64 i_12 H fun v22 H =>
   W.bin .shr signs_10 v22 H fun v23 H =>
   W.bin .and v23 (.int .i64 1) H fun v24 H =>
   W.bin .mul (.int .i64 2) v24 H fun v25 H =>
   W.bin .sub (.int .i64 1) v25 H fun v26 H =>
   W.lit 1 [(.int .i64 0)] 2 [(0, 1, v26)] H fun v27 H =>
   W.append 1 2 v21 v27 H fun v28 H =>
   W.fieldAddr 1 v15 H fun v29 H =>
   W.put v29 v28 H fun _ H =>
   W.bin .add i_12 (.int .i64 1) H fun v30 H =>
   I2 (v30, ()) H)
  (fun H => W.getN 2 v15 H fun v31 H =>
   W.call Tryz.prog (.func (.func 72) #[] #[]) #[v31, (.int .i64 0), rule_1] H fun v32 H =>
   W.extract 0 v32 H fun v33 H =>
   W.extract 1 v32 H fun v34 H =>
   W.bin .neq v34 (.int .i64 0) H fun v35 H =>
   W.cond v35 H
   (fun H => Q (.tuple #[(.int .i64 0), (.int .i64 0), (.int .i64 4)]) H)
   (fun H => W.len v33 H fun v36 H =>
    W.bin .sub v36 (.int .i64 1) H fun v37 H =>
    W.bin .gtr v37 most_8 H fun v38 H =>
    W.cond v38 H
    (fun H => f31.j1 Q signs_10 I1 v37 signs_10 H)
    (fun H => f31.j1 Q signs_10 I1 most_8 at_9 H)))
def f31.l1 (Q : Post) (v1 : Value) (rule_1 : Value) (I1 : St [8, 9, 10] → Heap → Prop) (most_8 : Value) (at_9 : Value) (signs_10 : Value) (H : Heap) : Prop :=
  W.fieldAddr 1 v1 H fun v5 H =>
  W.get v5 H fun v6 H =>
  W.len v6 H fun v7 H =>
  W.conv .u64 v7 H fun v8 H =>
  W.bin .shl (.int .i64 1) v8 H fun v9 H =>
  W.bin .lss signs_10 v9 H fun v10 H =>
  W.cond v10 H
  (fun H => W.fieldAddr 0 v1 H fun v11 H =>
   W.get v11 H fun v12 H =>
   W.lit 0 [(.int .i64 0)] 2 [] H fun v13 H =>
   W.build [(.slice none 0 0), (.slice none 0 0)] [(0, 1, v12), (1, 1, v13)] H fun v14 H =>
   W.new [(.slice none 0 0), (.slice none 0 0)] 27 H fun v15 H =>
   W.putN 2 v15 v14 H fun _ H =>
   W.loop (S := St [12]) (fun I2 s H => f31.l2 Q v1 v15 signs_10 rule_1 most_8 at_9 I1 I2 s.1 H) ((.int .i64 0), ()) H)
  (fun H => Q (.tuple #[most_8, at_9, (.int .i64 0)]) H)
def f31.w (Q : Post) (p_0 : Value) (rule_1 : Value) (H : Heap) : Prop :=
  W.box p_0 27 H fun v1 H =>
  W.getN 2 v1 H fun v2 H =>
  W.call Tryz.prog (.func (.func 42) #[] #[]) #[v2, (.int .i64 0), rule_1] H fun v3 H =>
  W.bin .neq v3 (.int .i64 0) H fun v4 H =>
  W.cond v4 H
  (fun H => Q (.tuple #[(.int .i64 0), (.int .i64 0), v3]) H)
  (fun H => W.loop (S := St [8, 9, 10]) (fun I1 s H => f31.l1 Q v1 rule_1 I1 s.1 s.2.1 s.2.2.1 H) ((.int .i64 (-1)), (.int .i64 0), (.int .i64 0), ()) H)
theorem f31.enter {Q : Post} {p_0 : Value} {rule_1 : Value} {H : Heap} (h : f31.w Q p_0 rule_1 H) : Runs Tryz.prog 31 #[p_0, rule_1] H Q :=
  fn_enter (ann := [(6, [8, 9, 10]), (10, [12])]) (by kernel_rfl) Tryz.func31 rfl (by kernel_rfl) h (by kernel_rfl)


/-- The right side of a set of signs. -/
def sgnQ (n s : Nat) : List Int := (List.range n).map fun i => if s.testBit i then -1 else 1
def sgnP (p : Prob) (s : Nat) : Prob := (p.1, sgnQ p.2.length s)

theorem sgnQ_len (n s : Nat) : (sgnQ n s).length = n := by simp [sgnQ]

theorem sgnP_prob {p : Prob} (h : isProb p = true) (s : Nat) : isProb (sgnP p s) = true := by
  obtain ⟨_, h1, h2, h3, h4, h5⟩ := isProb_rows h
  unfold isProb at h ⊢
  rw [Bool.and_eq_true, Bool.and_eq_true] at h ⊢
  refine ⟨⟨h.1.1, decide_eq_true ?_⟩, ?_⟩
  · show (sgnQ p.2.length s).length = p.1.length
    rw [sgnQ_len, h3]
  · unfold allUp
    rw [List.all_eq_true]
    intro x hx
    obtain ⟨i, _, rfl⟩ := List.mem_map.1 hx
    refine inR_iff.2 ?_
    split <;> omega

theorem sgnP_PB {p : Prob} (h : isProb p = true) (s : Nat) : PB p.2.length (sgnP p s) := by
  have := PB.of (sgnP_prob h s)
  rwa [show (sgnP p s).2.length = p.2.length from sgnQ_len _ _] at this

/-- The most steps so far, and where. -/
noncomputable def wsM (p : Prob) (rule : Int) : Nat → Int
  | 0 => -1
  | x + 1 => if wsM p rule x < ((runOf p.2.length (sgnP p x) rule 0).1 : Int) then ((runOf p.2.length (sgnP p x) rule 0).1 : Int) else wsM p rule x
noncomputable def wsW (p : Prob) (rule : Int) : Nat → Int
  | 0 => 0
  | x + 1 => if wsM p rule x < ((runOf p.2.length (sgnP p x) rule 0).1 : Int) then (x : Int) else wsW p rule x

noncomputable def wsRes (p : Prob) (rule : Int) : Int × Int × Int := open Classical in
  if ruC p rule = 0 then (if ∀ x, x < 2 ^ p.2.length → (runOf p.2.length (sgnP p x) rule 0).2 = 0 then (wsM p rule (2 ^ p.2.length), wsW p rule (2 ^ p.2.length), 0) else (0, 0, 4)) else (0, 0, ruC p rule)

theorem run_len {n : Nat} {p : Prob} {rule : Int} {k : Nat} {e : Int} (hn : n ≤ 5) (h : RunEnd n p rule 0 k e) : k ≤ 32 := by
  have h32 := pow5 hn
  rcases Nat.eq_zero_or_pos k with h0 | h0
  · omega
  · have := run_short (n := n) (p := p) (rule := rule) (s0 := 0) (k := k - 1) (Nat.pow_pos (by decide)) fun j hj => h.1 j (by omega)
    omega

theorem fn27 {H0 : Heap} {Q : Post} {cs : List Value} {p : Prob} {rule : Int} (hr : Has RProblem H0 cs p) (hp : isProb p = true) (hru : 0 ≤ rule ∧ rule ≤ 3)
    (h1 : (runOf p.2.length p rule 0).2 ≠ 0 → ∀ H', H0.Le H' → Q (.tuple #[.int .i64 0, .int .i64 4]) H')
    (h2 : (runOf p.2.length p rule 0).2 = 0 → ∀ H', H0.Le H' → Q (.tuple #[.int .i64 ((runOf p.2.length p rule 0).1 : Nat), .int .i64 0]) H') : Runs Tryz.prog 27 #[.agg cs.toArray, .int .i64 rule] H0 Q := by
  have hlen := hr.len
  have hpb := PB.of hp
  have hru0 : ruC p rule = 0 := by unfold ruC; rw [if_pos hp, if_pos (inR_iff.2 hru)]
  have h := (Loc.start H0).lent hr
  refine f27.enter (Wl.box h fun H b h => Wl.getA h hlen (Wi.call (fn69 (h.rd (cs := cs)) fun H l => ?_)))
  have h := h.to l
  rw [hru0]
  refine Wi.neqC (fun g => absurd rfl g) fun _ => Wi.fls (Wl.getA h hlen (Wi.call (fn70 (s0 := 0) (h.rd (cs := cs)) hpb (Nat.pow_pos (by decide)) hru fun k e hre H u f => ?_)))
  have h := h.add f
  have hrun := runOf_eq hre
  have hk := run_len hpb.n5 hre
  rw [hrun] at h1 h2
  simp only [gw]
  refine Wi.neqC (fun hne => Wi.tru (h1 hne _ h.le)) fun he => Wi.fls (Wl.len h ?_)
  rw [show (setsL ((List.range (k + 1)).map (ss p.2.length p rule 0))).length = k + 1 by simp [setsL]]
  refine Wi.sub (by unfold I64; omega) ?_
  rw [show ((k + 1 : Nat) : Int) - 1 = (k : Nat) by omega]
  exact h2 he _ h.le

theorem ws_bad {p : Prob} {rule : Int} (h : ruC p rule = 0) {x : Nat} (hx : x < 2 ^ p.2.length) (hb : (runOf p.2.length (sgnP p x) rule 0).2 ≠ 0) : wsRes p rule = (0, 0, 4) := by
  unfold wsRes
  rw [if_pos h, if_neg fun g => hb (g x hx)]

theorem ws_good {p : Prob} {rule : Int} (h : ruC p rule = 0) (hb : ∀ x, x < 2 ^ p.2.length → (runOf p.2.length (sgnP p x) rule 0).2 = 0) : wsRes p rule = (wsM p rule (2 ^ p.2.length), wsW p rule (2 ^ p.2.length), 0) := by
  unfold wsRes
  rw [if_pos h, if_pos hb]

theorem fn30 {H0 : Heap} {Q : Post} {cs : List Value} {p : Prob} {rule : Int} (hr : Has RProblem H0 cs p) (_ : I64 rule) (_ : wProblem p ≤ 1048576)
    (hQ : ∀ H', H0.Le H' → Q (.tuple #[.int .i64 (wsRes p rule).1, .int .i64 (wsRes p rule).2.1, .int .i64 (wsRes p rule).2.2]) H') : Runs Tryz.prog 30 #[.agg cs.toArray, .int .i64 rule] H0 Q := by
  obtain ⟨u1, u2, rfl, r1, r2⟩ := hasProb hr
  have hz : ∀ H a b c, H0.Le H → wsRes p rule = (a, b, c) → Q (.tuple #[.int .i64 a, .int .i64 b, .int .i64 c]) H := fun H a b c l e => by
    have := hQ H l
    rw [e] at this
    exact this
  have h := (((Loc.start H0).lent r1).lent r2).lent hr
  refine f30.enter (Wl.box h fun H b h => Wl.getA h rfl (Wi.call (fn69 (h.rd (cs := [u1, u2])) fun H l => ?_)))
  have h := h.to l
  refine Wi.neqC (fun hne => Wi.tru (hz _ _ _ _ h.le (by unfold wsRes; rw [if_neg hne]))) fun he => Wi.fls ?_
  obtain ⟨hp, hru⟩ := ruC_eq he
  have hpb := PB.of hp
  have hn := hpb.n5
  have h32 := pow5 hn
  refine Wl.getA h rfl (Wi.call (f58.enter (Wl.box h fun H b2 h => Wi.fieldAddr (Wl.get h rfl (Wl.len h (Wi.shl1 (by omega) ?_))))))
  have h := h.tl
  have bad := fun x hx hb => ws_bad (rule := rule) he (x := x) hx hb
  have good := fun hb => ws_good (rule := rule) he hb
  generalize hN : 2 ^ p.2.length = N at *
  refine W.for_rule N (fun x st H => st = (.int .i64 (wsM p rule x), .int .i64 (wsW p rule x), .int .i64 (x : Nat), ()) ∧ Ab.Loc H0 [.box b [u1, u2], .lent RProblem [u1, u2] p, .lent RS [u2] p.2, .lent RSS [u1] p.1] H ∧ ∀ y, y < x → (runOf p.2.length (sgnP p y) rule 0).2 = 0) ⟨rfl, h, fun y hy => by omega⟩ ?_
  rintro x st H J hx ⟨rfl, h, hok⟩ hJ
  refine Wi.lssC (fun hlt => Wi.tru ?_) fun hge => Wi.fls ?_
  · have hxN : x < N := by omega
    refine Wi.fieldAddr (Wl.get h rfl (Wl.len h ?_))
    refine Wl.make (r := Rd.int) (z := 0) (fun _ => ⟨rfl, rfl, by unfold I64; omega⟩) h (by omega) (by decide) fun H q h => Wl.len h ?_
    have h := h.asData (i := 0) rfl
    rw [List.length_replicate]
    have e0 : List.replicate p.2.length (0 : Int) = (List.range p.2.length).map fun i => if i < 0 then (if x.testBit i then -1 else 1) else 0 := by
      apply List.ext_getElem <;> simp
    rw [e0] at h
    refine W.for_rule p.2.length (fun i st H => st = (.int .i64 (i : Nat), ()) ∧ Ab.Loc H0 [.data RS [q] ((List.range p.2.length).map fun j => if j < i then (if x.testBit j then -1 else 1) else 0), .box b [u1, u2], .lent RProblem [u1, u2] p, .lent RS [u2] p.2, .lent RSS [u1] p.1] H) ⟨rfl, h⟩ ?_
    rintro i st H J2 hi ⟨rfl, h⟩ hJ2
    refine Wi.lssC (fun hlt2 => Wi.tru ?_) fun hge2 => Wi.fls ?_
    · have hin : i < p.2.length := by omega
      have hI : I64 ((i : Int) + 1) := by unfold I64; omega
      have nxt : ∀ (y : Int) H', y = (if x.testBit i then -1 else 1) → Ab.Loc H0 [.data RS [q] (((List.range p.2.length).map fun j => if j < i then (if x.testBit j then (-1 : Int) else 1) else 0).set i y), .box b [u1, u2], .lent RProblem [u1, u2] p, .lent RS [u2] p.2, .lent RSS [u1] p.1] H' → f30.j1 Q (.int .i64 (i : Nat)) J2 H' := fun y H' hy h' => by
        rw [range_set (g := fun j => if j < i + 1 then (if x.testBit j then (-1 : Int) else 1) else 0) (by simp [hy]) (fun k _ hk => by
          by_cases g : k < i
          · rw [if_pos g, if_pos (by omega)]
          · rw [if_neg g, if_neg (by omega)])] at h'
        unfold f30.j1
        exact Wi.add hI (hJ2 _ _ hin ⟨rfl, h'⟩)
      refine Wl.setInt h (by simpa using hin) (by unfold I64; omega) fun H h => Wi.call (fn75 (by omega) (by omega) ?_)
      cases hb : x.testBit i with
      | false =>
        simp only [gw]
        exact nxt 1 _ (by simp [hb]) h
      | true =>
        simp only [gw]
        refine Wl.setInt h (by simpa using hin) (by unfold I64; omega) fun H h => ?_
        have h : Ab.Loc H0 [.data RS [q] ((((List.range p.2.length).map fun j => if j < i then (if x.testBit j then (-1 : Int) else 1) else 0).set i 1).set i (-1)), .box b [u1, u2], .lent RProblem [u1, u2] p, .lent RS [u2] p.2, .lent RSS [u1] p.1] H := h
        rw [List.set_set] at h
        exact nxt (-1) _ (by simp [hb]) h
    · have : i = p.2.length := by omega
      subst this
      have eq : ((List.range p.2.length).map fun j => if j < p.2.length then (if x.testBit j then (-1 : Int) else 1) else 0) = sgnQ p.2.length x := List.map_congr_left fun j hj => by rw [if_pos (by simpa using hj)]
      rw [eq] at h
      have hq := (h.rd (cs := [q])).one
      have hu := (h.rd (cs := [u1])).one
      obtain ⟨bs1, q1⟩ := h.rd (cs := [u1])
      obtain ⟨bs2, q2⟩ := h.rd (cs := [q])
      have hP : Has RProblem H [u1, q] (sgnP p x) := ⟨_, bs1, bs2, [u1], [q], rfl, rfl, q1, q2⟩
      refine Wi.fieldAddr0 (Wl.get h rfl (Wi.build (cells := [u1, q]) (by simp [fillA, hq, hu]) (Wi.call (fn27 hP (sgnP_prob hp x) hru (fun hb H l => ?_) fun hb H l => ?_))))
      · have h := (h.to l).tl
        rw [show (sgnP p x).2.length = p.2.length from sgnQ_len _ _] at hb
        simp only [gw]
        refine Wi.neqC (fun _ => Wi.tru (hz _ _ _ _ h.le (bad x hxN hb))) fun g => absurd g (by decide)
      · have h := (h.to l).tl
        rw [show (sgnP p x).2.length = p.2.length from sgnQ_len _ _] at hb ⊢
        simp only [gw]
        have hok' : ∀ y, y < x + 1 → (runOf p.2.length (sgnP p y) rule 0).2 = 0 := fun y hy => by
          by_cases e : y = x
          · subst e; exact hb
          · exact hok y (by omega)
        have hJ := hJ (.int .i64 (wsM p rule (x + 1)), .int .i64 (wsW p rule (x + 1)), .int .i64 ((x + 1 : Nat) : Int), ()) H hxN ⟨rfl, h, hok'⟩
        simp only [wsM, wsW] at hJ
        have hI : I64 ((x : Int) + 1) := by unfold I64; omega
        refine Wi.neqC (fun g => absurd rfl g) fun _ => Wi.fls (Wi.gtrC (fun hgt => Wi.tru ?_) fun hle => Wi.fls ?_)
        · rw [if_pos hgt, if_pos hgt] at hJ
          unfold f30.j2
          exact Wi.add hI hJ
        · rw [if_neg hle, if_neg hle] at hJ
          unfold f30.j2
          exact Wi.add hI hJ
  · have : x = N := by omega
    subst this
    exact hz _ _ _ _ h.le (good fun y hy => hok y hy)

theorem fn31 {H0 : Heap} {Q : Post} {cs : List Value} {p : Prob} {rule : Int} (hr : Has RProblem H0 cs p) (_ : I64 rule) (_ : wProblem p ≤ 1048576)
    (hQ : ∀ H', H0.Le H' → Q (.tuple #[.int .i64 (wsRes p rule).1, .int .i64 (wsRes p rule).2.1, .int .i64 (wsRes p rule).2.2]) H') : Runs Tryz.prog 31 #[.agg cs.toArray, .int .i64 rule] H0 Q := by
  obtain ⟨u1, u2, rfl, r1, r2⟩ := hasProb hr
  have hz : ∀ H a b c, H0.Le H → wsRes p rule = (a, b, c) → Q (.tuple #[.int .i64 a, .int .i64 b, .int .i64 c]) H := fun H a b c l e => by
    have := hQ H l
    rw [e] at this
    exact this
  have h := (((Loc.start H0).lent r1).lent r2).lent hr
  refine f31.enter (Wl.box h fun H b h => Wl.getA h rfl (Wi.call (fnR42 (h.rd (cs := [u1, u2])) fun H l => ?_)))
  have h := h.to l
  refine Wi.neqC (fun hne => Wi.tru (hz _ _ _ _ h.le (by unfold wsRes; rw [if_neg hne]))) fun he => Wi.fls ?_
  obtain ⟨hp, hru⟩ := ruC_eq he
  have hpb := PB.of hp
  have hn := hpb.n5
  have h32 := pow5 hn
  have bad := fun x hx hb => ws_bad (rule := rule) he (x := x) hx hb
  have good := fun hb => ws_good (rule := rule) he hb
  refine W.for_rule (2 ^ p.2.length) (fun x st H => st = (.int .i64 (wsM p rule x), .int .i64 (wsW p rule x), .int .i64 (x : Nat), ()) ∧ Ab.Loc H0 [.box b [u1, u2], .lent RProblem [u1, u2] p, .lent RS [u2] p.2, .lent RSS [u1] p.1] H ∧ ∀ y, y < x → (runOf p.2.length (sgnP p y) rule 0).2 = 0) ⟨rfl, h, fun y hy => by omega⟩ ?_
  rintro x st H J hx ⟨rfl, h, hok⟩ hJ
  refine Wi.fieldAddr (Wl.get h rfl (Wl.len h (Wi.convN (by omega) (Wi.shl1 (by omega) ?_))))
  generalize hN : 2 ^ p.2.length = N at *
  refine Wi.lssC (fun hlt => Wi.tru ?_) fun hge => Wi.fls ?_
  · have hxN : x < N := by omega
    refine Wi.fieldAddr0 (Wl.get h rfl (Wl.lit0 (ty := 2) Rd.int rfl h fun H g h => ?_))
    have hu := (h.rd (cs := [u1])).one
    have hcu := (h.rd (cs := [u1])).cell1
    have hg := (h.rd (cs := [g])).one
    have hcg := (h.rd (cs := [g])).cell1
    have kall : ∀ (g : Value), isCell g = true → [u1, g].all isCell = true := fun g hg => by simp [hcu, hg]
    refine Wi.build (cells := [u1, g]) (by simp [fillA, hg, hu]) (Wl.new h fun H b3 h => Wl.putA h rfl rfl (kall _ hcg) fun H h => ?_)
    refine W.for_rule p.2.length (fun i st H => ∃ g, st = (.int .i64 (i : Nat), ()) ∧ Ab.Loc H0 [.box b3 [u1, g], .grow Rd.int 2 g ((List.range i).map fun j => if x.testBit j then -1 else 1), .box b [u1, u2], .lent RProblem [u1, u2] p, .lent RS [u2] p.2, .lent RSS [u1] p.1] H) ⟨_, rfl, h⟩ ?_
    rintro i st H J2 hi ⟨g, rfl, h⟩ hJ2
    refine Wi.fieldAddr (Wl.get h rfl (Wl.len h (Wi.lssC (fun hlt2 => Wi.tru ?_) fun hge2 => Wi.fls ?_)))
    · have hin : i < p.2.length := by omega
      have hI : I64 ((i : Int) + 1) := by unfold I64; omega
      have hI2 : ∀ y : Nat, I64 (2 * ((y % 2 : Nat) : Int)) ∧ I64 (1 - 2 * ((y % 2 : Nat) : Int)) := fun y => by constructor <;> (unfold I64; omega)
      have ev : 1 - 2 * ((x / 2 ^ i % 2 : Nat) : Int) = if x.testBit i then -1 else 1 := by
        cases hb : x.testBit i with
        | true => have := bit_iff.2 hb; simp only [if_true]; omega
        | false =>
          have : ¬ ((x / 2 ^ i % 2 : Nat) : Int) = 1 := fun e => by rw [bit_iff.1 e] at hb; cases hb
          simp only [Bool.false_eq_true, if_false]
          omega
      refine Wi.fieldAddr (Wl.get h rfl (Wi.convN (by omega) (Wi.shrN (by omega) (by omega) (Wi.and1 (Wi.mul (hI2 _).1 (Wi.sub (hI2 _).2 ?_))))))
      rw [ev]
      refine Wl.pushP (r := Rd.int) (x := if x.testBit i then -1 else 1) rfl rfl rfl (fun _ => ⟨rfl, rfl, by split <;> (unfold I64; omega)⟩) h (by simp; omega) fun H g' h => ?_
      have h : Ab.Loc H0 [.box b3 [u1, g], .grow Rd.int 2 g' ((List.range i).map (fun j => if x.testBit j then (-1 : Int) else 1) ++ [if x.testBit i then -1 else 1]), .box b [u1, u2], .lent RProblem [u1, u2] p, .lent RS [u2] p.2, .lent RSS [u1] p.1] H := h
      rw [range_push (f := fun j => if x.testBit j then (-1 : Int) else 1) rfl] at h
      have hcg := (h.rd (cs := [g'])).cell1
      refine Wi.fieldAddr (Wl.put h hcg (by simp) fun H h => Wi.add hI (hJ2 _ _ hin ⟨g', rfl, h⟩))
    · have : i = p.2.length := by omega
      subst this
      have h := h.asData (i := 1) rfl
      obtain ⟨bs1, q1⟩ := h.rd (cs := [u1])
      obtain ⟨bs2, q2⟩ := h.rd (cs := [g])
      have hP : Has RProblem H [u1, g] (sgnP p x) := ⟨_, bs1, bs2, [u1], [g], rfl, rfl, q1, q2⟩
      have hpbx := sgnP_PB hp x
      refine Wl.getA h rfl (Wi.call (fn72 (s0 := 0) hP hpbx (by rw [hN]; omega) hru fun k e hre H u f => ?_))
      have h := h.add f
      have hrun := runOf_eq hre
      have hk := run_len hn hre
      simp only [gw]
      refine Wi.neqC (fun hne => Wi.tru (hz _ _ _ _ h.le (bad x hxN (by rw [hrun]; exact hne)))) fun he2 => Wi.fls (Wl.len h ?_)
      subst he2
      rw [show (setsL ((List.range (k + 1)).map (ss p.2.length (sgnP p x) rule 0))).length = k + 1 by simp [setsL]]
      refine Wi.sub (by unfold I64; omega) ?_
      rw [show ((k + 1 : Nat) : Int) - 1 = (k : Nat) by omega]
      have hok' : ∀ y, y < x + 1 → (runOf p.2.length (sgnP p y) rule 0).2 = 0 := fun y hy => by
        by_cases e : y = x
        · subst e; rw [hrun]
        · exact hok y (by omega)
      have h := h.tl.tl.tl
      have hJ := hJ (.int .i64 (wsM p rule (x + 1)), .int .i64 (wsW p rule (x + 1)), .int .i64 ((x + 1 : Nat) : Int), ()) H hxN ⟨rfl, h, hok'⟩
      simp only [wsM, wsW] at hJ
      rw [hrun] at hJ
      have hI : I64 ((x : Int) + 1) := by unfold I64; omega
      refine Wi.gtrC (fun hgt => Wi.tru ?_) fun hle => Wi.fls ?_
      · rw [if_pos hgt, if_pos hgt] at hJ
        unfold f31.j1
        exact Wi.add hI hJ
      · rw [if_neg hle, if_neg hle] at hJ
        unfold f31.j1
        exact Wi.add hI hJ
  · have : x = N := by omega
    subst this
    exact hz _ _ _ _ h.le (good fun y hy => hok y hy)

end Go.Proofs.YthfcodelpebjcaaGreat
