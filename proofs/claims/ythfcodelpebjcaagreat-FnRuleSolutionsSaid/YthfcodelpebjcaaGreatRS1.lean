/- Contracts for the law FnRuleSolutions: steps, Murty's problems, draws, problems compared. No condition. -/
import Derived.Test.YthfcodelpebjcaaGreatRSM
import Derived.Test.YthfcodelpebjcaaGreatRU2
import Derived.Test.YthfcodelpebjcaaGreatRP
namespace Go.Proofs.YthfcodelpebjcaaGreat
open Go.Ab

/- loop.example/g01343/spec.StepsByRule -/
def f28.w (Q : Post) (p_0 : Value) (rule_1 : Value) (H : Heap) : Prop :=
  W.box p_0 27 H fun v1 H =>
  W.getN 2 v1 H fun v2 H =>
  W.call Tryz.prog (.func (.func 42) #[] #[]) #[v2, (.int .i64 0), rule_1] H fun v3 H =>
  W.bin .neq v3 (.int .i64 0) H fun v4 H =>
  W.cond v4 H
  (fun H => Q (.tuple #[(.int .i64 0), v3]) H)
  (fun H => W.getN 2 v1 H fun v5 H =>
   W.call Tryz.prog (.func (.func 72) #[] #[]) #[v5, (.int .i64 0), rule_1] H fun v6 H =>
   W.extract 0 v6 H fun v7 H =>
   W.extract 1 v6 H fun v8 H =>
   W.bin .neq v8 (.int .i64 0) H fun v9 H =>
   W.cond v9 H
   (fun H => Q (.tuple #[(.int .i64 0), (.int .i64 4)]) H)
   (fun H => W.len v7 H fun v10 H =>
    W.bin .sub v10 (.int .i64 1) H fun v11 H =>
    Q (.tuple #[v11, (.int .i64 0)]) H))
theorem f28.enter {Q : Post} {p_0 : Value} {rule_1 : Value} {H : Heap} (h : f28.w Q p_0 rule_1 H) : Runs Tryz.prog 28 #[p_0, rule_1] H Q :=
  fn_enter (ann := []) (by kernel_rfl) Tryz.func28 rfl (by kernel_rfl) h (by kernel_rfl)

/- loop.example/g01343/impl.MurtyProblem -/
def f33.l2 (Q : Post) (v11 : Value) (v9 : Value) (x_17 : Value) (I1 : St [17] → Heap → Prop) (I2 : St [7] → Heap → Prop) (k_7 : Value) (H : Heap) : Prop :=
  W.len v11 H fun v14 H =>
  W.bin .lss k_7 v14 H fun v15 H =>
  W.cond v15 H
  (fun H => W.indexAddr 1 v11 k_7 H fun v16 H =>
   W.put v16 (.int .i64 2) H fun _ H =>
   W.bin .add k_7 (.int .i64 1) H fun v17 H =>
   I2 (v17, ()) H)
  (fun H => W.fieldAddr 0 v9 H fun v18 H =>
   W.get v18 H fun v19 H =>
   W.lit 1 [(.slice none 0 0)] 25 [(0, 1, v11)] H fun v20 H =>
   W.append 1 25 v19 v20 H fun v21 H =>
   W.fieldAddr 0 v9 H fun v22 H =>
   W.put v22 v21 H fun _ H =>
   W.bin .add x_17 (.int .i64 1) H fun v23 H =>
   I1 (v23, ()) H)
def f33.l1 (Q : Post) (n_0 : Value) (v9 : Value) (v1 : Value) (I1 : St [17] → Heap → Prop) (x_17 : Value) (H : Heap) : Prop :=
  W.bin .lss x_17 n_0 H fun v10 H =>
  W.cond v10 H
  (fun H => W.make [(.int .i64 0)] 2 n_0 n_0 H fun v11 H =>
   W.indexAddr 1 v11 x_17 H fun v12 H =>
   W.put v12 (.int .i64 1) H fun _ H =>
   W.bin .add x_17 (.int .i64 1) H fun v13 H =>
   W.loop (S := St [7]) (fun I2 s H => f33.l2 Q v11 v9 x_17 I1 I2 s.1 H) (v13, ()) H)
  (fun H => W.getN 2 v9 H fun v24 H =>
   W.putN 2 v1 v24 H fun _ H =>
   W.getN 2 v1 H fun v25 H => Q (.tuple #[v25, (.int .i64 0)]) H)
def f33.w (Q : Post) (n_0 : Value) (H : Heap) : Prop :=
  W.new [(.slice none 0 0), (.slice none 0 0)] 27 H fun v1 H =>
  W.call Tryz.prog (.func (.func 57) #[] #[]) #[n_0, (.int .i64 1), (.int .i64 5)] H fun v2 H =>
  W.un .not v2 H fun v3 H =>
  W.cond v3 H
  (fun H => W.build [(.slice none 0 0), (.slice none 0 0)] [] H fun v4 H =>
   W.putN 2 v1 v4 H fun _ H =>
   W.getN 2 v1 H fun v5 H => Q (.tuple #[v5, (.int .i64 2)]) H)
  (fun H => W.lit 1 [(.int .i64 0)] 2 [(0, 1, (.int .i64 (-1)))] H fun v6 H =>
   W.call Tryz.prog (.func (.func 61) #[] #[]) #[v6, n_0] H fun v7 H =>
   W.build [(.slice none 0 0), (.slice none 0 0)] [(1, 1, v7)] H fun v8 H =>
   W.new [(.slice none 0 0), (.slice none 0 0)] 27 H fun v9 H =>
   W.putN 2 v9 v8 H fun _ H =>
   W.loop (S := St [17]) (fun I1 s H => f33.l1 Q n_0 v9 v1 I1 s.1 H) ((.int .i64 0), ()) H)
theorem f33.enter {Q : Post} {n_0 : Value} {H : Heap} (h : f33.w Q n_0 H) : Runs Tryz.prog 33 #[n_0] H Q :=
  fn_enter (ann := [(5, [17]), (10, [7])]) (by kernel_rfl) Tryz.func33 rfl (by kernel_rfl) h (by kernel_rfl)

/- loop.example/g01343/laws.rows9 -/
def f76.l1 (Q : Post) (a_0 : Value) (b_1 : Value) (I1 : St [5] → Heap → Prop) (i_5 : Value) (H : Heap) : Prop :=
  W.len a_0 H fun v4 H =>
  W.bin .lss i_5 v4 H fun v5 H =>
  W.cond v5 H
  (fun H => W.indexAddr 1 a_0 i_5 H fun v6 H =>
   W.get v6 H fun v7 H =>
   W.indexAddr 1 b_1 i_5 H fun v8 H =>
   W.get v8 H fun v9 H =>
   W.callQ Tryz.prog (.func (.func 12) #[] #[]) #[v7, v9] H fun v10 H =>
   W.un .not v10 H fun v11 H =>
   W.cond v11 H
   (fun H => Q (.bool false) H)
   (fun H => W.bin .add i_5 (.int .i64 1) H fun v12 H =>
    I1 (v12, ()) H))
  (fun H => Q (.bool true) H)
def f76.w (Q : Post) (a_0 : Value) (b_1 : Value) (H : Heap) : Prop :=
  W.len a_0 H fun v1 H =>
  W.len b_1 H fun v2 H =>
  W.bin .neq v1 v2 H fun v3 H =>
  W.cond v3 H
  (fun H => Q (.bool false) H)
  (fun H => W.loop (S := St [5]) (fun I1 s H => f76.l1 Q a_0 b_1 I1 s.1 H) ((.int .i64 0), ()) H)
theorem f76.enter {Q : Post} {a_0 : Value} {b_1 : Value} {H : Heap} (h : f76.w Q a_0 b_1 H) : Runs Tryz.prog 76 #[a_0, b_1] H Q :=
  fn_enter (ann := [(4, [5])]) (by kernel_rfl) Tryz.func76 rfl (by kernel_rfl) h (by kernel_rfl)

/- loop.example/g01343/laws.problem9 -/
def f35.w (Q : Post) (p_0 : Value) (q_1 : Value) (H : Heap) : Prop :=
  W.box p_0 27 H fun v1 H =>
  W.box q_1 27 H fun v2 H =>
  W.fieldAddr 0 v1 H fun v3 H =>
  W.get v3 H fun v4 H =>
  W.fieldAddr 0 v2 H fun v5 H =>
  W.get v5 H fun v6 H =>
  W.call Tryz.prog (.func (.func 76) #[] #[]) #[v4, v6] H fun v7 H =>
  W.guarded v7 true (fun H k => W.fieldAddr 1 v1 H k) H fun v8 H =>
  W.guarded v7 true (fun H k => W.get v8 H k) H fun v9 H =>
  W.guarded v7 true (fun H k => W.fieldAddr 1 v2 H k) H fun v10 H =>
  W.guarded v7 true (fun H k => W.get v10 H k) H fun v11 H =>
  W.guarded v7 true (fun H k => W.call Tryz.prog (.func (.func 12) #[] #[]) #[v9, v11] H k) H fun v12 H =>
  W.pick v7 v12 (.bool false) H fun v13 H =>
  Q v13 H
theorem f35.enter {Q : Post} {p_0 : Value} {q_1 : Value} {H : Heap} (h : f35.w Q p_0 q_1 H) : Runs Tryz.prog 35 #[p_0, q_1] H Q :=
  fn_enter (ann := []) (by kernel_rfl) Tryz.func35 rfl (by kernel_rfl) h (by kernel_rfl)


noncomputable def steRes (p : Prob) (rule : Int) : Int × Int := if ruC p rule = 0 then (if (runOf p.2.length p rule 0).2 = 0 then (((runOf p.2.length p rule 0).1 : Nat), 0) else (0, 4)) else (0, ruC p rule)

theorem fnG27 {H0 : Heap} {Q : Post} {cs : List Value} {p : Prob} {rule : Int} (hr : Has RProblem H0 cs p) (hQ : ∀ H', H0.Le H' → Q (.tuple #[.int .i64 (steRes p rule).1, .int .i64 (steRes p rule).2]) H') : Runs Tryz.prog 27 #[.agg cs.toArray, .int .i64 rule] H0 Q := by
  have hz : ∀ H a c, H0.Le H → steRes p rule = (a, c) → Q (.tuple #[.int .i64 a, .int .i64 c]) H := fun H a c l e => by
    have := hQ H l
    rw [e] at this
    exact this
  by_cases he : ruC p rule = 0
  · obtain ⟨hp, hru⟩ := ruC_eq he
    exact fn27 hr hp hru (fun g H l => hz _ _ _ l (by unfold steRes; rw [if_pos he, if_neg g])) fun g H l => hz _ _ _ l (by unfold steRes; rw [if_pos he, if_pos g])
  · have hlen := hr.len
    have h := (Loc.start H0).lent hr
    refine f27.enter (Wl.box h fun H b h => Wl.getA h hlen (Wi.call (fn69 (h.rd (cs := cs)) fun H l => ?_)))
    have h := h.to l
    exact Wi.neqC (fun _ => Wi.tru (hz _ _ _ h.le (by unfold steRes; rw [if_neg he]))) fun g => absurd g he

theorem fn28 {H0 : Heap} {Q : Post} {cs : List Value} {p : Prob} {rule : Int} (hr : Has RProblem H0 cs p) (hQ : ∀ H', H0.Le H' → Q (.tuple #[.int .i64 (steRes p rule).1, .int .i64 (steRes p rule).2]) H') : Runs Tryz.prog 28 #[.agg cs.toArray, .int .i64 rule] H0 Q := by
  have hlen := hr.len
  have hz : ∀ H a c, H0.Le H → steRes p rule = (a, c) → Q (.tuple #[.int .i64 a, .int .i64 c]) H := fun H a c l e => by
    have := hQ H l
    rw [e] at this
    exact this
  have h := (Loc.start H0).lent hr
  refine f28.enter (Wl.box h fun H b h => Wl.getA h hlen (Wi.call (fnR42 (h.rd (cs := cs)) fun H l => ?_)))
  have h := h.to l
  refine Wi.neqC (fun hne => Wi.tru (hz _ _ _ h.le (by unfold steRes; rw [if_neg hne]))) fun he => Wi.fls ?_
  obtain ⟨hp, hru⟩ := ruC_eq he
  have hpb := PB.of hp
  refine Wl.getA h hlen (Wi.call (fn72 (s0 := 0) (h.rd (cs := cs)) hpb (Nat.pow_pos (by decide)) hru fun k e hre H u f => ?_))
  have h := h.add f
  have hrun := runOf_eq hre
  have hk := run_len hpb.n5 hre
  simp only [gw]
  refine Wi.neqC (fun hne => Wi.tru (hz _ _ _ h.le (by unfold steRes; rw [if_pos he, hrun, if_neg hne]))) fun he2 => Wi.fls ?_
  subst he2
  refine Wl.len h ?_
  rw [show (setsL ((List.range (k + 1)).map (ss p.2.length p rule 0))).length = k + 1 by simp [setsL]]
  refine Wi.sub (by unfold I64; omega) ?_
  rw [show ((k + 1 : Nat) : Int) - 1 = (k : Nat) by omega]
  exact hz _ _ _ h.le (by unfold steRes; rw [if_pos he, hrun, if_pos rfl])

theorem fn33 {H0 : Heap} {Q : Post} {n : Int} (hI : I64 n) (h1 : ¬ (1 ≤ n ∧ n ≤ 5) → ∀ H', H0.Le H' → Q (.tuple #[.agg #[.slice none 0 0, .slice none 0 0], .int .i64 2]) H')
    (h2 : ∀ k : Nat, n = (k : Int) → 1 ≤ k ∧ k ≤ 5 → ∀ H' w1 w2, Fresh RProblem H0 [w1, w2] (muP k) H' → Q (.tuple #[.agg #[w1, w2], .int .i64 0]) H') : Runs Tryz.prog 33 #[.int .i64 n] H0 Q := by
  refine f33.enter ?_
  unfold f33.w
  refine Wl.new (Loc.start H0) fun H b1 h => Wi.call (fn57 ?_)
  cases hin : inR 1 5 n with
  | false =>
    simp only [gw]
    refine Wi.build (cells := [.slice none 0 0, .slice none 0 0]) rfl (Wl.putA (b := b1) (i := 0) h rfl rfl rfl fun H h => Wl.getA (b := b1) h rfl ?_)
    exact h1 (fun g => by rw [inR_iff.2 g] at hin; cases hin) _ h.le
  | true =>
  have hr := inR_iff.1 hin
  obtain ⟨n, rfl⟩ : ∃ k : Nat, n = (k : Int) := ⟨n.toNat, by omega⟩
  have h2 := h2 n rfl ⟨by omega, by omega⟩
  simp only [gw]
  refine Wl.litN [-1] rfl (by decide) (by simp [I64]) rfl h fun H vl h => Wi.call (fn61 (h.rd (cs := [vl])) (by omega) (by omega) fun H q f => ?_)
  have h := h.addG f
  have c2 := (h.rd (cs := [q]) (r := RS)).one
  have k2 := (h.rd (cs := [q]) (r := RS)).cell1
  have k0 : [.slice none 0 0, q].all isCell = true := by rw [List.all_cons, List.all_cons, List.all_nil, k2]; rfl
  have h : Ab.Loc H0 [.grow Rd.int 2 q (List.replicate n (-1)), .data RS [vl] [-1], .box b1 [.slice none 0 0, .slice none 0 0]] H := h
  have h0 : Ab.Loc H0 [.grow RS 25 (.slice none 0 0) [], .grow Rd.int 2 q (List.replicate n (-1)), .data RS [vl] [-1], .box b1 [.slice none 0 0, .slice none 0 0]] H := h.nilG RS 25
  refine Wi.build (cells := [.slice none 0 0, q]) (by simp [fillA, c2]) (Wl.new h0 fun H b7 h => Wl.putA h rfl rfl k0 fun H h => ?_)
  refine W.for_rule n (fun x st H => ∃ u, st = (.int .i64 (x : Nat), ()) ∧ Ab.Loc H0 [.box b7 [u, q], .grow RS 25 u ((List.range x).map (muRow n)), .grow Rd.int 2 q (List.replicate n (-1)), .data RS [vl] [-1], .box b1 [.slice none 0 0, .slice none 0 0]] H) ⟨_, rfl, h⟩ ?_
  rintro x st H J hx ⟨u, rfl, h⟩ hJ
  refine Wi.lssC (fun hlt => Wi.tru ?_) fun hge => Wi.fls ?_
  · have hxn : x < n := by omega
    refine Wl.make (r := Rd.int) (z := 0) (fun _ => ⟨rfl, rfl, by unfold I64; omega⟩) h (by omega) (by decide) fun H w h => ?_
    have h := h.asData (i := 0) rfl
    refine Wl.setInt (v := w) (j := 0) h (i := x) (by simpa using hxn) (by unfold I64; omega) fun H h => ?_
    rw [muRow_one hxn] at h
    have hI : I64 ((x : Int) + 1) := by unfold I64; omega
    refine Wi.add hI ?_
    refine W.for_rule n (fun y st H => st = (.int .i64 ((x + 1 + y : Nat) : Int), ()) ∧ x + 1 + y ≤ n ∧ Ab.Loc H0 [.data RS [w] (muRowTo n x (x + 1 + y)), .box b7 [u, q], .grow RS 25 u ((List.range x).map (muRow n)), .grow Rd.int 2 q (List.replicate n (-1)), .data RS [vl] [-1], .box b1 [.slice none 0 0, .slice none 0 0]] H) ⟨rfl, by omega, h⟩ ?_
    rintro y st H J2 hy ⟨rfl, hyn, h⟩ hJ2
    refine Wl.len (v := w) (xs := muRowTo n x (x + 1 + y)) h ?_
    rw [show (muRowTo n x (x + 1 + y)).length = n by simp [muRowTo]]
    refine Wi.lssC (fun hlt2 => Wi.tru ?_) fun hge2 => Wi.fls ?_
    · refine Wl.setInt (v := w) (j := 0) h (i := x + 1 + y) (by simp [muRowTo]; omega) (by unfold I64; omega) fun H h => Wi.add (by unfold I64; omega) (hJ2 _ _ (by omega) ⟨by congr 1, by omega, ?_⟩)
      rw [muRow_set (by omega)] at h
      exact h
    · have : x + 1 + y = n := by omega
      rw [this, muRow_all] at h
      have hcu := (h.rd (cs := [w]) (r := RS)).one
      refine Wi.fieldAddr (Wl.get (b := b7) (o := 0) h rfl (Wl.pushO (r := RS) (u := w) (x := muRow n x) (i := 2) (j := 0) rfl h (by decide) hcu (by simp; omega) fun H u' h => ?_))
      have h : Ab.Loc H0 [.emp, .box b7 [u, q], .grow RS 25 u' ((List.range x).map (muRow n) ++ [muRow n x]), .grow Rd.int 2 q (List.replicate n (-1)), .data RS [vl] [-1], .box b1 [.slice none 0 0, .slice none 0 0]] H := h
      have k3 := (h.rd (cs := [u']) (r := RSS)).cell1
      refine Wi.fieldAddr (Wl.put (b := b7) (o := 0) (i := 1) h k3 (by simp) fun H h => Wi.add hI (hJ _ _ hxn ⟨u', rfl, ?_⟩))
      rw [List.range_succ, List.map_append]
      exact h.cut 0
  · have : x = n := by omega
    subst this
    have k1 := (h.rd (cs := [u]) (r := RSS)).cell1
    have kc : [u, q].all isCell = true := by simp [k1, k2]
    refine Wl.getA (b := b7) h rfl (Wl.putA (b := b1) (i := 4) h rfl rfl kc fun H h => Wl.getA (b := b1) h rfl ?_)
    exact h2 _ _ _ (((h.asData (i := 1) rfl).asData (i := 2) rfl).ret2 (i := 1) (j := 2) rfl rfl (by decide))

theorem fn32 {H0 : Heap} {Q : Post} {vc : Value} {code : List Int} (hc : Has RBytes H0 [vc] code) (hQ : ∀ H' (x : Int), H0.Le H' → 0 ≤ x ∧ x < 7 → Q (.int .i64 x) H') : Runs Tryz.prog 32 #[vc] H0 Q := by
  refine f32.enter (Wi.call (fn45 hc (Loc.start H0) fun H b h => Wi.call (fn55 (i := 0) h rfl fun H x h hx hx' => ?_)))
  exact hQ _ _ h.le ⟨hx.1, hx' (by decide)⟩

theorem fn29 {H0 : Heap} {Q : Post} {vc : Value} {code : List Int} (hc : Has RBytes H0 [vc] code) (hQ : ∀ H' u1 u2 p (r : Int), Fresh RProblem H0 [u1, u2] p H' → SmallP p → I64 r → Q (.tuple #[.agg #[u1, u2], .int .i64 r]) H') : Runs Tryz.prog 29 #[vc] H0 Q := by
  refine f29.enter (Wl.new (Loc.start H0) fun H b1 h => Wi.call (fn23 (hc.le h.le) fun H u1 u2 p r f hp hI => ?_))
  have h := h.add f
  have kc := (h.rd (cs := [u1, u2]) (r := RProblem)).cell
  simp only [gw]
  refine Wl.putA (b := b1) (i := 1) h rfl rfl kc fun H h => Wl.getA (b := b1) h rfl ?_
  exact hQ _ _ _ p _ (h.ret (i := 0) rfl) hp hI

theorem fn76 {H0 : Heap} {Q : Post} {va vb : Value} {a : List (List Int)} (ha : Has RSS H0 [va] a) (hb : Has RSS H0 [vb] a) (hQ : Q (.bool true) H0) : Runs Tryz.prog 76 #[va, vb] H0 Q := by
  have hsa := ha.small
  refine f76.enter (Wl.lenH ha (Wl.lenH hb (Wi.neqC (fun hne => absurd rfl hne) fun he => Wi.fls ?_)))
  refine W.for_rule a.length (fun i st H => H = H0 ∧ st = (.int .i64 (i : Nat), ())) ⟨rfl, rfl⟩ ?_
  rintro i st H J hi ⟨rfl, rfl⟩ hJ
  refine Wl.lenH ha (Wi.lssC (fun hlt => Wi.tru ?_) fun hge => Wi.fls hQ)
  have hia : i < a.length := by omega
  refine Wl.at1H rfl ha hia fun w1 h1 => Wl.at1H rfl hb hia fun w2 h2 => Wi.callQ (fn12 h1 h2 ⟨.refl _, ?_⟩)
  rw [decide_eq_true rfl]
  simp only [gw]
  exact Wi.add (by unfold I64; omega) (hJ _ _ hia ⟨rfl, rfl⟩)

theorem fn35 {H0 : Heap} {Q : Post} {cs ds : List Value} {p : Prob} (ha : Has RProblem H0 cs p) (hb : Has RProblem H0 ds p) (hQ : ∀ H', H0.Le H' → Q (.bool true) H') : Runs Tryz.prog 35 #[.agg cs.toArray, .agg ds.toArray] H0 Q := by
  obtain ⟨u1, u2, rfl, r1, r2⟩ := hasProb ha
  obtain ⟨w1, w2, rfl, s1, s2⟩ := hasProb hb
  have h := (((((Loc.start H0).lent r1).lent r2).lent s1).lent s2).lent ha |>.lent hb
  refine f35.enter (Wl.box h fun H x h => Wl.box h fun H y h => ?_)
  refine Wi.fieldAddr (Wl.get (b := x) (o := 0) h rfl (Wi.fieldAddr (Wl.get (b := y) (o := 0) h rfl (Wi.call (fn76 (h.rd (cs := [u1])) (h.rd (cs := [w1])) ?_)))))
  simp only [gw]
  refine Wi.fieldAddr (Wl.get (b := x) (o := 1) h rfl (Wi.fieldAddr (Wl.get (b := y) (o := 1) h rfl (Wi.call (fn12 (h.rd (cs := [u2])) (h.rd (cs := [w2])) ?_)))))
  rw [decide_eq_true rfl]
  exact hQ _ h.le

end Go.Proofs.YthfcodelpebjcaaGreat
