/- The reference's parts of SolutionsOf; solutions compared; PivotOf. No condition. -/
import Derived.Test.YtdmgomeogedjgaaGreatSR3
import Derived.Test.YtdmgomeogedjgaaGreatCV1
import Derived.Test.YtdmgomeogedjgaaGreatFR9
import Derived.Test.YtdmgomeogedjgaaGreatPV0
import Derived.Test.YtdmgomeogedjgaaGreatGZP
import Derived.Test.YtdmgomeogedjgaaGreatFB
namespace Go.Proofs.YtdmgomeogedjgaaGreat
open Go.Ab

/- loop.example/g01343/spec.l02Feasible -/
def f56.l1 (Q : Post) (v4 : Value) (I1 : St [6, 7] → Heap → Prop) (ok_6 : Value) (i_7 : Value) (H : Heap) : Prop :=
  W.len v4 H fun v6 H =>
  W.bin .lss i_7 v6 H fun v7 H =>
  W.guarded v7 true (fun H k => k ok_6 H) H fun v8 H =>
  W.pick v7 v8 (.bool false) H fun v9 H =>
  W.cond v9 H
  (fun H => W.indexAddr 2 v4 i_7 H fun v10 H =>
   W.fieldAddr 0 v10 H fun v11 H =>
   W.get v11 H fun v12 H =>
   W.bin .geq v12 (.int .i64 0) H fun v13 H =>
   W.bin .add i_7 (.int .i64 1) H fun v14 H =>
   I1 (v13, v14, ()) H)
  (fun H => Q ok_6 H)
def f56.w (Q : Post) (p_0 : Value) (s_1 : Value) (H : Heap) : Prop :=
  W.box p_0 31 H fun v1 H =>
  W.getN 2 v1 H fun v2 H =>
  W.call Tryz.prog (.func (.func 37) #[] #[]) #[v2, s_1] H fun v3 H =>
  W.extract 0 v3 H fun v4 H =>
  W.extract 1 v3 H fun v5 H =>
  W.loop (S := St [6, 7]) (fun I1 s H => f56.l1 Q v4 I1 s.1 s.2.1 H) (v5, (.int .i64 0), ()) H
theorem f56.enter {Q : Post} {p_0 : Value} {s_1 : Value} {H : Heap} (h : f56.w Q p_0 s_1 H) : Runs Tryz.prog 56 #[p_0, s_1] H Q :=
  fn_enter (ann := [(3, [6, 7])]) (by kernel_rfl) Tryz.func56 rfl (by kernel_rfl) h (by kernel_rfl)

/- loop.example/g01343/spec.l02Before -/
def f58.l1 (Q : Post) (a_0 : Value) (b_1 : Value) (I1 : St [5] → Heap → Prop) (i_5 : Value) (H : Heap) : Prop :=
  W.len a_0 H fun v1 H =>
  W.bin .lss i_5 v1 H fun v2 H =>
  W.cond v2 H
  (fun H => W.indexAddr 2 a_0 i_5 H fun v3 H =>
   W.getN 2 v3 H fun v4 H =>
   W.indexAddr 2 b_1 i_5 H fun v5 H =>
   W.getN 2 v5 H fun v6 H =>
   W.eqPair .neq v4 v6 H fun v7 H =>
   W.cond v7 H
   (fun H => W.indexAddr 2 a_0 i_5 H fun v8 H =>
    W.getN 2 v8 H fun v9 H =>
    W.indexAddr 2 b_1 i_5 H fun v10 H =>
    W.getN 2 v10 H fun v11 H =>
    W.callQ Tryz.prog (.func (.func 109) #[] #[]) #[v9, v11] H fun v12 H =>
    Q v12 H)
   (fun H => W.bin .add i_5 (.int .i64 1) H fun v13 H =>
    I1 (v13, ()) H))
  (fun H => Q (.bool false) H)
def f58.w (Q : Post) (a_0 : Value) (b_1 : Value) (H : Heap) : Prop :=
  W.loop (S := St [5]) (fun I1 s H => f58.l1 Q a_0 b_1 I1 s.1 H) ((.int .i64 0), ()) H
theorem f58.enter {Q : Post} {a_0 : Value} {b_1 : Value} {H : Heap} (h : f58.w Q a_0 b_1 H) : Runs Tryz.prog 58 #[a_0, b_1] H Q :=
  fn_enter (ann := [(2, [5])]) (by kernel_rfl) Tryz.func58 rfl (by kernel_rfl) h (by kernel_rfl)

/- loop.example/g01343/spec.l02Told -/
def f29.l1 (Q : Post) (list_0 : Value) (I1 : St [4] → Heap → Prop) (i_4 : Value) (H : Heap) : Prop :=
  W.len list_0 H fun v1 H =>
  W.bin .lss i_4 v1 H fun v2 H =>
  W.cond v2 H
  (fun H => W.indexAddr 2 list_0 i_4 H fun v3 H =>
   W.fieldAddr 0 v3 H fun v4 H =>
   W.get v4 H fun v5 H =>
   W.call Tryz.prog (.func (.func 44) #[] #[]) #[v5, (.int .i64 (-1000000000)), (.int .i64 1000000000)] H fun v6 H =>
   W.un .not v6 H fun v7 H =>
   W.guarded v7 false (fun H k => k list_0 H) H fun v8 H =>
   W.guarded v7 false (fun H k => k i_4 H) H fun v9 H =>
   W.guarded v7 false (fun H k => W.indexAddr 2 v8 v9 H k) H fun v10 H =>
   W.guarded v7 false (fun H k => W.fieldAddr 1 v10 H k) H fun v11 H =>
   W.guarded v7 false (fun H k => W.get v11 H k) H fun v12 H =>
   W.guarded v7 false (fun H k => W.bin .gtr v12 (.int .i64 1000000000) H k) H fun v13 H =>
   W.pick v7 (.bool true) v13 H fun v14 H =>
   W.cond v14 H
   (fun H => Q (.tuple #[(.slice none 0 0), (.int .i64 3)]) H)
   (fun H => W.bin .add i_4 (.int .i64 1) H fun v15 H =>
    I1 (v15, ()) H))
  (fun H => Q (.tuple #[list_0, (.int .i64 0)]) H)
def f29.w (Q : Post) (list_0 : Value) (H : Heap) : Prop :=
  W.loop (S := St [4]) (fun I1 s H => f29.l1 Q list_0 I1 s.1 H) ((.int .i64 0), ()) H
theorem f29.enter {Q : Post} {list_0 : Value} {H : Heap} (h : f29.w Q list_0 H) : Runs Tryz.prog 29 #[list_0] H Q :=
  fn_enter (ann := [(2, [4])]) (by kernel_rfl) Tryz.func29 rfl (by kernel_rfl) h (by kernel_rfl)

/- loop.example/g01343/laws.solutions9 -/
def f10.l1 (Q : Post) (a_0 : Value) (b_1 : Value) (I1 : St [5] → Heap → Prop) (i_5 : Value) (H : Heap) : Prop :=
  W.len a_0 H fun v4 H =>
  W.bin .lss i_5 v4 H fun v5 H =>
  W.cond v5 H
  (fun H => W.indexAddr 1 a_0 i_5 H fun v6 H =>
   W.get v6 H fun v7 H =>
   W.indexAddr 1 b_1 i_5 H fun v8 H =>
   W.get v8 H fun v9 H =>
   W.callQ Tryz.prog (.func (.func 14) #[] #[]) #[v7, v9] H fun v10 H =>
   W.un .not v10 H fun v11 H =>
   W.cond v11 H
   (fun H => Q (.bool false) H)
   (fun H => W.bin .add i_5 (.int .i64 1) H fun v12 H =>
    I1 (v12, ()) H))
  (fun H => Q (.bool true) H)
def f10.w (Q : Post) (a_0 : Value) (b_1 : Value) (H : Heap) : Prop :=
  W.len a_0 H fun v1 H =>
  W.len b_1 H fun v2 H =>
  W.bin .neq v1 v2 H fun v3 H =>
  W.cond v3 H
  (fun H => Q (.bool false) H)
  (fun H => W.loop (S := St [5]) (fun I1 s H => f10.l1 Q a_0 b_1 I1 s.1 H) ((.int .i64 0), ()) H)
theorem f10.enter {Q : Post} {a_0 : Value} {b_1 : Value} {H : Heap} (h : f10.w Q a_0 b_1 H) : Runs Tryz.prog 10 #[a_0, b_1] H Q :=
  fn_enter (ann := [(4, [5])]) (by kernel_rfl) Tryz.func10 rfl (by kernel_rfl) h (by kernel_rfl)


theorem covB_pt {n : Nat} {p : Prob} {s : Nat} (h : det n (mAt (colL n p.1 s)) ≠ 0) : covB n p s = (pointF n (colL n p.1 s) p.2).all fun a => decide (0 ≤ a.1) := by
  rw [(pointF_all h).1]
  unfold covB
  rw [decide_eq_true h, Bool.true_and]

theorem fn56 {H0 : Heap} {Q : Post} {cs : List Value} {p : Prob} {n s : Nat} (hr : Has RProblem H0 cs p) (hp : PB n p) (hs : s < 9223372036854775808) (hQ : ∀ H', H0.Le H' → Q (.bool (covB n p s)) H') : Runs Tryz.prog 56 #[.agg cs.toArray, .int .i64 (s : Nat)] H0 Q := by
  have hlen := hr.len
  have hn := hp.n5
  refine f56.enter ?_
  unfold f56.w
  have h := (Loc.start H0).lent hr
  refine Wl.box h fun H b h => Wl.getA h hlen (Wi.call (fn37 (h.rd (cs := cs)) hp hs (fun hz H l => ?_) fun hnz H u f => ?_))
  · have h := (h.to l).nilG RFrac 67
    simp only [gw]
    refine W.for_rule 1 (fun _ st H' => st = (.bool false, .int .i64 0, ()) ∧ H' = H) ⟨rfl, rfl⟩ ?_
    rintro _ st H' J _ ⟨rfl, rfl⟩ _
    refine Wl.len (v := .slice none 0 0) (xs := ([] : List Frac)) h (Wi.lssC (fun g => absurd g (by simp)) fun _ => ?_)
    simp only [gw]
    have e : covB n p s = false := by unfold covB; rw [decide_eq_false (fun g => g hz), Bool.false_and]
    have := hQ _ h.le
    rw [e] at this
    exact this
  simp only [gw]
  have h := h.add f
  have hpl : (pointF n (colL n p.1 s) p.2).length = n := by simp [pointF, solveL_len]
  refine W.for_rule n (fun i st H' => st = (.bool (((pointF n (colL n p.1 s) p.2).take i).all fun a => decide (0 ≤ a.1)), .int .i64 (i : Nat), ()) ∧ Ab.Loc H0 [.data RFS [u] (pointF n (colL n p.1 s) p.2)] H') ⟨rfl, h.first 1⟩ ?_
  rintro i st H J hi ⟨rfl, h⟩ hJ
  refine Wl.len h (Wi.lssC (fun hlt => ?_) fun hge => ?_)
  · have hin : i < n := by omega
    have hif : i < (pointF n (colL n p.1 s) p.2).length := by omega
    have t1 := take_all (f := fun a : Frac => decide (0 ≤ a.1)) hif
    simp only [gw]
    generalize e1 : ((pointF n (colL n p.1 s) p.2).take i).all (fun a => decide (0 ≤ a.1)) = c at *
    cases c with
    | false =>
      simp only [gw]
      have e : covB n p s = false := by
        rw [covB_pt hnz, List.all_eq_false]
        obtain ⟨a, ha, hb⟩ := List.all_eq_false.1 e1
        exact ⟨a, List.mem_of_mem_take ha, hb⟩
      have := hQ _ h.le
      rw [e] at this
      exact this
    | true =>
      simp only [gw]
      refine Wl.numFr h hif fun _ => Wi.geq (Wi.add (by unfold I64; omega) (hJ _ _ hin ⟨?_, h⟩))
      rw [t1]
      rfl
  · have : i = n := by omega
    subst this
    simp only [gw]
    have ht : (pointF i (colL i p.1 s) p.2).take i = pointF i (colL i p.1 s) p.2 := List.take_of_length_le (by omega)
    rw [ht, ← covB_pt hnz]
    exact hQ _ h.le

theorem fn29 {H0 : Heap} {Q : Post} {v : Value} {Z : List Frac} (hz : ∀ a ∈ Z, isFr 1000000000 a = true) (hr : Has RFS H0 [v] Z) (hQ : Q (.tuple #[v, .int .i64 0]) H0) : Runs Tryz.prog 29 #[v] H0 Q := by
  have hsa := hr.small
  refine f29.enter ?_
  unfold f29.w
  refine W.for_rule Z.length (fun i st H => H = H0 ∧ st = (.int .i64 (i : Nat), ())) ⟨rfl, rfl⟩ ?_
  rintro i st H J hi ⟨rfl, rfl⟩ hJ
  refine Wl.lenH hr (Wi.lssC (fun hlt => Wi.tru ?_) fun hge => Wi.fls hQ)
  have hia : i < Z.length := by omega
  obtain ⟨g1, g2, _⟩ := isFr_iff.1 (hz _ (List.getElem_mem hia))
  refine Wl.numFrH hr hia fun _ => Wi.call (fn44 ?_)
  rw [inR_iff.2 ⟨by omega, by omega⟩]
  simp only [gw]
  refine Wl.denFrH hr hia fun _ => ?_
  generalize hT : (1000000000 : Int) = top at *
  refine Wi.gtrC (fun g => absurd g (by omega)) fun _ => ?_
  simp only [gw]
  exact Wi.add (by unfold I64; omega) (hJ _ _ hia ⟨rfl, rfl⟩)

theorem fn10 {H0 : Heap} {Q : Post} {va vb : Value} {a : List (List Frac)} (ha : Has (Rd.slice RFS) H0 [va] a) (hb : Has (Rd.slice RFS) H0 [vb] a) (hQ : Q (.bool true) H0) : Runs Tryz.prog 10 #[va, vb] H0 Q := by
  have hsa := ha.small
  refine f10.enter (Wl.lenH ha (Wl.lenH hb (Wi.neqC (fun hne => absurd rfl hne) fun he => Wi.fls ?_)))
  refine W.for_rule a.length (fun i st H => H = H0 ∧ st = (.int .i64 (i : Nat), ())) ⟨rfl, rfl⟩ ?_
  rintro i st H J hi ⟨rfl, rfl⟩ hJ
  refine Wl.lenH ha (Wi.lssC (fun hlt => Wi.tru ?_) fun hge => Wi.fls hQ)
  have hia : i < a.length := by omega
  refine Wl.at1H rfl ha hia fun w1 h1 => Wl.at1H rfl hb hia fun w2 h2 => Wi.callQ (fn14 h1 h2 ⟨.refl _, ?_⟩)
  rw [decide_eq_true rfl]
  refine Wi.not (Wi.fls ?_)
  exact Wi.add (by unfold I64; omega) (hJ _ _ hia ⟨rfl, rfl⟩)

theorem fn16 {H0 : Heap} {Q : Post} {cs : List Value} {p : Prob} {s : Nat} (hr : Has RProblem H0 cs p) (hp : isProb p = true) (hs : s < 2 ^ p.2.length) (hD : det p.2.length (mAt (colL p.2.length p.1 s)) ≠ 0)
    (h2 : ∀ H' d w1 w2 rows, Fresh (RSS.pair RS) H0 [w1, w2] (rows, ptOf p.2.length p s) H' → isCell d = true → Q (.tuple #[.agg #[d, w1, w2], .int .i64 0]) H') : Runs Tryz.prog 16 #[.agg cs.toArray, .int .i64 (s : Nat)] H0 Q := by
  have hlen := hr.len
  have hset : setC p (s : Nat) = 0 := by
    unfold setC
    rw [if_pos hp, if_pos (inR_iff.2 ⟨by omega, by omega⟩)]
  have h := (Loc.start H0).lent hr
  refine f16.enter (Wl.box h fun H b h => Wl.new h fun H b2 h => Wl.getA (b := b) h hlen (Wi.call (f39.enter ?_)))
  unfold f39.w
  refine Wl.box h fun H c h => Wl.new h fun H c2 h => Wl.getA (b := c) h hlen (Wi.call (fn48 (h.rd (cs := cs)) fun H l => ?_))
  have h := h.to l
  rw [hset]
  refine Wi.neqC (fun g => absurd rfl g) fun _ => Wi.fls (Wl.getA (b := c) h hlen (Wi.call (fn80 (h.rd (cs := cs)) hp hs (fun g => absurd g hD) fun _ H w1 w2 rows f => ?_)))
  have h := h.add2 (c1 := [w1]) (c2 := [w2]) rfl f
  have k1 := (h.rd (cs := [w1]) (r := RSS)).cell1
  have k2 := (h.rd (cs := [w2]) (r := RS)).cell1
  have kc : [.int .i64 ((det p.2.length (mAt (colL p.2.length p.1 s))).natAbs : Int), w1, w2].all isCell = true := by
    rw [List.all_cons, List.all_cons, List.all_cons, List.all_nil, k1, k2]
    rfl
  simp only [gw]
  refine Wl.new h fun H b12 h => Wl.putA h rfl rfl kc fun H h => Wl.getA (b := b12) h rfl (Wl.putA (b := c2) (i := 3) h rfl rfl kc fun H h => Wl.getA (b := c2) h rfl ?_)
  refine Wl.putA (b := b2) (i := 5) h rfl rfl kc fun H h => Wl.getA (b := b2) h rfl ?_
  exact h2 _ _ w1 w2 rows (Loc.ret2 h (c1 := [w1]) (c2 := [w2]) (i := 1) (j := 2) rfl rfl (by decide)) rfl

end Go.Proofs.YtdmgomeogedjgaaGreat
/-! The solution of a set, the reference's; P matrices have one solution. No condition. -/
namespace Go.Proofs.YtdmgomeogedjgaaGreat
open Go.Ab

/- loop.example/g01343/spec.l02Solution -/
def f57.j1 (Q : Post) (i_7 : Value) (I1 : St [7] → Heap → Prop) (H : Heap) : Prop :=
  W.bin .add i_7 (.int .i64 1) H fun v14 H =>
  I1 (v14, ()) H
def f57.l1 (Q : Post) (v4 : Value) (s_1 : Value) (I1 : St [7] → Heap → Prop) (i_7 : Value) (H : Heap) : Prop :=
  W.len v4 H fun v6 H =>
  W.bin .lss i_7 v6 H fun v7 H =>
  W.cond v7 H
  (fun H => W.conv .u64 i_7 H fun v8 H =>
   W.bin .shr s_1 v8 H fun v9 H =>
   W.bin .and v9 (.int .i64 1) H fun v10 H =>
   W.bin .eql v10 (.int .i64 0) H fun v11 H =>
   W.cond v11 H
   (fun H => W.build [(.int .i64 0), (.int .i64 0)] [(0, 1, (.int .i64 0)), (1, 1, (.int .i64 1))] H fun v12 H =>
    W.indexAddr 2 v4 i_7 H fun v13 H =>
    W.putN 2 v13 v12 H fun _ H =>
    f57.j1 Q i_7 I1 H)
   (fun H => f57.j1 Q i_7 I1 H))
  (fun H => Q v4 H)
def f57.w (Q : Post) (p_0 : Value) (s_1 : Value) (H : Heap) : Prop :=
  W.box p_0 31 H fun v1 H =>
  W.getN 2 v1 H fun v2 H =>
  W.call Tryz.prog (.func (.func 37) #[] #[]) #[v2, s_1] H fun v3 H =>
  W.extract 0 v3 H fun v4 H =>
  W.extract 1 v3 H fun v5 H =>
  W.loop (S := St [7]) (fun I1 s H => f57.l1 Q v4 s_1 I1 s.1 H) ((.int .i64 0), ()) H
theorem f57.enter {Q : Post} {p_0 : Value} {s_1 : Value} {H : Heap} (h : f57.w Q p_0 s_1 H) : Runs Tryz.prog 57 #[p_0, s_1] H Q :=
  fn_enter (ann := [(3, [7])]) (by kernel_rfl) Tryz.func57 rfl (by kernel_rfl) h (by kernel_rfl)


theorem fn57 {H0 : Heap} {Q : Post} {cs : List Value} {p : Prob} {n s : Nat} (hr : Has RProblem H0 cs p) (hpb : PB n p) (hs : s < 9223372036854775808) (hD : det n (mAt (colL n p.1 s)) ≠ 0) (hQ : ∀ H' u, Fresh RFS H0 [u] (solF n p s) H' → Q u H') : Runs Tryz.prog 57 #[.agg cs.toArray, .int .i64 (s : Nat)] H0 Q := by
  have hlen := hr.len
  have hn := hpb.n5
  have h := (Loc.start H0).lent hr
  refine f57.enter ?_
  unfold f57.w
  refine Wl.box h fun H b h => Wl.getA h hlen (Wi.call (fn37 (h.rd (cs := cs)) hpb hs (fun g => absurd g hD) fun _ H w f => ?_))
  have h := h.add f
  simp only [gw]
  have e0 : pointF n (colL n p.1 s) p.2 = (List.range n).map fun i => if i < 0 ∧ s.testBit i = false then (0, 1) else frac ((solveL n (colL n p.1 s) p.2).getD i 0) (det n (mAt (colL n p.1 s))) := by
    apply List.ext_getElem
    · simp [pointF, solveL_len]
    · intro j h1 h2
      rw [pointF_at]
      have : j < (solveL n (colL n p.1 s) p.2).length := by simpa [pointF] using h1
      simp [List.getD_eq_getElem?_getD, List.getElem?_eq_getElem this]
  rw [e0] at h
  refine W.for_rule n (fun x st H => st = (.int .i64 (x : Nat), ()) ∧ Ab.Loc H0 [.data RFS [w] ((List.range n).map fun i => if i < x ∧ s.testBit i = false then (0, 1) else frac ((solveL n (colL n p.1 s) p.2).getD i 0) (det n (mAt (colL n p.1 s))))] H) ⟨rfl, h.first 1⟩ ?_
  rintro x st H J hx ⟨rfl, h⟩ hJ
  have hI : I64 ((x : Int) + 1) := by unfold I64; omega
  refine Wl.len h ?_
  rw [show ((List.range n).map fun i => if i < x ∧ s.testBit i = false then ((0, 1) : Frac) else frac ((solveL n (colL n p.1 s) p.2).getD i 0) (det n (mAt (colL n p.1 s)))).length = n by simp]
  refine Wi.lssC (fun hlt => Wi.tru ?_) fun hge => Wi.fls ?_
  · have hxn : x < n := by omega
    refine Wi.convN (by omega) (Wi.shrN (by omega) (by omega) (Wi.and1 (Wi.eqlC (fun hz0 => Wi.tru ?_) fun hnz => Wi.fls ?_)))
    · have hb : s.testBit x = false := by
        cases hb : s.testBit x with
        | false => rfl
        | true => have := bit_iff.2 hb; omega
      refine Wi.build (cells := frC (0, 1)) rfl (Wl.setP (r := RFrac) (y := ((0, 1) : Frac)) rfl h (by simpa using hxn) (frac_rel ⟨by unfold I64; decide, by unfold I64; decide⟩) fun H h => ?_)
      unfold f57.j1
      refine Wi.add hI (hJ _ _ hxn ⟨rfl, ?_⟩)
      have e : ((List.range n).map fun i => if i < x ∧ s.testBit i = false then ((0, 1) : Frac) else frac ((solveL n (colL n p.1 s) p.2).getD i 0) (det n (mAt (colL n p.1 s)))).set x (0, 1) = (List.range n).map fun i => if i < x + 1 ∧ s.testBit i = false then ((0, 1) : Frac) else frac ((solveL n (colL n p.1 s) p.2).getD i 0) (det n (mAt (colL n p.1 s))) := by
        apply List.ext_getElem
        · simp
        · intro j h1 h2
          rw [List.getElem_set]
          simp only [List.getElem_map, List.getElem_range]
          by_cases g : x = j
          · subst g; simp [hb]
          · rw [if_neg g]
            by_cases g2 : j < x
            · simp [g2, show j < x + 1 by omega]
            · simp [g2, show ¬ j < x + 1 by omega]
      rw [e] at h
      exact h
    · have hb : s.testBit x = true := bit_iff.1 (by omega)
      unfold f57.j1
      refine Wi.add hI (hJ _ _ hxn ⟨rfl, ?_⟩)
      have e : ((List.range n).map fun i => if i < x ∧ s.testBit i = false then ((0, 1) : Frac) else frac ((solveL n (colL n p.1 s) p.2).getD i 0) (det n (mAt (colL n p.1 s)))) = (List.range n).map fun i => if i < x + 1 ∧ s.testBit i = false then ((0, 1) : Frac) else frac ((solveL n (colL n p.1 s) p.2).getD i 0) (det n (mAt (colL n p.1 s))) := List.map_congr_left fun j _ => by
        by_cases g2 : j < x
        · simp [g2, show j < x + 1 by omega]
        · by_cases g3 : j = x
          · subst g3; simp [hb]
          · simp [g2, show ¬ j < x + 1 by omega]
      rw [← e]
      exact h
  · have : x = n := by omega
    subst this
    have e : ((List.range x).map fun i => if i < x ∧ s.testBit i = false then ((0, 1) : Frac) else frac ((solveL x (colL x p.1 s) p.2).getD i 0) (det x (mAt (colL x p.1 s)))) = solF x p s := List.map_congr_left fun k hk => by
      have hk : k < x := by simpa using hk
      cases hb : s.testBit k <;> simp [hk]
    rw [e] at h
    exact hQ _ _ (h.ret (i := 0) rfl)

/-! ### One solution -/

theorem frac_like {x y a b : Int} (ha : 0 < a) (hb : 0 < b) (h : x * b = y * a) : frac x a = frac y b := by
  have p1 := frac_pos (n := x) (d := a) (by omega)
  have p2 := frac_pos (n := y) (d := b) (by omega)
  have m1 := frac_mul (n := x) (d := a) (by omega)
  have m2 := frac_mul (n := y) (d := b) (by omega)
  refine (frac_cross (by omega) (by omega) (frac_gcd (by omega)) (frac_gcd (by omega))).1 ?_
  generalize frac x a = u at *
  generalize frac y b = v at *
  have : u.1 * v.2 * (a * b) = v.1 * u.2 * (a * b) := by
    rw [show u.1 * v.2 * (a * b) = u.1 * a * (v.2 * b) by ac_rfl, m1, show v.1 * u.2 * (a * b) = v.1 * b * (u.2 * a) by ac_rfl, m2, show x * u.2 * (v.2 * b) = x * b * (u.2 * v.2) by ac_rfl, h]
    ac_rfl
  exact Int.eq_of_mul_eq_mul_right (Int.mul_ne_zero (by omega) (by omega)) this

theorem solF_pt {n : Nat} {p : Prob} {s : Nat} (hD : det n (mAt (colL n p.1 s)) ≠ 0) {i : Nat} (hi : i < n) : frac ((solveL n (colL n p.1 s) p.2).getD i 0) (det n (mAt (colL n p.1 s))) = frac ((ptOf n p s).getD i 0) ((det n (mAt (colL n p.1 s))).natAbs : Nat) := by
  rw [pt_at hi, frac_scale hD]

theorem P_solF {n : Nat} {p : Prob} (hP : IsP n p.1) {s t : Nat} (hs : s < 2 ^ n) (ht : t < 2 ^ n) (h1 : ∀ i, i < n → 0 ≤ (ptOf n p s).getD i 0) (h2 : ∀ i, i < n → 0 ≤ (ptOf n p t).getD i 0) : solF n p s = solF n p t := by
  have hDs := P_det hP hs
  have hDt := P_det hP ht
  refine List.map_congr_left fun i hi => ?_
  have hin : i < n := by simpa using hi
  by_cases e : s.testBit i = t.testBit i
  · have hl := P_like hP hs ht h1 h2 i hin e
    rw [e, solF_pt hDs hin, solF_pt hDt hin, frac_like (by omega) (by omega) hl]
  · obtain ⟨z1, z2⟩ := P_only hP hs ht h1 h2 i hin e
    rw [solF_pt hDs hin, solF_pt hDt hin, z1, z2, frac_zero (by omega), frac_zero (by omega)]
    split <;> split <;> rfl

end Go.Proofs.YtdmgomeogedjgaaGreat

/-! Problems with P matrices: one solution, which the rule 0 finds. No condition. -/
namespace Go.Proofs.YtdmgomeogedjgaaGreat
open Go.Ab

theorem covB_P {n : Nat} {p : Prob} {s : Nat} (hD : det n (mAt (colL n p.1 s)) ≠ 0) : covB n p s = true ↔ ∀ i, i < n → 0 ≤ (ptOf n p s).getD i 0 := by
  unfold covB
  rw [decide_eq_true hD, Bool.true_and, List.all_eq_true]
  constructor
  · intro h i hi
    have hl : i < (ptOf n p s).length := by rw [ptOf_len]; exact hi
    rw [atD hl]
    exact of_decide_eq_true (h _ (List.getElem_mem hl))
  · intro h x hx
    obtain ⟨i, hi, rfl⟩ := List.mem_iff_getElem.1 hx
    have hin : i < n := by simpa [pointL, solveL] using hi
    have := h i hin
    rw [atD (show i < (ptOf n p s).length by rw [ptOf_len]; exact hin)] at this
    exact decide_eq_true this

theorem frac_fr {x D : Int} (hD : D ≠ 0) (h1 : x.natAbs ≤ 1000000000) (h2 : D.natAbs ≤ 1000000000) : isFr 1000000000 (frac x D) = true := by
  have p1 := frac_pos (n := x) hD
  have m1 := frac_mul (n := x) hD
  have g1 := frac_gcd (n := x) hD
  generalize frac x D = c at *
  have hdvd : c.2 ∣ D := by
    have : c.2 ∣ c.1 * D := ⟨x, by rw [m1, Int.mul_comm]⟩
    exact Int.natAbs_dvd_natAbs.1 (Nat.Coprime.dvd_of_dvd_mul_left (show Nat.gcd c.2.natAbs c.1.natAbs = 1 by rw [Nat.gcd_comm]; exact g1) (by rw [← Int.natAbs_mul]; exact Int.natAbs_dvd_natAbs.2 this))
  have hle : c.2.natAbs ≤ D.natAbs := Nat.le_of_dvd (by omega) (Int.natAbs_dvd_natAbs.2 hdvd)
  have hx : c.1.natAbs ≤ x.natAbs := by
    obtain ⟨k, hk⟩ := hdvd
    have hk0 : k ≠ 0 := fun e => hD (by rw [hk, e, Int.mul_zero])
    rw [hk, ← Int.mul_assoc, Int.mul_comm (c.1) (c.2), Int.mul_assoc, Int.mul_comm x] at m1
    have := Int.eq_of_mul_eq_mul_left (show c.2 ≠ 0 by omega) m1
    rw [← this, Int.natAbs_mul]
    exact Nat.le_mul_of_pos_right _ (by omega)
  exact isFr_iff.2 ⟨⟨by omega, by omega⟩, ⟨by omega, by omega⟩, g1⟩

theorem solF_fr {n : Nat} {p : Prob} {s : Nat} (hp : PB n p) (hD : det n (mAt (colL n p.1 s)) ≠ 0) : ∀ a ∈ solF n p s, isFr 1000000000 a = true := fun a ha => by
  obtain ⟨i, hi, rfl⟩ := List.mem_map.1 ha
  have hin : i < n := by simpa using hi
  split
  · have hl : i < (solveL n (colL n p.1 s) p.2).length := by rw [solveL_len]; exact hin
    have h1 := solve_had s hp.n5 hp.m hp.q _ (List.getElem_mem hl)
    have h2 := colL_leib s hp.n5 hp.m
    rw [atD hl]
    exact frac_fr hD (by omega) (by omega)
  · decide

/-- What a problem with a P matrix comes to. -/
theorem top_facts {p : Prob} (hp : isProb p = true) (hP : IsP p.2.length p.1) : ∃ (Z : List Frac) (s0 : Nat), s0 < 2 ^ p.2.length ∧ covB p.2.length p s0 = true ∧ (∀ s, s < 2 ^ p.2.length → covB p.2.length p s = true → solF p.2.length p s = Z) ∧ (∀ a ∈ Z, isFr 1000000000 a = true) ∧ srRes p 0 = (Z, 0) := by
  have hpb := PB.of hp
  obtain ⟨s0, h1, h2⟩ := P_some (n := p.2.length) (p := p) hP
  have hD := fun s (hs : s < 2 ^ p.2.length) => P_det (p := p) hP hs
  have hall : ∀ s, s < 2 ^ p.2.length → covB p.2.length p s = true → solF p.2.length p s = solF p.2.length p s0 := fun s hs hc => P_solF hP hs h1 ((covB_P (hD s hs)).1 hc) h2
  have hfr := solF_fr hpb (hD s0 h1)
  refine ⟨solF p.2.length p s0, s0, h1, (covB_P (hD s0 h1)).2 h2, hall, hfr, ?_⟩
  obtain ⟨k, hk⟩ := P_run (n := p.2.length) (p := p) hP (s0 := 0) (Nat.pow_pos (by decide))
  have hc := cls_zero hk.2
  have hss := ss_lt (n := p.2.length) (p := p) (rule := 0) (s0 := 0) (Nat.pow_pos (by decide)) k
  have he : ruC p 0 = 0 := by unfold ruC; rw [if_pos hp, if_pos (by decide)]
  have e := hall _ hss ((covB_P hc.1).2 fun i hi => by
    have hl : i < (ptOf p.2.length p (ss p.2.length p 0 0 k)).length := by rw [ptOf_len]; exact hi
    rw [atD hl]
    exact hc.2 _ (List.getElem_mem hl))
  unfold srRes
  rw [if_pos he, runOf_eq hk, if_pos rfl]
  dsimp only
  rw [e]
  unfold tolF
  rw [if_pos (List.all_eq_true.2 hfr)]

end Go.Proofs.YtdmgomeogedjgaaGreat
