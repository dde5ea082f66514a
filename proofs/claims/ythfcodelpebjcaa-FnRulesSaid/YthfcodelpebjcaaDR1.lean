/- Draws: problems. No condition. -/
import Derived.Test.YthfcodelpebjcaaDR0
import Derived.Test.YthfcodelpebjcaaD2
import Derived.Test.YthfcodelpebjcaaD3
import Derived.Test.YthfcodelpebjcaaA2
namespace Go.Proofs.Ythfcodelpebjcaa
open Go.Ab

/- loop.example/g01343/spec.l01Copy -/
def f123.l1 (Q : Post) (v1 : Value) (v8 : Value) (v2 : Value) (I1 : St [4] → Heap → Prop) (i_4 : Value) (H : Heap) : Prop :=
  W.fieldAddr 0 v1 H fun v9 H =>
  W.get v9 H fun v10 H =>
  W.len v10 H fun v11 H =>
  W.bin .lss i_4 v11 H fun v12 H =>
  W.cond v12 H
  (fun H => W.fieldAddr 0 v8 H fun v13 H =>
   W.get v13 H fun v14 H =>
   W.fieldAddr 0 v1 H fun v15 H =>
   W.get v15 H fun v16 H =>
   W.indexAddr 1 v16 i_4 H fun v17 H =>
   W.get v17 H fun v18 H =>
   W.callQ Try.prog (.func (.func 96) #[] #[]) #[v18] H fun v19 H =>
   W.lit 1 [(.slice none 0 0)] 25 [(0, 1, v19)] H fun v20 H =>
   W.append 1 25 v14 v20 H fun v21 H =>
   W.fieldAddr 0 v8 H fun v22 H =>
   W.put v22 v21 H fun _ H =>
   W.bin .add i_4 (.int .i64 1) H fun v23 H =>
   I1 (v23, ()) H)
  (fun H => W.getN 2 v8 H fun v24 H =>
   W.putN 2 v2 v24 H fun _ H =>
   W.getN 2 v2 H fun v25 H => Q v25 H)
def f123.w (Q : Post) (p_0 : Value) (H : Heap) : Prop :=
  W.box p_0 27 H fun v1 H =>
  W.new [(.slice none 0 0), (.slice none 0 0)] 27 H fun v2 H =>
  W.lit 0 [(.slice none 0 0)] 25 [] H fun v3 H =>
  W.fieldAddr 1 v1 H fun v4 H =>
  W.get v4 H fun v5 H =>
  W.call Try.prog (.func (.func 96) #[] #[]) #[v5] H fun v6 H =>
  W.build [(.slice none 0 0), (.slice none 0 0)] [(0, 1, v3), (1, 1, v6)] H fun v7 H =>
  W.new [(.slice none 0 0), (.slice none 0 0)] 27 H fun v8 H =>
  W.putN 2 v8 v7 H fun _ H =>
  W.loop (S := St [4]) (fun I1 s H => f123.l1 Q v1 v8 v2 I1 s.1 H) ((.int .i64 0), ()) H
theorem f123.enter {Q : Post} {p_0 : Value} {H : Heap} (h : f123.w Q p_0 H) : Runs Try.prog 123 #[p_0] H Q :=
  fn_enter (ann := [(3, [4])]) (by kernel_rfl) Try.func123 rfl (by kernel_rfl) h (by kernel_rfl)

/- loop.example/g01343/spec.l01DrawOf -/
def f124.l1 (Q : Post) (n_1 : Value) (v7 : Value) (s_0 : Value) (v13 : Value) (v1 : Value) (I1 : St [10] → Heap → Prop) (i_10 : Value) (H : Heap) : Prop :=
  W.bin .lss i_10 n_1 H fun v14 H =>
  W.cond v14 H
  (fun H => W.fieldAddr 1 v7 H fun v15 H =>
   W.get v15 H fun v16 H =>
   W.call Try.prog (.func (.func 125) #[] #[]) #[s_0, v13] H fun v17 H =>
   W.chk (fun H k => W.get v15 H k) v16 H (W.lit 1 [(.int .i64 0)] 2 [(0, 1, v17)] H fun v18 H =>
   W.append 1 2 v16 v18 H fun v19 H =>
   W.fieldAddr 1 v7 H fun v20 H =>
   W.put v20 v19 H fun _ H =>
   W.bin .add i_10 (.int .i64 1) H fun v21 H =>
   I1 (v21, ()) H))
  (fun H => W.getN 2 v7 H fun v22 H =>
   W.putN 2 v1 v22 H fun _ H =>
   W.getN 2 v1 H fun v23 H => Q v23 H)
def f124.j1 (Q : Post) (s_0 : Value) (n_1 : Value) (v7 : Value) (v1 : Value) (H : Heap) : Prop :=
  W.lit 5 [(.int .i64 0)] 2 [(0, 1, (.int .i64 1)), (1, 1, (.int .i64 2)), (2, 1, (.int .i64 5)), (3, 1, (.int .i64 20)), (4, 1, (.int .i64 100))] H fun v12 H =>
  W.call Try.prog (.func (.func 77) #[] #[]) #[s_0, v12] H fun v13 H =>
  W.loop (S := St [10]) (fun I1 s H => f124.l1 Q n_1 v7 s_0 v13 v1 I1 s.1 H) ((.int .i64 0), ()) H
def f124.l3 (Q : Post) (i_6 : Value) (v7 : Value) (v29 : Value) (I2 : St [6] → Heap → Prop) (I3 : St [8] → Heap → Prop) (k_8 : Value) (H : Heap) : Prop :=
  W.bin .lss k_8 i_6 H fun v30 H =>
  W.cond v30 H
  (fun H => W.fieldAddr 0 v7 H fun v31 H =>
   W.get v31 H fun v32 H =>
   W.indexAddr 1 v32 k_8 H fun v33 H =>
   W.get v33 H fun v34 H =>
   W.indexAddr 1 v34 i_6 H fun v35 H =>
   W.get v35 H fun v36 H =>
   W.indexAddr 1 v29 k_8 H fun v37 H =>
   W.put v37 v36 H fun _ H =>
   W.bin .add k_8 (.int .i64 1) H fun v38 H =>
   I3 (v38, ()) H)
  (fun H => W.bin .add i_6 (.int .i64 1) H fun v39 H =>
   I2 (v39, ()) H)
def f124.j2 (Q : Post) (s_0 : Value) (n_1 : Value) (v7 : Value) (v1 : Value) (H : Heap) : Prop :=
  f124.j1 Q s_0 n_1 v7 v1 H
def f124.l2 (Q : Post) (n_1 : Value) (v7 : Value) (s_0 : Value) (v1 : Value) (I2 : St [6] → Heap → Prop) (i_6 : Value) (H : Heap) : Prop :=
  W.bin .lss i_6 n_1 H fun v25 H =>
  W.cond v25 H
  (fun H => W.fieldAddr 0 v7 H fun v26 H =>
   W.get v26 H fun v27 H =>
   W.indexAddr 1 v27 i_6 H fun v28 H =>
   W.get v28 H fun v29 H =>
   W.loop (S := St [8]) (fun I3 s H => f124.l3 Q i_6 v7 v29 I2 I3 s.1 H) ((.int .i64 0), ()) H)
  (fun H => f124.j2 Q s_0 n_1 v7 v1 H)
def f124.w (Q : Post) (s_0 : Value) (n_1 : Value) (H : Heap) : Prop :=
  W.new [(.slice none 0 0), (.slice none 0 0)] 27 H fun v1 H =>
  W.lit 5 [(.int .i64 0)] 2 [(0, 1, (.int .i64 1)), (1, 1, (.int .i64 2)), (2, 1, (.int .i64 3)), (3, 1, (.int .i64 9)), (4, 1, (.int .i64 20))] H fun v2 H =>
  W.call Try.prog (.func (.func 77) #[] #[]) #[s_0, v2] H fun v3 H =>
  W.call Try.prog (.func (.func 121) #[] #[]) #[s_0, n_1, v3] H fun v4 H =>
  W.lit 0 [(.int .i64 0)] 2 [] H fun v5 H =>
  W.build [(.slice none 0 0), (.slice none 0 0)] [(0, 1, v4), (1, 1, v5)] H fun v6 H =>
  W.new [(.slice none 0 0), (.slice none 0 0)] 27 H fun v7 H =>
  W.putN 2 v7 v6 H fun _ H =>
  W.call Try.prog (.func (.func 53) #[] #[]) #[s_0, (.int .i64 4)] H fun v8 H =>
  W.bin .eql v8 (.int .i64 0) H fun v9 H =>
  W.cond v9 H
  (fun H => W.call Try.prog (.func (.func 102) #[] #[]) #[s_0, n_1] H fun v10 H =>
   W.fieldAddr 0 v7 H fun v11 H =>
   W.put v11 v10 H fun _ H =>
   f124.j1 Q s_0 n_1 v7 v1 H)
  (fun H => W.bin .eql v8 (.int .i64 1) H fun v24 H =>
   W.cond v24 H
   (fun H => W.loop (S := St [6]) (fun I2 s H => f124.l2 Q n_1 v7 s_0 v1 I2 s.1 H) ((.int .i64 0), ()) H)
   (fun H => f124.j2 Q s_0 n_1 v7 v1 H))
theorem f124.enter {Q : Post} {s_0 : Value} {n_1 : Value} {H : Heap} (h : f124.w Q s_0 n_1 H) : Runs Try.prog 124 #[s_0, n_1] H Q :=
  fn_enter (ann := [(16, [10]), (1000018, []), (7, [6]), (11, [8])]) (by kernel_rfl) Try.func124 rfl (by kernel_rfl) h (by kernel_rfl)

/- loop.example/g01343/spec.l01Draw -/
def f120.w (Q : Post) (s_0 : Value) (H : Heap) : Prop :=
  W.new [(.slice none 0 0), (.slice none 0 0)] 27 H fun v1 H =>
  W.lit 8 [(.int .i64 0)] 2 [(0, 1, (.int .i64 1)), (1, 1, (.int .i64 2)), (2, 1, (.int .i64 2)), (3, 1, (.int .i64 3)), (4, 1, (.int .i64 3)), (5, 1, (.int .i64 3)), (6, 1, (.int .i64 4)), (7, 1, (.int .i64 5))] H fun v2 H =>
  W.call Try.prog (.func (.func 77) #[] #[]) #[s_0, v2] H fun v3 H =>
  W.call Try.prog (.func (.func 124) #[] #[]) #[s_0, v3] H fun v4 H =>
  W.putN 2 v1 v4 H fun _ H =>
  W.getN 2 v1 H fun v5 H => Q v5 H
theorem f120.enter {Q : Post} {s_0 : Value} {H : Heap} (h : f120.w Q s_0 H) : Runs Try.prog 120 #[s_0] H Q :=
  fn_enter (ann := []) (by kernel_rfl) Try.func120 rfl (by kernel_rfl) h (by kernel_rfl)

/- loop.example/g01343/spec.l01Bad -/
def f119.w (Q : Post) (s_0 : Value) (p_1 : Value) (H : Heap) : Prop :=
  W.box p_1 27 H fun v1 H =>
  W.new [(.slice none 0 0), (.slice none 0 0)] 27 H fun v2 H =>
  W.call Try.prog (.func (.func 53) #[] #[]) #[s_0, (.int .i64 50)] H fun v3 H =>
  W.bin .eql v3 (.int .i64 0) H fun v4 H =>
  W.cond v4 H
  (fun H => W.build [(.slice none 0 0), (.slice none 0 0)] [] H fun v5 H =>
   W.putN 2 v2 v5 H fun _ H =>
   W.getN 2 v2 H fun v6 H => Q v6 H)
  (fun H => W.bin .eql v3 (.int .i64 1) H fun v7 H =>
   W.cond v7 H
   (fun H => W.getN 2 v1 H fun v8 H =>
    W.call Try.prog (.func (.func 123) #[] #[]) #[v8] H fun v9 H =>
    W.new [(.slice none 0 0), (.slice none 0 0)] 27 H fun v10 H =>
    W.putN 2 v10 v9 H fun _ H =>
    W.fieldAddr 0 v10 H fun v11 H =>
    W.get v11 H fun v12 H =>
    W.fieldAddr 0 v10 H fun v13 H =>
    W.get v13 H fun v14 H =>
    W.len v14 H fun v15 H =>
    W.call Try.prog (.func (.func 53) #[] #[]) #[s_0, v15] H fun v16 H =>
    W.chk (fun H k => W.get v11 H k) v12 H (W.indexAddr 1 v12 v16 H fun v17 H =>
    W.get v17 H fun v18 H =>
    W.lit 3 [(.int .i64 0)] 2 [(0, 1, (.int .i64 21)), (1, 1, (.int .i64 (-21))), (2, 1, (.int .i64 1099511627776))] H fun v19 H =>
    W.call Try.prog (.func (.func 77) #[] #[]) #[s_0, v19] H fun v20 H =>
    W.indexAddr 1 v18 (.int .i64 0) H fun v21 H =>
    W.put v21 v20 H fun _ H =>
    W.getN 2 v10 H fun v22 H =>
    W.putN 2 v2 v22 H fun _ H =>
    W.getN 2 v2 H fun v23 H => Q v23 H))
   (fun H => W.bin .eql v3 (.int .i64 2) H fun v24 H =>
    W.cond v24 H
    (fun H => W.getN 2 v1 H fun v25 H =>
     W.call Try.prog (.func (.func 123) #[] #[]) #[v25] H fun v26 H =>
     W.new [(.slice none 0 0), (.slice none 0 0)] 27 H fun v27 H =>
     W.putN 2 v27 v26 H fun _ H =>
     W.fieldAddr 1 v27 H fun v28 H =>
     W.get v28 H fun v29 H =>
     W.lit 2 [(.int .i64 0)] 2 [(0, 1, (.int .i64 101)), (1, 1, (.int .i64 (-101)))] H fun v30 H =>
     W.call Try.prog (.func (.func 77) #[] #[]) #[s_0, v30] H fun v31 H =>
     W.chk (fun H k => W.get v28 H k) v29 H (W.indexAddr 1 v29 (.int .i64 0) H fun v32 H =>
     W.put v32 v31 H fun _ H =>
     W.getN 2 v27 H fun v33 H =>
     W.putN 2 v2 v33 H fun _ H =>
     W.getN 2 v2 H fun v34 H => Q v34 H))
    (fun H => W.bin .eql v3 (.int .i64 3) H fun v35 H =>
     W.cond v35 H
     (fun H => W.getN 2 v1 H fun v36 H =>
      W.call Try.prog (.func (.func 123) #[] #[]) #[v36] H fun v37 H =>
      W.new [(.slice none 0 0), (.slice none 0 0)] 27 H fun v38 H =>
      W.putN 2 v38 v37 H fun _ H =>
      W.fieldAddr 1 v38 H fun v39 H =>
      W.get v39 H fun v40 H =>
      W.lit 1 [(.int .i64 0)] 2 [(0, 1, (.int .i64 0))] H fun v41 H =>
      W.append 1 2 v40 v41 H fun v42 H =>
      W.fieldAddr 1 v38 H fun v43 H =>
      W.put v43 v42 H fun _ H =>
      W.getN 2 v38 H fun v44 H =>
      W.putN 2 v2 v44 H fun _ H =>
      W.getN 2 v2 H fun v45 H => Q v45 H)
     (fun H => W.getN 2 v1 H fun v46 H =>
      W.putN 2 v2 v46 H fun _ H =>
      W.getN 2 v2 H fun v47 H => Q v47 H))))
theorem f119.enter {Q : Post} {s_0 : Value} {p_1 : Value} {H : Heap} (h : f119.w Q s_0 p_1 H) : Runs Try.prog 119 #[s_0, p_1] H Q :=
  fn_enter (ann := [(1000006, []), (1000011, [])]) (by kernel_rfl) Try.func119 rfl (by kernel_rfl) h (by kernel_rfl)

/- loop.example/g01343/spec.l01Spoil -/
def f101.w (Q : Post) (s_0 : Value) (H : Heap) : Prop :=
  W.new [(.slice none 0 0), (.slice none 0 0)] 27 H fun v1 H =>
  W.call Try.prog (.func (.func 120) #[] #[]) #[s_0] H fun v2 H =>
  W.call Try.prog (.func (.func 119) #[] #[]) #[s_0, v2] H fun v3 H =>
  W.putN 2 v1 v3 H fun _ H =>
  W.getN 2 v1 H fun v4 H => Q v4 H
theorem f101.enter {Q : Post} {s_0 : Value} {H : Heap} (h : f101.w Q s_0 H) : Runs Try.prog 101 #[s_0] H Q :=
  fn_enter (ann := []) (by kernel_rfl) Try.func101 rfl (by kernel_rfl) h (by kernel_rfl)


/-- A problem of a size that is not too large. -/
def SmallP (p : Prob) : Prop := p.1.length ≤ 6 ∧ (∀ r ∈ p.1, r.length ≤ 6) ∧ p.2.length ≤ 6

theorem fnJ123 {H0 : Heap} {Q : Post} {cs : List Value} {p : Prob} (hr : Has RProblem H0 cs p) (hm : okRows p.1) (hq : p.2.length ≤ 1048576) (hQ : ∀ H' w1 w2, Ab.Loc H0 [.grow Rd.int 2 w2 p.2, .data RSS [w1] p.1] H' → Q (.agg #[w1, w2]) H') :
    Runs Try.prog 123 #[.agg cs.toArray] H0 Q := by
  obtain ⟨u1, u2, rfl, r1, r2⟩ := hasProb hr
  have := hm.1
  refine f123.enter ?_
  unfold f123.w
  have h := ((Loc.start H0).lent r1).lent r2
  refine Wl.box h fun H b h => Wl.new h fun H b2 h => Wl.lit0 RS rfl h fun H g h => Wi.fieldAddr0 (Wl.get h rfl (Wi.call (fn96 h.rd (by omega) fun H w2 f2 => ?_)))
  have h := h.addG f2
  have c1 := (h.rd (cs := [g])).one
  have c2 := f2.fresh.read.one
  have k2 := f2.fresh.read.cell
  refine Wi.build (cells := [g, w2]) (by simp [fillA, c1, c2]) ?_
  have kall : ∀ (u : Value) (H : Heap), Has RSS H [u] (p.1.take 0) ∨ (∃ i, Has RSS H [u] (p.1.take i)) → [u, w2].all isCell = true := fun u H hu => by
    have k1 : [u].all isCell = true := by
      rcases hu with hu | ⟨i, hu⟩
      · exact hu.cell
      · exact hu.cell
    simp only [List.all_cons, List.all_nil, Bool.and_true] at k1 k2 ⊢
    rw [k1, k2]
    rfl
  refine Wl.new h fun H b3 h => Wl.putA h rfl rfl (kall _ H (.inl h.rd)) fun H h => ?_
  refine W.for_rule p.1.length (fun i s H => ∃ u, s = (.int .i64 (i : Nat), ()) ∧ Ab.Loc H0 [.box b3 [u, w2], .grow Rd.int 2 w2 p.2, .grow RS 25 u (p.1.take i), .box b2 [.slice none 0 0, .slice none 0 0], .box b [u1, u2], .lent RS [u2] p.2, .lent RSS [u1] p.1] H) ⟨_, rfl, h⟩ ?_
  rintro i s H J hi ⟨u, rfl, h⟩ hJ
  refine Wi.fieldAddr0 (Wl.get h rfl (Wl.len h (Wi.lssC (fun hlt => Wi.tru ?_) fun hge => Wi.fls ?_)))
  · have hix : i < p.1.length := by omega
    refine Wi.fieldAddr0 (Wl.get h rfl (Wi.fieldAddr0 (Wl.get h rfl (Wl.at1 rfl h hix fun w hw => Wi.callQ (fn96 hw (by have := hm.2 _ (List.getElem_mem hix); omega) fun H2 u2' f => ⟨f.le, ?_⟩)))))
    refine Wl.pushF rfl h f.fresh f.fresh.read.one (by simp; omega) fun H3 v' h => Wi.fieldAddr0 (Wl.put h (h.rd (cs := [v'])).cell1 (by simp) fun H h => Wi.add (by unfold I64; omega) (hJ _ _ hix ⟨v', rfl, ?_⟩))
    rw [List.take_succ_eq_append_getElem hix]
    exact h
  · have : i = p.1.length := by omega
    subst this
    rw [List.take_length] at h
    have k1 := h.rd (cs := [u])
    refine Wl.getA h rfl (Wl.putA h rfl rfl (kall _ H (.inr ⟨p.1.length, by rw [List.take_length]; exact k1⟩)) fun H h => Wl.getA h rfl (hQ _ _ _ ?_))
    exact ((h.asData (i := 2) rfl).cut 0).first 2

section
variable {H0 H : Heap} {L : List (Atom H0.next)} {Q : Post} {b i : Nat} {vc : Value} {code : List Int}


/-- What is drawn: a problem of the size n. -/
def IsN (n : Nat) (p : Prob) : Prop := p.1.length = n ∧ (∀ r ∈ p.1, r.length = n) ∧ p.2.length = n

theorem IsN.small {n : Nat} {p : Prob} (h : IsN n p) (hn : n ≤ 5) : SmallP p := ⟨by have := h.1; omega, fun r hr => by have := h.2.1 r hr; omega, by have := h.2.2; omega⟩

theorem drawOf_end {n b7 b1 : Nat} {u q : Value} {m : List (List Int)} (h : Ab.Loc H0 (.data RSS [u] m :: .grow Rd.int 2 q [] :: .box b7 [u, q] :: .box b1 [.slice none 0 0, .slice none 0 0] :: L) H) (hi : L[i]? = some (.src b vc code)) (hn : n ≤ 5) (hml : m.length = n) (hsm : Small n 20 m)
    (hQ : ∀ H' u1 u2 p, Ab.Loc H0 (.data RProblem [u1, u2] p :: L) H' → IsN n p → Q (.agg #[u1, u2]) H') : f124.j1 Q (pt b 0) (.int .i64 (n : Nat)) (pt b7 0) (pt b1 0) H := by
  unfold f124.j1
  refine Wl.litN [1, 2, 5, 20, 100] rfl (by decide) (by simp [I64]) rfl h fun H vl h => Wi.call (fn77 (i := i + 5) h (by simpa using hi) (fun H h => h.rd (cs := [vl])) (by decide) fun H t h ht => ?_)
  have ht : 0 ≤ t ∧ t ≤ 100 := by simp at ht; omega
  have h := h.tl
  refine W.for_rule n (fun x st H => ∃ q ql, st = (.int .i64 (x : Nat), ()) ∧ ql.length = x ∧ Ab.Loc H0 (.data RSS [u] m :: .grow Rd.int 2 q ql :: .box b7 [u, q] :: .box b1 [.slice none 0 0, .slice none 0 0] :: L) H) ⟨q, [], rfl, rfl, h⟩ ?_
  rintro x st H J hx ⟨q, ql, rfl, hql, h⟩ hJ
  refine Wi.lssC (fun hlt => Wi.tru ?_) fun hge => Wi.fls ?_
  · have hxn : x < n := by omega
    refine Wi.fieldAddr (Wl.get h rfl (Wi.call (fn125 (i := i + 4) h (by simpa using hi) ht fun H z h hz => ?_)))
    refine Wi.chk (Wl.get h rfl ⟨rfl, rfl⟩) (Wl.pushP (r := Rd.int) (x := z) (i := 1) rfl rfl rfl (fun _ => ⟨rfl, rfl, by unfold I64; omega⟩) h (by omega) fun H q' h => ?_)
    have h : Ab.Loc H0 (.data RSS [u] m :: .grow Rd.int 2 q' (ql ++ [z]) :: .box b7 [u, q] :: .box b1 [.slice none 0 0, .slice none 0 0] :: L) H := h
    have k2 := (h.rd (cs := [q']) (r := RS)).cell1
    refine Wi.fieldAddr (Wl.put (b := b7) (o := 1) (i := 2) h k2 (by simp) fun H h => Wi.add (by unfold I64; omega) (hJ _ _ hxn ⟨q', ql ++ [z], rfl, by simp; omega, h⟩))
  · have k1 := (h.rd (cs := [u]) (r := RSS)).cell1
    have k2 := (h.rd (cs := [q]) (r := RS)).cell1
    have kc : [u, q].all isCell = true := by simp [k1, k2]
    refine Wl.getA (b := b7) h rfl (Wl.putA (b := b1) (i := 3) h rfl rfl kc fun H h => Wl.getA (b := b1) h rfl ?_)
    have h := (h.asData (i := 1) rfl).pair (i := 0) (j := 1) rfl rfl (by decide)
    exact hQ _ _ _ (m, ql) (((h.cut 1).cut 1).cut 1) ⟨hml, fun r hr => (hsm r hr).1, show ql.length = n by omega⟩

theorem fn124 {n : Nat} (h : Ab.Loc H0 L H) (hi : L[i]? = some (.src b vc code)) (hn : n ≤ 5) (hQ : ∀ H' u1 u2 p, Ab.Loc H0 (.data RProblem [u1, u2] p :: L) H' → IsN n p → Q (.agg #[u1, u2]) H') :
    Runs Try.prog 124 #[pt b 0, .int .i64 (n : Nat)] H Q := by
  refine f124.enter ?_
  unfold f124.w
  refine Wl.new h fun H b1 h => Wl.litN [1, 2, 3, 9, 20] rfl (by decide) (by simp [I64]) rfl h fun H vl h => Wi.call (fn77 (i := i + 2) h (by simpa using hi) (fun H h => h.rd (cs := [vl])) (by decide) fun H t h ht => ?_)
  have ht : 0 ≤ t ∧ t ≤ 20 := by simp at ht; omega
  have h := h.tl
  refine Wi.call (fn121 (i := i + 1) h (by simpa using hi) hn ⟨ht.1, by omega⟩ fun H u m h hml hsm => ?_)
  have hsm : Small n 20 m := fun r hr => ⟨(hsm r hr).1, fun z hz => by have := (hsm r hr).2 z hz; omega⟩
  refine Wl.lit0 (ty := 2) Rd.int rfl h fun H q h => ?_
  have c1 := (h.rd (cs := [u]) (r := RSS)).one
  have c2 := (h.rd (cs := [q]) (r := RS)).one
  have k1 := (h.rd (cs := [u]) (r := RSS)).cell1
  have k2 := (h.rd (cs := [q]) (r := RS)).cell1
  have kc : [u, q].all isCell = true := by simp [k1, k2]
  refine Wi.build (cells := [u, q]) (by simp [fillA, c1, c2]) (Wl.new h fun H b7 h => Wl.putA h rfl rfl kc fun H h => ?_)
  refine Wi.call (fn53 (i := i + 4) h (by simpa using hi) fun H x h hx hx4 => ?_)
  have go : ∀ H u q m, Ab.Loc H0 (.data RSS [u] m :: .grow Rd.int 2 q [] :: .box b7 [u, q] :: .box b1 [.slice none 0 0, .slice none 0 0] :: L) H → m.length = n → Small n 20 m → f124.j1 Q (pt b 0) (.int .i64 (n : Nat)) (pt b7 0) (pt b1 0) H := fun H u q m h hml hsm => drawOf_end h hi hn hml hsm hQ
  refine Wi.eqlC (fun _ => Wi.tru ?_) fun _ => Wi.fls ?_
  · refine Wi.call (fn102 (i := i + 4) h (by simpa using hi) hn fun H u2 m2 h hml2 hsm2 => ?_)
    have k3 := (h.rd (cs := [u2]) (r := RSS)).cell1
    refine Wi.fieldAddr (Wl.put (b := b7) (o := 0) (i := 1) h k3 (by simp) fun H h => ?_)
    have h : Ab.Loc H0 (.data RSS [u2] m2 :: .box b7 [u2, q] :: .grow Rd.int 2 q [] :: .data RSS [u] m :: .box b1 [.slice none 0 0, .slice none 0 0] :: L) H := h
    exact go _ u2 q m2 (((h.cut 3).front 2 rfl).front 1 rfl) hml2 hsm2
  · have h := (h.front 1 rfl).front 2 rfl
    have h : Ab.Loc H0 (.data RSS [u] m :: .grow Rd.int 2 q [] :: .box b7 [u, q] :: .box b1 [.slice none 0 0, .slice none 0 0] :: L) H := h
    refine Wi.eqlC (fun _ => Wi.tru ?_) fun _ => Wi.fls ?_
    · obtain ⟨us, hus, h⟩ := h.heads (i := 0) rfl rfl
      refine W.for_rule n (fun x st H => ∃ m, st = (.int .i64 (x : Nat), ()) ∧ m.length = n ∧ Small n 20 m ∧ Ab.Loc H0 (.rows RS u us m :: .grow Rd.int 2 q [] :: .box b7 [u, q] :: .box b1 [.slice none 0 0, .slice none 0 0] :: L) H) ⟨m, rfl, hml, hsm, h⟩ ?_
      rintro x st H J hxx ⟨m, rfl, hml, hsm, h⟩ hJ
      refine Wi.lssC (fun hlt => Wi.tru ?_) fun hge => Wi.fls ?_
      · have hxn : x < n := by omega
        refine Wi.fieldAddr (Wl.get (b := b7) (o := 0) h rfl (Wl.atRow rfl h (a := x) (by omega) fun w hw _ => ?_))
        refine W.for_rule x (fun y st H => ∃ m, st = (.int .i64 (y : Nat), ()) ∧ m.length = n ∧ Small n 20 m ∧ Ab.Loc H0 (.rows RS u us m :: .grow Rd.int 2 q [] :: .box b7 [u, q] :: .box b1 [.slice none 0 0, .slice none 0 0] :: L) H) ⟨m, rfl, hml, hsm, h⟩ ?_
        rintro y st H J2 hyy ⟨m, rfl, hml, hsm, h⟩ hJ2
        refine Wi.lssC (fun hlt2 => Wi.tru ?_) fun hge2 => Wi.fls ?_
        · have hyx : y < x := by omega
          have hym : y < m.length := by omega
          have hxm : x < m.length := by omega
          have g1 := hsm _ (List.getElem_mem hym)
          have g2 := hsm _ (List.getElem_mem hxm)
          refine Wi.fieldAddr (Wl.get (b := b7) (o := 0) h rfl (Wl.atRow rfl h (a := y) hym fun w2 _ hr2 => Wl.atIntH hr2 (i := x) (by omega) fun hI => ?_))
          have hz := g1.2 _ (List.getElem_mem (show x < m[y].length by omega))
          refine Wl.rowSet h (j := 0) rfl hw hxm (by omega) hI fun H h => Wi.add (by unfold I64; omega) (hJ2 _ _ hyx ⟨m.set x (m[x].set y m[y][x]), rfl, by rw [List.length_set]; exact hml, fun r hr => ?_, h⟩)
          rcases List.mem_or_eq_of_mem_set hr with g | g
          · exact hsm r g
          · rw [g, List.length_set]
            refine ⟨g2.1, fun q hq => ?_⟩
            rcases List.mem_or_eq_of_mem_set hq with g | g
            · exact g2.2 q g
            · rw [g]; exact hz
        · exact Wi.add (by unfold I64; omega) (hJ _ _ hxn ⟨m, rfl, hml, hsm, h⟩)
      · unfold f124.j2
        exact go _ u q m (h.unrows (i := 0) rfl) hml hsm
    · unfold f124.j2
      exact go _ u q m h hml hsm

theorem fn120 (h : Ab.Loc H0 L H) (hi : L[i]? = some (.src b vc code)) (hQ : ∀ H' u1 u2 p n, Ab.Loc H0 (.data RProblem [u1, u2] p :: L) H' → 1 ≤ n ∧ n ≤ 5 → IsN n p → Q (.agg #[u1, u2]) H') : Runs Try.prog 120 #[pt b 0] H Q := by
  refine f120.enter ?_
  unfold f120.w
  refine Wl.new h fun H b1 h => Wl.litN [1, 2, 2, 3, 3, 3, 4, 5] rfl (by decide) (by simp [I64]) rfl h fun H vl h => Wi.call (fn77 (i := i + 2) h (by simpa using hi) (fun H h => h.rd (cs := [vl])) (by decide) fun H t h ht => ?_)
  have ht : 1 ≤ t ∧ t ≤ 5 := by simp at ht; omega
  obtain ⟨n, rfl⟩ : ∃ n : Nat, t = (n : Int) := ⟨t.toNat, by omega⟩
  refine Wi.call (fn124 (i := i + 1) h.tl (by simpa using hi) (by omega) fun H u1 u2 p h hp => ?_)
  have kc := (h.rd (cs := [u1, u2]) (r := RProblem)).cell
  refine Wl.putA (b := b1) (i := 1) h rfl rfl kc fun H h => Wl.getA (b := b1) h rfl ?_
  exact hQ _ u1 u2 p n (h.cut 1) ⟨by omega, by omega⟩ hp

theorem nilP (h : Ab.Loc H0 L H) : Ab.Loc H0 (.data RProblem [.slice none 0 0, .slice none 0 0] ([], []) :: L) H := h.add (fresh_nil2 (.refl _))

theorem fn119 {u1 u2 : Value} {p : Prob} {n : Nat} (h : Ab.Loc H0 (.data RProblem [u1, u2] p :: L) H) (hi : L[i]? = some (.src b vc code)) (hn : 1 ≤ n ∧ n ≤ 5) (hp : IsN n p) (hQ : ∀ H' u1 u2 p, Ab.Loc H0 (.data RProblem [u1, u2] p :: L) H' → SmallP p → Q (.agg #[u1, u2]) H') :
    Runs Try.prog 119 #[pt b 0, .agg #[u1, u2]] H Q := by
  obtain ⟨p1, p2, p3⟩ := hp
  have hok : okRows p.1 := ⟨by omega, fun r hr => by have := p2 r hr; omega⟩
  refine f119.enter ?_
  unfold f119.w
  refine Wl.box h fun H bp h => Wl.new h fun H b2 h => Wi.call (fn53 (i := i + 3) h (by simpa using hi) fun H x h hx _ => ?_)
  have h : Ab.Loc H0 (.box b2 [.slice none 0 0, .slice none 0 0] :: .box bp [u1, u2] :: .data RProblem [u1, u2] p :: L) H := h
  refine Wi.eqlC (fun _ => Wi.tru ?_) fun _ => Wi.fls ?_
  · refine Wi.build (cells := [.slice none 0 0, .slice none 0 0]) rfl (Wl.putA (b := b2) (i := 0) h rfl rfl rfl fun H h => Wl.getA (b := b2) h rfl ?_)
    have h : Ab.Loc H0 (.box b2 [.slice none 0 0, .slice none 0 0] :: .box bp [u1, u2] :: .data RProblem [u1, u2] p :: L) H := h
    exact hQ _ _ _ ([], []) (nilP (((h.cut 0).cut 0).cut 0)) ⟨by simp, by simp, by simp⟩
  refine Wi.eqlC (fun _ => Wi.tru ?_) fun _ => Wi.fls ?_
  · refine Wl.getA (b := bp) h rfl (Wi.call (fnJ123 (h.rd (cs := [u1, u2])) hok (by omega) fun H w1 w2 k => ?_))
    have h : Ab.Loc H0 (.grow Rd.int 2 w2 p.2 :: .data RSS [w1] p.1 :: .box b2 [.slice none 0 0, .slice none 0 0] :: .box bp [u1, u2] :: .data RProblem [u1, u2] p :: L) H := h.join (M' := [.grow Rd.int 2 w2 p.2, .data RSS [w1] p.1]) k fun j a hj => by
      match j, hj with
      | 0, hj => simp at hj; subst hj; exact ⟨_, rfl, fun bs h => h⟩
      | 1, hj => simp at hj; subst hj; exact ⟨_, rfl, fun bs h => h⟩
      | j + 2, hj => simp at hj
    have k1 := (h.rd (cs := [w1]) (r := RSS)).cell1
    have k2 := (h.rd (cs := [w2]) (r := RS)).cell1
    have kc : [w1, w2].all isCell = true := by simp [k1, k2]
    refine Wl.new h fun H b3 h => Wl.putA h rfl rfl kc fun H h => Wi.fieldAddr (Wl.get (b := b3) (o := 0) h rfl (Wi.fieldAddr (Wl.get (b := b3) (o := 0) h rfl (Wl.len (v := w1) (xs := p.1) h ?_))))
    refine Wi.call (fn53 (i := i + 6) h (by simpa using hi) fun H y h hy hyn => ?_)
    have hlt := hyn (by omega)
    obtain ⟨y, rfl⟩ : ∃ k : Nat, y = (k : Int) := ⟨y.toNat, by omega⟩
    have hyl : y < p.1.length := by omega
    refine Wi.chk (Wl.get (b := b3) (o := 0) h rfl ⟨rfl, rfl⟩) ?_
    have h : Ab.Loc H0 (.box b3 [w1, w2] :: .grow Rd.int 2 w2 p.2 :: .data RSS [w1] p.1 :: .box b2 [.slice none 0 0, .slice none 0 0] :: .box bp [u1, u2] :: .data RProblem [u1, u2] p :: L) H := h
    obtain ⟨us, hus, h⟩ := h.heads (i := 2) rfl rfl
    refine Wl.atRow rfl h (a := y) hyl fun w hw _ => ?_
    refine Wl.litN [21, -21, 1099511627776] rfl (by decide) (by simp [I64]) rfl h fun H vl h => Wi.call (fn77 (i := i + 7) h (by simpa using hi) (fun H h => h.rd (cs := [vl])) (by decide) fun H t h ht => ?_)
    have ht : I64 t := by simp at ht; unfold I64; omega
    have hr1 := p2 _ (List.getElem_mem hyl)
    refine Wl.rowSet h (j := 3) rfl hw hyl (i := 0) (by omega) ht fun H h => ?_
    have h := h.tl.unrows (i := 2) rfl
    have h : Ab.Loc H0 (.box b3 [w1, w2] :: .grow Rd.int 2 w2 p.2 :: .data RSS [w1] (p.1.set y (p.1[y].set 0 t)) :: .box b2 [.slice none 0 0, .slice none 0 0] :: .box bp [u1, u2] :: .data RProblem [u1, u2] p :: L) H := h
    refine Wl.getA (b := b3) h rfl (Wl.putA (b := b2) (i := 3) h rfl rfl kc fun H h => Wl.getA (b := b2) h rfl ?_)
    have h := (h.asData (i := 1) rfl).pair (i := 2) (j := 1) rfl rfl (by decide)
    have h : Ab.Loc H0 (.box b3 [w1, w2] :: .emp :: .data RProblem [w1, w2] (p.1.set y (p.1[y].set 0 t), p.2) :: .box b2 [w1, w2] :: .box bp [u1, u2] :: .data RProblem [u1, u2] p :: L) H := h
    refine hQ _ _ _ _ (((((h.cut 0).cut 0).cut 1).cut 1).cut 1) ⟨by simp; omega, fun r hr => ?_, by simp; omega⟩
    rcases List.mem_or_eq_of_mem_set hr with g | g
    · have := p2 r g; omega
    · rw [g, List.length_set]; omega
  refine Wi.eqlC (fun _ => Wi.tru ?_) fun _ => Wi.fls ?_
  · refine Wl.getA (b := bp) h rfl (Wi.call (fnJ123 (h.rd (cs := [u1, u2])) hok (by omega) fun H w1 w2 k => ?_))
    have h : Ab.Loc H0 (.grow Rd.int 2 w2 p.2 :: .data RSS [w1] p.1 :: .box b2 [.slice none 0 0, .slice none 0 0] :: .box bp [u1, u2] :: .data RProblem [u1, u2] p :: L) H := h.join (M' := [.grow Rd.int 2 w2 p.2, .data RSS [w1] p.1]) k fun j a hj => by
      match j, hj with
      | 0, hj => simp at hj; subst hj; exact ⟨_, rfl, fun bs h => h⟩
      | 1, hj => simp at hj; subst hj; exact ⟨_, rfl, fun bs h => h⟩
      | j + 2, hj => simp at hj
    have k1 := (h.rd (cs := [w1]) (r := RSS)).cell1
    have k2 := (h.rd (cs := [w2]) (r := RS)).cell1
    have kc : [w1, w2].all isCell = true := by simp [k1, k2]
    have h := h.asData (i := 0) rfl
    refine Wl.new h fun H b3 h => Wl.putA h rfl rfl kc fun H h => Wi.fieldAddr (Wl.get (b := b3) (o := 1) h rfl ?_)
    refine Wl.litN [101, -101] rfl (by decide) (by simp [I64]) rfl h fun H vl h => Wi.call (fn77 (i := i + 7) h (by simpa using hi) (fun H h => h.rd (cs := [vl])) (by decide) fun H t h ht => ?_)
    have ht : I64 t := by simp at ht; unfold I64; omega
    refine Wi.chk (Wl.get (b := b3) (o := 1) h rfl ⟨rfl, rfl⟩) (Wl.setInt (v := w2) (j := 2) h (i := 0) (by omega) ht fun H h => ?_)
    have h : Ab.Loc H0 (.data RS [vl] [101, -101] :: .box b3 [w1, w2] :: .data RS [w2] (p.2.set 0 t) :: .data RSS [w1] p.1 :: .box b2 [.slice none 0 0, .slice none 0 0] :: .box bp [u1, u2] :: .data RProblem [u1, u2] p :: L) H := h
    refine Wl.getA (b := b3) h rfl (Wl.putA (b := b2) (i := 4) h rfl rfl kc fun H h => Wl.getA (b := b2) h rfl ?_)
    have h := h.pair (i := 3) (j := 2) rfl rfl (by decide)
    have h : Ab.Loc H0 (.data RS [vl] [101, -101] :: .box b3 [w1, w2] :: .emp :: .data RProblem [w1, w2] (p.1, p.2.set 0 t) :: .box b2 [w1, w2] :: .box bp [u1, u2] :: .data RProblem [u1, u2] p :: L) H := h
    exact hQ _ _ _ _ ((((((h.cut 0).cut 0).cut 0).cut 1).cut 1).cut 1) ⟨by simp; omega, fun r hr => by have := p2 r hr; omega, by simp; omega⟩
  refine Wi.eqlC (fun _ => Wi.tru ?_) fun _ => Wi.fls ?_
  · refine Wl.getA (b := bp) h rfl (Wi.call (fnJ123 (h.rd (cs := [u1, u2])) hok (by omega) fun H w1 w2 k => ?_))
    have h : Ab.Loc H0 (.grow Rd.int 2 w2 p.2 :: .data RSS [w1] p.1 :: .box b2 [.slice none 0 0, .slice none 0 0] :: .box bp [u1, u2] :: .data RProblem [u1, u2] p :: L) H := h.join (M' := [.grow Rd.int 2 w2 p.2, .data RSS [w1] p.1]) k fun j a hj => by
      match j, hj with
      | 0, hj => simp at hj; subst hj; exact ⟨_, rfl, fun bs h => h⟩
      | 1, hj => simp at hj; subst hj; exact ⟨_, rfl, fun bs h => h⟩
      | j + 2, hj => simp at hj
    have k1 := (h.rd (cs := [w1]) (r := RSS)).cell1
    have k2 := (h.rd (cs := [w2]) (r := RS)).cell1
    have kc : [w1, w2].all isCell = true := by simp [k1, k2]
    refine Wl.new h fun H b3 h => Wl.putA h rfl rfl kc fun H h => Wi.fieldAddr (Wl.get (b := b3) (o := 1) h rfl ?_)
    refine Wl.pushP (r := Rd.int) (x := (0 : Int)) (i := 1) rfl rfl rfl (fun _ => ⟨rfl, rfl, by unfold I64; omega⟩) h (by omega) fun H w2' h => ?_
    have h : Ab.Loc H0 (.box b3 [w1, w2] :: .grow Rd.int 2 w2' (p.2 ++ [0]) :: .data RSS [w1] p.1 :: .box b2 [.slice none 0 0, .slice none 0 0] :: .box bp [u1, u2] :: .data RProblem [u1, u2] p :: L) H := h
    have k3 := (h.rd (cs := [w2']) (r := RS)).cell1
    have kc2 : [w1, w2'].all isCell = true := by simp [k1, k3]
    refine Wi.fieldAddr (Wl.put (b := b3) (o := 1) (i := 0) h k3 (by simp) fun H h => ?_)
    have h : Ab.Loc H0 (.box b3 [w1, w2'] :: .grow Rd.int 2 w2' (p.2 ++ [0]) :: .data RSS [w1] p.1 :: .box b2 [.slice none 0 0, .slice none 0 0] :: .box bp [u1, u2] :: .data RProblem [u1, u2] p :: L) H := h
    refine Wl.getA (b := b3) h rfl (Wl.putA (b := b2) (i := 3) h rfl rfl kc2 fun H h => Wl.getA (b := b2) h rfl ?_)
    have h := (h.asData (i := 1) rfl).pair (i := 2) (j := 1) rfl rfl (by decide)
    have h : Ab.Loc H0 (.box b3 [w1, w2'] :: .emp :: .data RProblem [w1, w2'] (p.1, p.2 ++ [0]) :: .box b2 [w1, w2'] :: .box bp [u1, u2] :: .data RProblem [u1, u2] p :: L) H := h
    exact hQ _ _ _ _ (((((h.cut 0).cut 0).cut 1).cut 1).cut 1) ⟨by simp; omega, fun r hr => by have := p2 r hr; omega, by simp; omega⟩
  · have kc := (h.rd (cs := [u1, u2]) (r := RProblem)).cell
    refine Wl.getA (b := bp) h rfl (Wl.putA (b := b2) (i := 0) h rfl rfl kc fun H h => Wl.getA (b := b2) h rfl ?_)
    have h : Ab.Loc H0 (.box b2 [u1, u2] :: .box bp [u1, u2] :: .data RProblem [u1, u2] p :: L) H := h
    exact hQ _ _ _ _ ((h.cut 0).cut 0) ⟨by omega, fun r hr => by have := p2 r hr; omega, by omega⟩

theorem fn101 (h : Ab.Loc H0 L H) (hi : L[i]? = some (.src b vc code)) (hQ : ∀ H' u1 u2 p, Ab.Loc H0 (.data RProblem [u1, u2] p :: L) H' → SmallP p → Q (.agg #[u1, u2]) H') : Runs Try.prog 101 #[pt b 0] H Q := by
  refine f101.enter ?_
  unfold f101.w
  refine Wl.new h fun H b1 h => Wi.call (fn120 (i := i + 1) h (by simpa using hi) fun H u1 u2 p n h hn hp => Wi.call (fn119 (i := i + 1) h (by simpa using hi) hn hp fun H w1 w2 p h hp => ?_))
  have kc := (h.rd (cs := [w1, w2]) (r := RProblem)).cell
  refine Wl.putA (b := b1) (i := 1) h rfl rfl kc fun H h => Wl.getA (b := b1) h rfl ?_
  exact hQ _ w1 w2 p (h.cut 1) hp

end

end Go.Proofs.Ythfcodelpebjcaa
