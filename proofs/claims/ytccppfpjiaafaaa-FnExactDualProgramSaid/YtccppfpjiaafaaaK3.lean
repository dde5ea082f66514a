/- The contracts of l09Minus, l09Zeros, l09Linear and the reference's DualProgram. No condition. -/
import Derived.Test.YtccppfpjiaafaaaJ1
import Derived.Test.YtccppfpjiaafaaaP2
namespace Go.Proofs.Ytccppfpjiaafaaa
open Go.Ab

/- loop.example/g01343/spec.l09Minus -/
def f89.l1 (Q : Post) (list_0 : Value) (I1 : St [3, 4] → Heap → Prop) (out_3 : Value) (i_4 : Value) (H : Heap) : Prop :=
  W.len list_0 H fun v2 H =>
  W.bin .lss i_4 v2 H fun v3 H =>
  W.cond v3 H
  (fun H => W.indexAddr 1 list_0 i_4 H fun v4 H =>
   W.get v4 H fun v5 H =>
   W.un .neg v5 H fun v6 H =>
   W.lit 1 [(.int .i64 0)] 2 [(0, 1, v6)] H fun v7 H =>
   W.append 1 2 out_3 v7 H fun v8 H =>
   W.bin .add i_4 (.int .i64 1) H fun v9 H =>
   I1 (v8, v9, ()) H)
  (fun H => Q out_3 H)
def f89.w (Q : Post) (list_0 : Value) (H : Heap) : Prop :=
  W.lit 0 [(.int .i64 0)] 2 [] H fun v1 H =>
  W.loop (S := St [3, 4]) (fun I1 s H => f89.l1 Q list_0 I1 s.1 s.2.1 H) (v1, (.int .i64 0), ()) H
theorem f89.enter {Q : Post} {list_0 : Value} {H : Heap} (h : f89.w Q list_0 H) : Runs Try.prog 89 #[list_0] H Q :=
  fn_enter (ann := [(3, [3, 4])]) (by kernel_rfl) Try.func89 rfl (by kernel_rfl) h (by kernel_rfl)

/- loop.example/g01343/spec.l09Zeros -/
def f88.l1 (Q : Post) (n_0 : Value) (I1 : St [3, 4] → Heap → Prop) (out_3 : Value) (i_4 : Value) (H : Heap) : Prop :=
  W.bin .lss i_4 n_0 H fun v2 H =>
  W.cond v2 H
  (fun H => W.make [(.int .i64 0)] 2 n_0 n_0 H fun v3 H =>
   W.lit 1 [(.slice none 0 0)] 23 [(0, 1, v3)] H fun v4 H =>
   W.append 1 23 out_3 v4 H fun v5 H =>
   W.bin .add i_4 (.int .i64 1) H fun v6 H =>
   I1 (v5, v6, ()) H)
  (fun H => Q out_3 H)
def f88.w (Q : Post) (n_0 : Value) (H : Heap) : Prop :=
  W.lit 0 [(.slice none 0 0)] 23 [] H fun v1 H =>
  W.loop (S := St [3, 4]) (fun I1 s H => f88.l1 Q n_0 I1 s.1 s.2.1 H) (v1, (.int .i64 0), ()) H
theorem f88.enter {Q : Post} {n_0 : Value} {H : Heap} (h : f88.w Q n_0 H) : Runs Try.prog 88 #[n_0] H Q :=
  fn_enter (ann := [(3, [3, 4])]) (by kernel_rfl) Try.func88 rfl (by kernel_rfl) h (by kernel_rfl)

/- loop.example/g01343/spec.l09Linear -/
def f87.l2 (Q : Post) (v1 : Value) (i_3 : Value) (I1 : St [3] → Heap → Prop) (I2 : St [4] → Heap → Prop) (k_4 : Value) (H : Heap) : Prop :=
  W.fieldAddr 0 v1 H fun v6 H =>
  W.get v6 H fun v7 H =>
  W.indexAddr 1 v7 i_3 H fun v8 H =>
  W.get v8 H fun v9 H =>
  W.len v9 H fun v10 H =>
  W.bin .lss k_4 v10 H fun v11 H =>
  W.cond v11 H
  (fun H => W.fieldAddr 0 v1 H fun v12 H =>
   W.get v12 H fun v13 H =>
   W.indexAddr 1 v13 i_3 H fun v14 H =>
   W.get v14 H fun v15 H =>
   W.indexAddr 1 v15 k_4 H fun v16 H =>
   W.get v16 H fun v17 H =>
   W.bin .neq v17 (.int .i64 0) H fun v18 H =>
   W.cond v18 H
   (fun H => Q (.bool false) H)
   (fun H => W.bin .add k_4 (.int .i64 1) H fun v19 H =>
    I2 (v19, ()) H))
  (fun H => W.bin .add i_3 (.int .i64 1) H fun v20 H =>
   I1 (v20, ()) H)
def f87.l1 (Q : Post) (v1 : Value) (I1 : St [3] → Heap → Prop) (i_3 : Value) (H : Heap) : Prop :=
  W.fieldAddr 0 v1 H fun v2 H =>
  W.get v2 H fun v3 H =>
  W.len v3 H fun v4 H =>
  W.bin .lss i_3 v4 H fun v5 H =>
  W.cond v5 H
  (fun H => W.loop (S := St [4]) (fun I2 s H => f87.l2 Q v1 i_3 I1 I2 s.1 H) ((.int .i64 0), ()) H)
  (fun H => Q (.bool true) H)
def f87.w (Q : Post) (p_0 : Value) (H : Heap) : Prop :=
  W.box p_0 28 H fun v1 H =>
  W.loop (S := St [3]) (fun I1 s H => f87.l1 Q v1 I1 s.1 H) ((.int .i64 0), ()) H
theorem f87.enter {Q : Post} {p_0 : Value} {H : Heap} (h : f87.w Q p_0 H) : Runs Try.prog 87 #[p_0] H Q :=
  fn_enter (ann := [(2, [3]), (5, [4])]) (by kernel_rfl) Try.func87 rfl (by kernel_rfl) h (by kernel_rfl)

/- loop.example/g01343/spec.DualProgram -/
def f43.l2 (Q : Post) (v1 : Value) (i_5 : Value) (v30 : Value) (I1 : St [5] → Heap → Prop) (I2 : St [6, 7] → Heap → Prop) (row_6 : Value) (j_7 : Value) (H : Heap) : Prop :=
  W.fieldAddr 3 v1 H fun v36 H =>
  W.get v36 H fun v37 H =>
  W.len v37 H fun v38 H =>
  W.bin .lss j_7 v38 H fun v39 H =>
  W.cond v39 H
  (fun H => W.fieldAddr 2 v1 H fun v40 H =>
   W.get v40 H fun v41 H =>
   W.indexAddr 1 v41 j_7 H fun v42 H =>
   W.get v42 H fun v43 H =>
   W.indexAddr 1 v43 i_5 H fun v44 H =>
   W.get v44 H fun v45 H =>
   W.un .neg v45 H fun v46 H =>
   W.lit 1 [(.int .i64 0)] 2 [(0, 1, v46)] H fun v47 H =>
   W.append 1 2 row_6 v47 H fun v48 H =>
   W.bin .add j_7 (.int .i64 1) H fun v49 H =>
   I2 (v48, v49, ()) H)
  (fun H => W.fieldAddr 2 v30 H fun v50 H =>
   W.get v50 H fun v51 H =>
   W.lit 1 [(.slice none 0 0)] 23 [(0, 1, row_6)] H fun v52 H =>
   W.append 1 23 v51 v52 H fun v53 H =>
   W.fieldAddr 2 v30 H fun v54 H =>
   W.put v54 v53 H fun _ H =>
   W.bin .add i_5 (.int .i64 1) H fun v55 H =>
   I1 (v55, ()) H)
def f43.l1 (Q : Post) (v1 : Value) (v30 : Value) (v2 : Value) (I1 : St [5] → Heap → Prop) (i_5 : Value) (H : Heap) : Prop :=
  W.fieldAddr 1 v1 H fun v31 H =>
  W.get v31 H fun v32 H =>
  W.len v32 H fun v33 H =>
  W.bin .lss i_5 v33 H fun v34 H =>
  W.cond v34 H
  (fun H => W.lit 0 [(.int .i64 0)] 2 [] H fun v35 H =>
   W.loop (S := St [6, 7]) (fun I2 s H => f43.l2 Q v1 i_5 v30 I1 I2 s.1 s.2.1 H) (v35, (.int .i64 0), ()) H)
  (fun H => W.getN 4 v30 H fun v56 H =>
   W.putN 4 v2 v56 H fun _ H =>
   W.getN 4 v2 H fun v57 H => Q (.tuple #[v57, (.int .i64 0)]) H)
def f43.w (Q : Post) (p_0 : Value) (H : Heap) : Prop :=
  W.box p_0 28 H fun v1 H =>
  W.new [(.slice none 0 0), (.slice none 0 0), (.slice none 0 0), (.slice none 0 0)] 28 H fun v2 H =>
  W.getN 4 v1 H fun v3 H =>
  W.call Try.prog (.func (.func 47) #[] #[]) #[v3] H fun v4 H =>
  W.un .not v4 H fun v5 H =>
  W.cond v5 H
  (fun H => W.build [(.slice none 0 0), (.slice none 0 0), (.slice none 0 0), (.slice none 0 0)] [] H fun v6 H =>
   W.putN 4 v2 v6 H fun _ H =>
   W.getN 4 v2 H fun v7 H => Q (.tuple #[v7, (.int .i64 1)]) H)
  (fun H => W.getN 4 v1 H fun v8 H =>
   W.call Try.prog (.func (.func 87) #[] #[]) #[v8] H fun v9 H =>
   W.un .not v9 H fun v10 H =>
   W.guarded v10 false (fun H k => W.fieldAddr 3 v1 H k) H fun v11 H =>
   W.guarded v10 false (fun H k => W.get v11 H k) H fun v12 H =>
   W.guarded v10 false (fun H k => W.len v12 H k) H fun v13 H =>
   W.guarded v10 false (fun H k => W.bin .eql v13 (.int .i64 0) H k) H fun v14 H =>
   W.pick v10 (.bool true) v14 H fun v15 H =>
   W.cond v15 H
   (fun H => W.build [(.slice none 0 0), (.slice none 0 0), (.slice none 0 0), (.slice none 0 0)] [] H fun v16 H =>
    W.putN 4 v2 v16 H fun _ H =>
    W.getN 4 v2 H fun v17 H => Q (.tuple #[v17, (.int .i64 5)]) H)
   (fun H => W.fieldAddr 3 v1 H fun v18 H =>
    W.get v18 H fun v19 H =>
    W.len v19 H fun v20 H =>
    W.callQ Try.prog (.func (.func 88) #[] #[]) #[v20] H fun v21 H =>
    W.fieldAddr 3 v1 H fun v22 H =>
    W.get v22 H fun v23 H =>
    W.callQ Try.prog (.func (.func 89) #[] #[]) #[v23] H fun v24 H =>
    W.lit 0 [(.slice none 0 0)] 23 [] H fun v25 H =>
    W.fieldAddr 1 v1 H fun v26 H =>
    W.get v26 H fun v27 H =>
    W.callQ Try.prog (.func (.func 89) #[] #[]) #[v27] H fun v28 H =>
    W.build [(.slice none 0 0), (.slice none 0 0), (.slice none 0 0), (.slice none 0 0)] [(0, 1, v21), (1, 1, v24), (2, 1, v25), (3, 1, v28)] H fun v29 H =>
    W.new [(.slice none 0 0), (.slice none 0 0), (.slice none 0 0), (.slice none 0 0)] 28 H fun v30 H =>
    W.putN 4 v30 v29 H fun _ H =>
    W.loop (S := St [5]) (fun I1 s H => f43.l1 Q v1 v30 v2 I1 s.1 H) ((.int .i64 0), ()) H))
theorem f43.enter {Q : Post} {p_0 : Value} {H : Heap} (h : f43.w Q p_0 H) : Runs Try.prog 43 #[p_0] H Q :=
  fn_enter (ann := [(7, [5]), (11, [6, 7])]) (by kernel_rfl) Try.func43 rfl (by kernel_rfl) h (by kernel_rfl)


theorem fn89 {H0 : Heap} {Q : Post} {v : Value} {xs : List Int} (hr : Has RS H0 [v] xs) (hlen : xs.length ≤ 1048576) (hx : ∀ x ∈ xs, I64 (-x)) (hQ : ∀ H' u, FreshG Rd.int 2 H0 u (neg xs) H' → Q u H') : Runs Try.prog 89 #[v] H0 Q := by
  refine f89.enter (Wl.lit0 Rd.int rfl ((Loc.start H0).lent hr) fun H u h => ?_)
  refine W.for_rule xs.length (fun i s H => ∃ u, s = (u, .int .i64 (i : Nat), ()) ∧ Ab.Loc H0 [.grow Rd.int 2 u (neg (xs.take i)), .lent RS [v] xs] H) ⟨_, rfl, h⟩ ?_
  rintro i s H J hi ⟨u, rfl, h⟩ hJ
  refine Wl.len h (Wi.lssC (fun hlt => Wi.tru ?_) fun hge => Wi.fls ?_)
  · have hix : i < xs.length := by omega
    have hn := hx _ (List.getElem_mem hix)
    refine Wl.atInt h hix fun _ => Wi.neg hn (Wl.pushP (r := Rd.int) (x := -xs[i]) rfl rfl rfl (fun _ => ⟨rfl, rfl, hn⟩) h (by rw [neg_length]; simp; omega) fun H u' h => Wi.add (by unfold I64; omega) (hJ _ _ hix ⟨u', rfl, ?_⟩))
    rw [List.take_succ_eq_append_getElem hix]
    have e : neg (xs.take i ++ [xs[i]]) = neg (xs.take i) ++ [-xs[i]] := by unfold neg; rw [List.map_append]; rfl
    rw [e]
    exact h
  · have : i = xs.length := by omega
    subst this
    rw [List.take_length] at h
    exact hQ _ _ (h.retGG (i := 0) rfl)

theorem fn88 {H0 : Heap} {Q : Post} {n : Nat} (hn : n ≤ 1048576) (hQ : ∀ H' u, FreshG RS 23 H0 u (List.replicate n (List.replicate n 0)) H' → Q u H') : Runs Try.prog 88 #[.int .i64 n] H0 Q := by
  refine f88.enter (Wl.lit0 RS rfl (Loc.start H0) fun H u h => ?_)
  refine W.for_rule n (fun i s H => ∃ u, s = (u, .int .i64 (i : Nat), ()) ∧ Ab.Loc H0 [.grow RS 23 u (List.replicate i (List.replicate n 0))] H) ⟨_, rfl, h⟩ ?_
  rintro i s H J hi ⟨u, rfl, h⟩ hJ
  refine Wi.lssC (fun hlt => Wi.tru ?_) fun hge => Wi.fls ?_
  · refine Wl.make (r := Rd.int) (z := 0) (fun _ => ⟨rfl, rfl, by unfold I64; omega⟩) h (by omega) (by decide) fun H w h => Wl.pushG h (by simp; omega) fun H u' h => Wi.add (by unfold I64; omega) (hJ _ _ (by omega) ⟨u', rfl, ?_⟩)
    rw [List.replicate_succ']
    exact h
  · have : i = n := by omega
    subst this
    exact hQ _ _ (h.retGG (i := 0) rfl)

theorem fn87 {H0 : Heap} {Q : Post} {cs : List Value} {p : Prg} (hr : Has RPrg H0 cs p) (hQ : ∀ H' t, H0.Le H' → (t = true ↔ zeroD p.1) → Q (.bool t) H') : Runs Try.prog 87 #[.agg cs.toArray] H0 Q := by
  obtain ⟨u1, u2, u3, u4, rfl, r1, r2, r3, r4⟩ := hasPrg hr
  refine f87.enter ?_
  unfold f87.w
  have h := ((((Loc.start H0).lent r1).lent r2).lent r3).lent r4
  have hs := r1.small
  refine Wl.box h fun H b h => W.all_rule p.1.length (fun i => decide (∀ x ∈ p.1.getD i [], x = 0)) (fun i H1 J hi _ l hJ => ?_) fun H1 J hall l => ?_
  · have h := h.to l
    have e1 : p.1.getD i [] = p.1[i] := by simp [List.getD_eq_getElem?_getD, List.getElem?_eq_getElem hi]
    refine Wi.fieldAddr0 (Wl.get h rfl (Wl.len h (Wi.lssC (fun _ => Wi.tru ?_) fun h => by omega)))
    refine W.all_rule p.1[i].length (fun k => decide (p.1[i].getD k 0 = 0)) (fun k H2 J2 hk _ l2 hJ2 => ?_) fun H2 J2 hall2 l2 => ?_
    · have h := h.to l2
      have hks : p.1[i].length < 9223372036854775808 := by
        obtain ⟨_, hr⟩ := r1
        obtain ⟨b, o, e, kb, fs, q1, _, s⟩ := Rd.slice_at hr hi
        obtain ⟨u, _, ru⟩ := s.one rfl hi
        exact Has.small ⟨_, ru⟩
      refine Wi.fieldAddr0 (Wl.get h rfl (Wl.at1 rfl h hi fun w hw => Wl.lenH hw (Wi.lssC (fun _ => Wi.tru ?_) fun h => by omega)))
      refine Wi.fieldAddr0 (Wl.get h rfl (Wl.at1 rfl h hi fun w hw => Wl.atIntH hw hk fun _ => Wi.neqC (fun hne => Wi.tru ?_) fun heq => Wi.fls ?_))
      · exact hQ _ _ h.le ⟨fun e => Bool.noConfusion e, fun g => absurd (g _ (List.getElem_mem hi) _ (List.getElem_mem hk)) hne⟩
      · refine Wi.add (by unfold I64; omega) (hJ2 ?_ H2 (.refl _))
        simp [List.getD_eq_getElem?_getD, List.getElem?_eq_getElem hk, heq]
    · have h := h.to l2
      refine Wi.fieldAddr0 (Wl.get h rfl (Wl.at1 rfl h hi fun w hw => Wl.lenH hw (Wi.lssC (fun h => by omega) fun _ => Wi.fls ?_)))
      refine Wi.add (by unfold I64; omega) (hJ ?_ H2 l2)
      rw [e1]
      refine decide_eq_true fun x hx => ?_
      obtain ⟨k, hk, rfl⟩ := List.mem_iff_getElem.1 hx
      have := hall2 k hk
      simpa [List.getD_eq_getElem?_getD, List.getElem?_eq_getElem hk] using this
  · have h := h.to l
    refine Wi.fieldAddr0 (Wl.get h rfl (Wl.len h (Wi.lssC (fun h => by omega) fun _ => Wi.fls ?_)))
    refine hQ _ _ h.le ⟨fun _ r hr x hx => ?_, fun _ => rfl⟩
    obtain ⟨i, hi, rfl⟩ := List.mem_iff_getElem.1 hr
    have := hall i hi
    simp only [List.getD_eq_getElem?_getD, List.getElem?_eq_getElem hi, Option.getD_some, decide_eq_true_eq] at this
    exact this x hx


theorem fn43 {H0 : Heap} {Q : Post} {cs : List Value} {p : Prg} (hr : Has RPrg H0 cs p) (hw : wPrg p ≤ 1048576) (hQ : ∀ H' cs', Fresh RPrg H0 cs' (dpRes p).1 H' → Q (.tuple #[.agg cs'.toArray, .int .i64 (dpRes p).2]) H') :
    Runs Try.prog 43 #[.agg cs.toArray] H0 Q := by
  obtain ⟨u1, u2, u3, u4, rfl, r1, r2, r3, r4⟩ := hasPrg hr
  refine f43.enter ?_
  unfold f43.w
  have h := (((((Loc.start H0).lent r1).lent r2).lent r3).lent r4).lent hr
  refine Wl.box h fun H b h => Wl.new h fun H b2 h => Wl.getA h rfl (Wi.call (fn47 (h.rd (cs := [u1, u2, u3, u4])) hw fun H t l ht => ?_))
  have h := h.to l
  have hzero : ∀ H c, H0.Le H → (dpRes p) = (zPrg, c) → Q (.tuple #[.agg zCells4.toArray, .int .i64 c]) H := fun H c l e => by
    have := hQ H zCells4
    rw [e] at this
    exact this (fresh_nil4 l)
  cases t with
  | false =>
    have hp : ¬ IsPrg p := fun g => Bool.noConfusion (ht.2 g)
    simp only [g7, g10]
    exact Wi.build (cells := zCells4) rfl (Wl.putA h rfl rfl rfl fun H h => Wl.getA h rfl (hzero _ _ h.le (by simp only [dpRes, if_neg hp])))
  | true =>
  have hp := ht.1 rfl
  simp only [g8, g9]
  have n1 := hp.n1; have nm := hp.nm; have dl := hp.dl; have al := hp.al
  refine Wl.getA h rfl (Wi.call (fn87 (h.rd (cs := [u1, u2, u3, u4])) fun H t l hz => ?_))
  have h := h.to l
  cases t with
  | false =>
    have hz : ¬ zeroD p.1 := fun g => Bool.noConfusion (hz.2 g)
    simp only [g3, g5, g7, g10]
    exact Wi.build (cells := zCells4) rfl (Wl.putA h rfl rfl rfl fun H h => Wl.getA h rfl (hzero _ _ h.le (by
      simp only [dpRes, if_pos hp]
      rw [if_neg]
      exact fun g => hz g.1)))
  | true =>
  have hz := hz.1 rfl
  simp only [g4, g9]
  refine Wi.fieldAddr0 (Wl.get h rfl (Wl.len h (Wi.eqlC (fun h0 => ?_) fun h0 => ?_)))
  · simp only [g6, g7]
    exact Wi.build (cells := zCells4) rfl (Wl.putA h rfl rfl rfl fun H h => Wl.getA h rfl (hzero _ _ h.le (by
      simp only [dpRes, if_pos hp]
      rw [if_neg]
      omega)))
  have hd : dpRes p = (dualPrg p, 0) := by
    simp only [dpRes, if_pos hp]
    rw [if_pos ⟨hz, by omega⟩]
  rw [hd] at hQ
  simp only [g6, g8]
  have nb : ∀ x ∈ p.2.2.2, I64 (-x) := fun x hx => by have := hp.b x hx; unfold I64; omega
  have nc : ∀ x ∈ p.2.1, I64 (-x) := fun x hx => by have := hp.c x hx; unfold I64; omega
  refine Wi.fieldAddr0 (Wl.get h rfl (Wl.len h (Wi.callQ (fn88 (by omega) fun H w0 f0 => ⟨f0.le, ?_⟩))))
  have h := h.add f0.fresh
  refine Wi.fieldAddr0 (Wl.get h rfl (Wi.callQ (fn89 (h.rd (cs := [u4])) (by omega) nb fun H w1 f1 => ⟨f1.le, ?_⟩)))
  have h := h.add f1.fresh
  refine Wl.lit0 RS rfl h fun H w3 h => Wi.fieldAddr0 (Wl.get h rfl (Wi.callQ (fn89 (h.rd (cs := [u2])) (by omega) nc fun H w2 f2 => ⟨f2.le, ?_⟩)))
  have h := h.add f2.fresh
  have c0 := f0.fresh.read.cell1; have c1 := f1.fresh.read.cell1; have c2 := f2.fresh.read.cell1
  have c3 := (h.rd (cs := [w3])).cell1; have o3 := (h.rd (cs := [w3])).one
  refine Wi.build (cells := [w0, w1, w3, w2]) (by simp [fillA, f0.fresh.read.one, f1.fresh.read.one, f2.fresh.read.one, o3]) (Wl.new h fun H b3 h => Wl.putA h rfl rfl (by simp [c0, c1, c2, c3]) fun H h => ?_)
  refine W.for_rule p.2.1.length (fun i s H => ∃ g, s = (.int .i64 (i : Nat), ()) ∧ Ab.Loc H0 [.box b3 [w0, w1, g, w2], .data RS [w2] (neg p.2.1), .grow RS 23 g (((turnM p.2.2.1 p.2.1.length).map neg).take i), .data RS [w1] (neg p.2.2.2), .data RSS [w0] (List.replicate p.2.2.2.length (List.replicate p.2.2.2.length 0)), .box b2 zCells4, .box b [u1, u2, u3, u4], .lent RPrg [u1, u2, u3, u4] p, .lent RS [u4] p.2.2.2, .lent RSS [u3] p.2.2.1, .lent RS [u2] p.2.1] H) ⟨_, rfl, by simpa using h.first 11⟩ ?_
  rintro i s H J hi ⟨g, rfl, h⟩ hJ
  refine Wi.fieldAddr0 (Wl.get h rfl (Wl.len h (Wi.lssC (fun hlt => Wi.tru ?_) fun hge => Wi.fls ?_)))
  · refine Wl.lit0 Rd.int rfl h fun H r h => ?_
    refine W.for_rule p.2.2.2.length (fun j s H => ∃ r, s = (r, .int .i64 (j : Nat), ()) ∧ Ab.Loc H0 [.grow Rd.int 2 r (neg ((p.2.2.1.take j).map fun r => r.getD i 0)), .box b3 [w0, w1, g, w2], .data RS [w2] (neg p.2.1), .grow RS 23 g (((turnM p.2.2.1 p.2.1.length).map neg).take i), .data RS [w1] (neg p.2.2.2), .data RSS [w0] (List.replicate p.2.2.2.length (List.replicate p.2.2.2.length 0)), .box b2 zCells4, .box b [u1, u2, u3, u4], .lent RPrg [u1, u2, u3, u4] p, .lent RS [u4] p.2.2.2, .lent RSS [u3] p.2.2.1, .lent RS [u2] p.2.1] H) ⟨_, rfl, by simpa [neg] using h⟩ ?_
    rintro j s H J2 hj ⟨r, rfl, h⟩ hJ2
    refine Wi.fieldAddr0 (Wl.get h rfl (Wl.len h (Wi.lssC (fun hlt => Wi.tru ?_) fun hge => Wi.fls ?_)))
    · have hja : j < p.2.2.1.length := by omega
      have ha := hp.a _ (List.getElem_mem hja)
      have hia : i < p.2.2.1[j].length := by omega
      have hx := ha.2 _ (List.getElem_mem hia)
      have hn : I64 (-p.2.2.1[j][i]) := by unfold I64; omega
      refine Wi.fieldAddr0 (Wl.get h rfl (Wl.at1 rfl h hja fun v hv => Wl.atIntH hv hia fun _ => Wi.neg hn (Wl.pushP (r := Rd.int) (x := -p.2.2.1[j][i]) rfl rfl rfl (fun _ => ⟨rfl, rfl, hn⟩) h (by rw [neg_length]; simp; omega) fun H r' h => Wi.add (by unfold I64; omega) (hJ2 _ _ (by omega) ⟨r', rfl, ?_⟩))))
      have e : neg ((p.2.2.1.take (j + 1)).map fun r => r.getD i 0) = neg ((p.2.2.1.take j).map fun r => r.getD i 0) ++ [-p.2.2.1[j][i]] := by
        have e0 : p.2.2.1[j].getD i 0 = p.2.2.1[j][i] := by simp [List.getD_eq_getElem?_getD, List.getElem?_eq_getElem hia]
        rw [List.take_succ_eq_append_getElem hja, List.map_append]
        unfold neg
        rw [List.map_append]
        simp only [List.map_cons, List.map_nil, e0]
      rw [e]
      exact h
    · have : j = p.2.2.2.length := by omega
      subst this
      rw [List.take_of_length_le (by omega)] at h
      have hix2 : i < ((turnM p.2.2.1 p.2.1.length).map neg).length := by simp [turnM]; omega
      refine Wi.fieldAddr0 (Wl.get h rfl (Wl.pushG (v := g) h (by simp; omega) fun H g' h => Wi.fieldAddr0 (Wl.put h (h.rd (cs := [g'])).cell1 (by simp) fun H h => Wi.add (by unfold I64; omega) (hJ _ _ (by omega) ⟨g', rfl, ?_⟩))))
      rw [List.take_succ_eq_append_getElem hix2, List.getElem_map]
      have e : (turnM p.2.2.1 p.2.1.length)[i]'(by simpa using hix2) = p.2.2.1.map fun r => r.getD i 0 := by simp [turnM]
      rw [e]
      exact h
  · have : i = p.2.1.length := by omega
    subst this
    rw [List.take_of_length_le (by simp [turnM])] at h
    have k2 := (h.rd (cs := [g])).cell1
    refine Wl.getA h rfl (Wl.putA h rfl rfl (by simp [c0, c1, c2, k2]) fun H h => Wl.getA h rfl (hQ _ _ ?_))
    have h := h.asData (i := 2) rfl
    exact Loc.ret4 (p := dualPrg p) h (i1 := 4) (i2 := 3) (i3 := 2) (i4 := 1) rfl rfl rfl rfl (by decide)


end Go.Proofs.Ytccppfpjiaafaaa
