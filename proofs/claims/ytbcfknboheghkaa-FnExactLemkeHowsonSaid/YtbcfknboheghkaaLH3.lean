/- Contracts of the program's first table, steps and values. No condition. -/
import Derived.Test.YtbcfknboheghkaaLH1
import Derived.Test.YtbcfknboheghkaaLH2
import Derived.Test.YtbcfknboheghkaaF1
namespace Go.Proofs.Ytbcfknboheghkaa
open Go.Ab

/- loop.example/g01343/impl.newTable -/
def f26.j1 (Q : Post) (v6 : Value) (v1 : Value) (x_18 : Value) (I1 : St [18] → Heap → Prop) (row_8 : Value) (H : Heap) : Prop :=
  W.nilCheck v6 H fun v32 H =>
  W.fieldAddr 0 v32 H fun v33 H =>
  W.get v33 H fun v34 H =>
  W.fieldAddr 1 v1 H fun v35 H =>
  W.get v35 H fun v36 H =>
  W.indexAddr 1 v36 x_18 H fun v37 H =>
  W.get v37 H fun v38 H =>
  W.lit 1 [(.int .i64 0)] 2 [(0, 1, v38)] H fun v39 H =>
  W.append 1 2 row_8 v39 H fun v40 H =>
  W.chk (fun H k => W.get v33 H k) v34 H (W.lit 1 [(.slice none 0 0)] 38 [(0, 1, v40)] H fun v41 H =>
  W.append 1 38 v34 v41 H fun v42 H =>
  W.nilCheck v6 H fun v43 H =>
  W.fieldAddr 0 v43 H fun v44 H =>
  W.put v44 v42 H fun _ H =>
  W.nilCheck v6 H fun v45 H =>
  W.fieldAddr 2 v45 H fun v46 H =>
  W.get v46 H fun v47 H =>
  W.lit 1 [(.int .i64 0)] 3 [(0, 1, x_18)] H fun v48 H =>
  W.append 1 3 v47 v48 H fun v49 H =>
  W.nilCheck v6 H fun v50 H =>
  W.fieldAddr 2 v50 H fun v51 H =>
  W.put v51 v49 H fun _ H =>
  W.bin .add x_18 (.int .i64 1) H fun v52 H =>
  I1 (v52, ()) H)
def f26.l2 (Q : Post) (v17 : Value) (v16 : Value) (v4 : Value) (v11 : Value) (cover_1 : Value) (x_18 : Value) (v6 : Value) (v1 : Value) (I1 : St [18] → Heap → Prop) (I2 : St [36] → Heap → Prop) (x_36 : Value) (H : Heap) : Prop :=
  W.bin .lss x_36 v17 H fun v18 H =>
  W.cond v18 H
  (fun H => W.indexAddr 1 v16 x_36 H fun v19 H =>
   W.get v19 H fun v20 H =>
   W.bin .add v4 x_36 H fun v21 H =>
   W.un .neg v20 H fun v22 H =>
   W.indexAddr 1 v11 v21 H fun v23 H =>
   W.put v23 v22 H fun _ H =>
   W.bin .add x_36 (.int .i64 1) H fun v24 H =>
   I2 (v24, ()) H)
  (fun H => W.len cover_1 H fun v25 H =>
   W.bin .gtr v25 (.int .i64 0) H fun v26 H =>
   W.cond v26 H
   (fun H => W.indexAddr 1 cover_1 x_18 H fun v27 H =>
    W.get v27 H fun v28 H =>
    W.un .neg v28 H fun v29 H =>
    W.lit 1 [(.int .i64 0)] 2 [(0, 1, v29)] H fun v30 H =>
    W.append 1 2 v11 v30 H fun v31 H =>
    f26.j1 Q v6 v1 x_18 I1 v31 H)
   (fun H => f26.j1 Q v6 v1 x_18 I1 v11 H))
def f26.l1 (Q : Post) (v4 : Value) (v1 : Value) (cover_1 : Value) (v6 : Value) (I1 : St [18] → Heap → Prop) (x_18 : Value) (H : Heap) : Prop :=
  W.bin .lss x_18 v4 H fun v7 H =>
  W.cond v7 H
  (fun H => W.bin .mul (.int .i64 2) v4 H fun v8 H =>
   W.bin .mul (.int .i64 2) v4 H fun v9 H =>
   W.bin .add v9 (.int .i64 2) H fun v10 H =>
   W.make [(.int .i64 0)] 2 v8 v10 H fun v11 H =>
   W.indexAddr 1 v11 x_18 H fun v12 H =>
   W.put v12 (.int .i64 1) H fun _ H =>
   W.fieldAddr 0 v1 H fun v13 H =>
   W.get v13 H fun v14 H =>
   W.indexAddr 1 v14 x_18 H fun v15 H =>
   W.get v15 H fun v16 H =>
   W.len v16 H fun v17 H =>
   W.loop (S := St [36]) (fun I2 s H => f26.l2 Q v17 v16 v4 v11 cover_1 x_18 v6 v1 I1 I2 s.1 H) ((.int .i64 0), ()) H)
  (fun H => Q v6 H)
def f26.w (Q : Post) (p_0 : Value) (cover_1 : Value) (H : Heap) : Prop :=
  W.box p_0 40 H fun v1 H =>
  W.fieldAddr 1 v1 H fun v2 H =>
  W.get v2 H fun v3 H =>
  W.len v3 H fun v4 H =>
  W.build [(.slice none 0 0), (.int .i64 0), (.slice none 0 0), (.int .i64 0)] [(1, 1, (.int .i64 1)), (3, 1, v4)] H fun v5 H =>
  W.box v5 59 H fun v6 H =>
  W.loop (S := St [18]) (fun I1 s H => f26.l1 Q v4 v1 cover_1 v6 I1 s.1 H) ((.int .i64 0), ()) H
theorem f26.enter {Q : Post} {p_0 : Value} {cover_1 : Value} {H : Heap} (h : f26.w Q p_0 cover_1 H) : Runs Try.prog 26 #[p_0, cover_1] H Q :=
  fn_enter (ann := [(4, [18]), (9, [36])]) (by kernel_rfl) Try.func26 rfl (by kernel_rfl) h (by kernel_rfl)

/- (*loop.example/g01343/impl.table).step -/
def f28.j1 (Q : Post) (x_33 : Value) (I1 : St [33] → Heap → Prop) (H : Heap) : Prop :=
  W.bin .add x_33 (.int .i64 1) H fun v18 H =>
  I1 (v18, ()) H
def f28.l2 (Q : Post) (v19 : Value) (v14 : Value) (v7 : Value) (v5 : Value) (v16 : Value) (t_0 : Value) (x_33 : Value) (I1 : St [33] → Heap → Prop) (I2 : St [47] → Heap → Prop) (x_47 : Value) (H : Heap) : Prop :=
  W.bin .lss x_47 v19 H fun v20 H =>
  W.cond v20 H
  (fun H => W.indexAddr 1 v14 x_47 H fun v21 H =>
   W.get v21 H fun v22 H =>
   W.bin .mul v22 v7 H fun v23 H =>
   W.indexAddr 1 v5 x_47 H fun v24 H =>
   W.get v24 H fun v25 H =>
   W.bin .mul v16 v25 H fun v26 H =>
   W.bin .sub v23 v26 H fun v27 H =>
   W.nilCheck t_0 H fun v28 H =>
   W.fieldAddr 1 v28 H fun v29 H =>
   W.get v29 H fun v30 H =>
   W.bin .quo v27 v30 H fun v31 H =>
   W.indexAddr 1 v14 x_47 H fun v32 H =>
   W.put v32 v31 H fun _ H =>
   W.bin .add x_47 (.int .i64 1) H fun v33 H =>
   I2 (v33, ()) H)
  (fun H => f28.j1 Q x_33 I1 H)
def f28.l4 (Q : Post) (v45 : Value) (v44 : Value) (x_85 : Value) (I3 : St [85] → Heap → Prop) (I4 : St [91] → Heap → Prop) (x_91 : Value) (H : Heap) : Prop :=
  W.bin .lss x_91 v45 H fun v46 H =>
  W.cond v46 H
  (fun H => W.indexAddr 1 v44 x_91 H fun v47 H =>
   W.get v47 H fun v48 H =>
   W.un .neg v48 H fun v49 H =>
   W.indexAddr 1 v44 x_91 H fun v50 H =>
   W.put v50 v49 H fun _ H =>
   W.bin .add x_91 (.int .i64 1) H fun v51 H =>
   I4 (v51, ()) H)
  (fun H => W.bin .add x_85 (.int .i64 1) H fun v52 H =>
   I3 (v52, ()) H)
def f28.j2 (Q : Post) (t_0 : Value) (r_2 : Value) (v_1 : Value) (H : Heap) : Prop :=
  W.nilCheck t_0 H fun v53 H =>
  W.fieldAddr 2 v53 H fun v54 H =>
  W.get v54 H fun v55 H =>
  W.indexAddr 1 v55 r_2 H fun v56 H =>
  W.get v56 H fun v57 H =>
  W.nilCheck t_0 H fun v58 H =>
  W.fieldAddr 2 v58 H fun v59 H =>
  W.get v59 H fun v60 H =>
  W.indexAddr 1 v60 r_2 H fun v61 H =>
  W.put v61 v_1 H fun _ H =>
  Q v57 H
def f28.l3 (Q : Post) (v41 : Value) (v40 : Value) (t_0 : Value) (r_2 : Value) (v_1 : Value) (I3 : St [85] → Heap → Prop) (x_85 : Value) (H : Heap) : Prop :=
  W.bin .lss x_85 v41 H fun v42 H =>
  W.cond v42 H
  (fun H => W.indexAddr 1 v40 x_85 H fun v43 H =>
   W.get v43 H fun v44 H =>
   W.len v44 H fun v45 H =>
   W.loop (S := St [91]) (fun I4 s H => f28.l4 Q v45 v44 x_85 I3 I4 s.1 H) ((.int .i64 0), ()) H)
  (fun H => f28.j2 Q t_0 r_2 v_1 H)
def f28.l1 (Q : Post) (v11 : Value) (v10 : Value) (v_1 : Value) (r_2 : Value) (v7 : Value) (v5 : Value) (t_0 : Value) (I1 : St [33] → Heap → Prop) (x_33 : Value) (H : Heap) : Prop :=
  W.bin .lss x_33 v11 H fun v12 H =>
  W.cond v12 H
  (fun H => W.indexAddr 1 v10 x_33 H fun v13 H =>
   W.get v13 H fun v14 H =>
   W.indexAddr 1 v14 v_1 H fun v15 H =>
   W.get v15 H fun v16 H =>
   W.bin .eql x_33 r_2 H fun v17 H =>
   W.cond v17 H
   (fun H => f28.j1 Q x_33 I1 H)
   (fun H => W.len v14 H fun v19 H =>
    W.loop (S := St [47]) (fun I2 s H => f28.l2 Q v19 v14 v7 v5 v16 t_0 x_33 I1 I2 s.1 H) ((.int .i64 0), ()) H))
  (fun H => W.call Try.prog (.func (.func 44) #[] #[]) #[v7] H fun v34 H =>
   W.nilCheck t_0 H fun v35 H =>
   W.fieldAddr 1 v35 H fun v36 H =>
   W.put v36 v34 H fun _ H =>
   W.bin .lss v7 (.int .i64 0) H fun v37 H =>
   W.cond v37 H
   (fun H => W.nilCheck t_0 H fun v38 H =>
    W.fieldAddr 0 v38 H fun v39 H =>
    W.get v39 H fun v40 H =>
    W.len v40 H fun v41 H =>
    W.loop (S := St [85]) (fun I3 s H => f28.l3 Q v41 v40 t_0 r_2 v_1 I3 s.1 H) ((.int .i64 0), ()) H)
   (fun H => f28.j2 Q t_0 r_2 v_1 H))
def f28.w (Q : Post) (t_0 : Value) (v_1 : Value) (r_2 : Value) (H : Heap) : Prop :=
  W.nilCheck t_0 H fun v1 H =>
  W.fieldAddr 0 v1 H fun v2 H =>
  W.get v2 H fun v3 H =>
  W.indexAddr 1 v3 r_2 H fun v4 H =>
  W.get v4 H fun v5 H =>
  W.indexAddr 1 v5 v_1 H fun v6 H =>
  W.get v6 H fun v7 H =>
  W.nilCheck t_0 H fun v8 H =>
  W.fieldAddr 0 v8 H fun v9 H =>
  W.get v9 H fun v10 H =>
  W.len v10 H fun v11 H =>
  W.loop (S := St [33]) (fun I1 s H => f28.l1 Q v11 v10 v_1 r_2 v7 v5 t_0 I1 s.1 H) ((.int .i64 0), ()) H
theorem f28.enter {Q : Post} {t_0 : Value} {v_1 : Value} {r_2 : Value} {H : Heap} (h : f28.w Q t_0 v_1 r_2 H) : Runs Try.prog 28 #[t_0, v_1, r_2] H Q :=
  fn_enter (ann := [(4, [33]), (9, [47]), (17, [85]), (20, [91])]) (by kernel_rfl) Try.func28 rfl (by kernel_rfl) h (by kernel_rfl)

/- (*loop.example/g01343/impl.table).values -/
def f31.j1 (Q : Post) (x_17 : Value) (I1 : St [17] → Heap → Prop) (H : Heap) : Prop :=
  W.bin .add x_17 (.int .i64 1) H fun v20 H =>
  I1 (v20, ()) H
def f31.l1 (Q : Post) (v9 : Value) (v8 : Value) (t_0 : Value) (v5 : Value) (I1 : St [17] → Heap → Prop) (x_17 : Value) (H : Heap) : Prop :=
  W.bin .lss x_17 v9 H fun v10 H =>
  W.cond v10 H
  (fun H => W.indexAddr 1 v8 x_17 H fun v11 H =>
   W.get v11 H fun v12 H =>
   W.nilCheck t_0 H fun v13 H =>
   W.fieldAddr 3 v13 H fun v14 H =>
   W.get v14 H fun v15 H =>
   W.bin .mul (.int .i64 2) v15 H fun v16 H =>
   W.bin .lss v12 v16 H fun v17 H =>
   W.cond v17 H
   (fun H => W.call Try.prog (.func (.func 50) #[] #[]) #[t_0, x_17] H fun v18 H =>
    W.indexAddr 1 v5 v12 H fun v19 H =>
    W.put v19 v18 H fun _ H =>
    f31.j1 Q x_17 I1 H)
   (fun H => f31.j1 Q x_17 I1 H))
  (fun H => Q v5 H)
def f31.w (Q : Post) (t_0 : Value) (H : Heap) : Prop :=
  W.nilCheck t_0 H fun v1 H =>
  W.fieldAddr 3 v1 H fun v2 H =>
  W.get v2 H fun v3 H =>
  W.bin .mul (.int .i64 2) v3 H fun v4 H =>
  W.make [(.int .i64 0)] 2 v4 v4 H fun v5 H =>
  W.nilCheck t_0 H fun v6 H =>
  W.fieldAddr 2 v6 H fun v7 H =>
  W.get v7 H fun v8 H =>
  W.len v8 H fun v9 H =>
  W.loop (S := St [17]) (fun I1 s H => f31.l1 Q v9 v8 t_0 v5 I1 s.1 H) ((.int .i64 0), ()) H
theorem f31.enter {Q : Post} {t_0 : Value} {H : Heap} (h : f31.w Q t_0 H) : Runs Try.prog 31 #[t_0] H Q :=
  fn_enter (ann := [(3, [17])]) (by kernel_rfl) Try.func31 rfl (by kernel_rfl) h (by kernel_rfl)


def rowE (g : Game) (i : Nat) : List Int := (List.range (2 * nG g + 1)).map fun c => lhE g i c
def bas0 (n : Nat) : List Int := (List.range n).map fun i => ((i : Nat) : Int)

theorem lhE_i64 {g : Game} (hg : IsGm g) (i c : Nat) : I64 (lhE g i c) := by
  have := lhE_abs hg i c
  unfold I64
  omega

theorem fn26 {H0 : Heap} {Q : Post} {cs : List Value} {g : Game} (hg : IsGm g) (hr : Has RProblem H0 cs (gmP g)) (hQ : ∀ H' b u w, Ab.Loc H0 [.box b [u, .int .i64 1, w, .int .i64 (nG g : Nat)], .data RSS [u] (lhRows0 g), .data RS [w] (bas0 (nG g))] H' → Q (pt b 0) H') :
    Runs Try.prog 26 #[.agg cs.toArray, .slice none 0 0] H0 Q := by
  obtain ⟨p1, p2, rfl, r1, r2⟩ := hasProb hr
  have hn5 : nG g ≤ 5 := hg.kl
  have hql : (gmP g).2.length = nG g := by simp [gmP]
  have hml : (gmP g).1.length = nG g := tabL_len _ _
  refine f26.enter ?_
  unfold f26.w
  have h := ((Loc.start H0).lent r2).lent r1
  refine Wl.box (cs := [p1, p2]) h fun H bp h => Wi.fieldAddr (Wl.get (b := bp) (o := 1) h rfl (Wl.len (v := p2) (xs := (gmP g).2) h ?_))
  rw [hql]
  refine Wi.build (cells := [.slice none 0 0, .int .i64 1, .slice none 0 0, .int .i64 (nG g : Nat)]) rfl (Wl.box h fun H b h => ?_)
  have hE : ∀ i c, lhE g i c = if c < nG g then (if i = c then 1 else 0) else if c < 2 * nG g then -(gmE g i (c - nG g)) else 1 := fun _ _ => rfl
  have hsq : ∀ r ∈ (gmP g).1, r.length = nG g := (tabL_sq (nG g) (gmE g)).2
  have htab : ∀ i k, i < nG g → k < nG g → mAt (gmP g).1 i k = gmE g i k := fun i k hi hk => tabL_at hi hk
  have hrow : rowE g = fun i => (List.range (2 * nG g + 1)).map fun c => lhE g i c := rfl
  have hq1 : ∀ i (hi : i < (gmP g).2.length), (gmP g).2[i] = 1 := fun i hi => by simp [gmP]
  have hall : (List.range (nG g)).map (rowE g) = lhRows0 g := rfl
  generalize hn : nG g = n at *
  have h : Ab.Loc H0 [.grow RS 38 (.slice none 0 0) [], .grow Rd.int 3 (.slice none 0 0) [], .box b [.slice none 0 0, .int .i64 1, .slice none 0 0, .int .i64 (n : Nat)], .box bp [p1, p2], .lent RSS [p1] (gmP g).1, .lent RS [p2] (gmP g).2] H := (h.nilG Rd.int 3).nilG RS 38
  refine W.for_rule n (fun i st H => ∃ u w, st = (.int .i64 (i : Nat), ()) ∧ Ab.Loc H0 [.grow RS 38 u ((List.range i).map (rowE g)), .grow Rd.int 3 w (bas0 i), .box b [u, .int .i64 1, w, .int .i64 (n : Nat)], .box bp [p1, p2], .lent RSS [p1] (gmP g).1, .lent RS [p2] (gmP g).2] H) ⟨_, _, rfl, h⟩ ?_
  rintro i st H J hi ⟨u, w, rfl, h⟩ hJ
  refine Wi.lssC (fun hlt => Wi.tru ?_) fun hge => Wi.fls ?_
  · have hin : i < n := by omega
    refine Wi.mul (by unfold I64; omega) (Wi.mul (by unfold I64; omega) (Wi.add (by unfold I64; omega) ?_))
    rw [show (2 : Int) * (n : Nat) = ((2 * n : Nat) : Int) by omega, show ((2 * n : Nat) : Int) + 2 = ((2 * n + 2 : Nat) : Int) by omega]
    refine makeB h (m := 2 * n) (c := 2 * n + 2) (by omega) (by omega) fun H bb h => ?_
    refine boxSet (b := bb) h (i := i) (by omega) rfl (by simp; omega) fun H h => ?_
    have him : i < (gmP g).1.length := by omega
    have hiq : i < (gmP g).2.length := by omega
    refine Wi.fieldAddr0 (Wl.get (b := bp) h rfl (Wl.atL (v := p1) (xs := (gmP g).1) rfl h him fun r h => ?_))
    have hrl : (gmP g).1[i].length = n := hsq _ (List.getElem_mem him)
    have hme : ∀ k (hk : k < (gmP g).1[i].length), (gmP g).1[i][k] = gmE g i k := fun k hk => by
      rw [← htab i k hin (by omega)]
      unfold mAt
      rw [show (gmP g).1.getD i [] = (gmP g).1[i] by simp [List.getD_eq_getElem?_getD, List.getElem?_eq_getElem him], atD hk]
    refine Wl.len (v := r) (xs := (gmP g).1[i]) h ?_
    rw [hrl]
    have start : ∀ c, c < 2 * n → ((List.replicate (2 * n + 2) (Value.int IntKind.i64 0)).set i (.int .i64 1))[c]? = some (.int .i64 (if c < n then (if i = c then 1 else 0) else if c < n + 0 then -(gmE g i (c - n)) else 0)) := fun c hc => by
      by_cases e : i = c
      · subst e
        rw [if_pos hin, if_pos rfl]
        rw [List.getElem?_set_self (by simp; omega)]
      · rw [List.getElem?_set_ne e]
        have : (List.replicate (2 * n + 2) (Value.int IntKind.i64 0))[c]? = some (.int .i64 0) := by rw [List.getElem?_replicate, if_pos (by omega)]
        rw [this]
        split
        · rfl
        · rw [if_neg (by omega)]
    refine W.for_rule n (fun k st H' => ∃ cs : List Value, st = (.int .i64 (k : Nat), ()) ∧ cs.length = 2 * n + 2 ∧ (∀ c, c < 2 * n → cs[c]? = some (.int .i64 (if c < n then (if i = c then 1 else 0) else if c < n + k then -(gmE g i (c - n)) else 0))) ∧ Ab.Loc H0 [.lent RS [r] (gmP g).1[i], .box bb cs, .grow RS 38 u ((List.range i).map (rowE g)), .grow Rd.int 3 w (bas0 i), .box b [u, .int .i64 1, w, .int .i64 (n : Nat)], .box bp [p1, p2], .lent RSS [p1] (gmP g).1, .lent RS [p2] (gmP g).2] H') ⟨_, rfl, by simp, start, h⟩ ?_
    rintro k st H' J2 hk ⟨cs, rfl, hcl, hcs, h⟩ hJ2
    refine Wi.lssC (fun hlt2 => Wi.tru ?_) fun hge2 => Wi.fls ?_
    · have hkn : k < n := by omega
      have hab := gmE_abs hg i k
      refine Wl.atIntH (h.rd (cs := [r]) (x := (gmP g).1[i])) (i := k) (by omega) fun _ => Wi.add (by unfold I64; omega) ?_
      rw [hme k (by omega), show ((n : Nat) : Int) + ((k : Nat) : Int) = ((n + k : Nat) : Int) by omega]
      refine Wi.neg (by unfold I64; omega) (boxSet (b := bb) h (i := n + k) (by omega) rfl (by omega) fun H2 h => Wi.add (by unfold I64; omega) (hJ2 _ _ hkn ⟨_, rfl, by simp; omega, fun c hc => ?_, h⟩))
      by_cases e : n + k = c
      · subst e
        rw [List.getElem?_set_self (by omega), if_neg (by omega), if_pos (by omega), show n + k - n = k by omega]
      · rw [List.getElem?_set_ne e, hcs c hc]
        split
        · rfl
        · split
          · rw [if_pos (by omega)]
          · rw [if_neg (by omega)]
    · have hkn : k = n := by omega
      subst hkn
      refine (show W.len (.slice none 0 0) H' _ from ?_)
      refine Wi.len (Wi.gtrC (fun q => absurd q (by decide)) fun _ => Wi.fls ?_)
      unfold f26.j1
      refine Wi.nilP (Wi.fieldAddr (Wl.get (b := b) (o := 0) h rfl ?_))
      refine Wi.fieldAddr (Wl.get (b := bp) (o := 1) h rfl (Wl.atIntH (h.rd (cs := [p2]) (x := (gmP g).2)) hiq fun _ => ?_))
      rw [hq1 i hiq]
      refine boxPush (b := bb) h (by omega) (by omega) fun H' h => ?_
      refine Wi.chk (Wl.get (b := b) (o := 0) h rfl ⟨rfl, rfl⟩) ?_
      have hrlen : (rowE g i).length = 2 * k + 1 := by rw [hrow]; simp
      have h := h.rowB (i := 1) (n := 2 * k + 1) (e := 2 * (2 * k + 2)) (xs := rowE g i) rfl hrlen.symm (by omega) (by omega) (by simp; omega) fun j hj => ?_
      · have h : Ab.Loc H0 [.lent RS [r] (gmP g).1[i], .data RS [.slice (some (adr bb 0)) (2 * k + 1) (2 * (2 * k + 2))] (rowE g i), .grow RS 38 u ((List.range i).map (rowE g)), .grow Rd.int 3 w (bas0 i), .box b [u, .int .i64 1, w, .int .i64 (k : Nat)], .box bp [p1, p2], .lent RSS [p1] (gmP g).1, .lent RS [p2] (gmP g).2] H' := h
        refine Wl.pushO (r := RS) (u := .slice (some (adr bb 0)) (2 * k + 1) (2 * (2 * k + 2))) (x := rowE g i) (i := 2) (j := 1) rfl h (by decide) rfl (by simp; omega) fun H' u' h => ?_
        have h : Ab.Loc H0 [.lent RS [r] (gmP g).1[i], .emp, .grow RS 38 u' ((List.range i).map (rowE g) ++ [rowE g i]), .grow Rd.int 3 w (bas0 i), .box b [u, .int .i64 1, w, .int .i64 (k : Nat)], .box bp [p1, p2], .lent RSS [p1] (gmP g).1, .lent RS [p2] (gmP g).2] H' := h
        have k3 := (h.rd (cs := [u']) (r := RSS)).cell1
        refine Wi.nilP (Wi.fieldAddr (Wl.put (b := b) (o := 0) (i := 4) h k3 (by simp) fun H' h => ?_))
        refine Wi.nilP (Wi.fieldAddr (Wl.get (b := b) (o := 2) h rfl ?_))
        refine Wl.pushP (r := Rd.int) (x := ((i : Nat) : Int)) (i := 3) rfl rfl rfl (fun _ => ⟨rfl, rfl, by unfold I64; omega⟩) h (by simp [bas0]; omega) fun H' w' h => ?_
        have h : Ab.Loc H0 [.lent RS [r] (gmP g).1[i], .emp, .grow RS 38 u' ((List.range i).map (rowE g) ++ [rowE g i]), .grow Rd.int 3 w' (bas0 i ++ [((i : Nat) : Int)]), .box b [u', .int .i64 1, w, .int .i64 (k : Nat)], .box bp [p1, p2], .lent RSS [p1] (gmP g).1, .lent RS [p2] (gmP g).2] H' := h
        have k4 := (h.rd (cs := [w']) (r := RS)).cell1
        refine Wi.nilP (Wi.fieldAddr (Wl.put (b := b) (o := 2) (i := 4) h k4 (by simp) fun H' h => Wi.add (by unfold I64; omega) (hJ _ _ hin ⟨u', w', rfl, ?_⟩)))
        rw [List.range_succ, List.map_append]
        have e2 : bas0 (i + 1) = bas0 i ++ [((i : Nat) : Int)] := by unfold bas0; rw [List.range_succ, List.map_append]; rfl
        rw [e2]
        exact (h.cut 0).cut 0
      · have hj2 : j < 2 * k + 1 := by omega
        have ej : (rowE g i)[j] = lhE g i j := by simp [hrow]
        rw [ej]
        refine ⟨?_, lhE_i64 hg i j⟩
        by_cases c : j < 2 * k
        · rw [List.append_assoc, List.getElem?_append_left (by simp; omega), List.getElem?_take, if_pos c, hcs j c, hE]
          by_cases c2 : j < k
          · rw [if_pos c2, if_pos c2]
          · rw [if_neg c2, if_neg c2, if_pos c, if_pos (by omega)]
        · have : j = 2 * k := by omega
          subst this
          rw [List.append_assoc, List.getElem?_append_right (by simp; omega), hE, if_neg (by omega), if_neg (by omega)]
          simp [show min (2 * k) cs.length = 2 * k by omega]
  · have : i = n := by omega
    subst this
    have h := (h.asData (i := 0) rfl).asData (i := 1) rfl
    have h : Ab.Loc H0 [.data RSS [u] ((List.range i).map (rowE g)), .data RS [w] (bas0 i), .box b [u, .int .i64 1, w, .int .i64 (i : Nat)], .box bp [p1, p2], .lent RSS [p1] (gmP g).1, .lent RS [p2] (gmP g).2] H := h
    rw [hall] at h
    exact hQ _ b u w ((h.front 2 rfl).first 3)

/-! ### Steps -/

theorem mAt_set2 {m : List (List Int)} {i c : Nat} {y : Int} (hi : i < m.length) (hc : c < m[i].length) (j x : Nat) : mAt (m.set i (m[i].set c y)) j x = if j = i ∧ x = c then y else mAt m j x := by
  unfold mAt
  simp only [List.getD_eq_getElem?_getD]
  by_cases e : j = i
  · subst e
    rw [List.getElem?_set_self hi]
    simp only [Option.getD_some, List.getElem?_eq_getElem hi]
    by_cases e2 : x = c
    · subst e2
      rw [List.getElem?_set_self hc, if_pos (by simp)]
      rfl
    · rw [List.getElem?_set_ne (fun q => e2 q.symm), if_neg fun q => e2 q.2]
  · rw [List.getElem?_set_ne (fun q => e q.symm), if_neg fun q => e q.1]

theorem mat_same {a b : List (List Int)} {n l : Nat} (ha : a.length = n) (hb : b.length = n) (hra : ∀ r ∈ a, r.length = l) (hrb : ∀ r ∈ b, r.length = l) (he : ∀ i j, i < n → j < l → mAt a i j = mAt b i j) : a = b := by
  apply List.ext_getElem (by omega)
  intro i h1 h2
  have l1 := hra _ (List.getElem_mem h1)
  have l2 := hrb _ (List.getElem_mem h2)
  apply List.ext_getElem (by omega)
  intro j g1 g2
  have := he i j (by omega) (by omega)
  unfold mAt at this
  rw [show a.getD i [] = a[i] by simp [List.getD_eq_getElem?_getD, List.getElem?_eq_getElem h1], show b.getD i [] = b[i] by simp [List.getD_eq_getElem?_getD, List.getElem?_eq_getElem h2], atD g1, atD g2] at this
  exact this

theorem LhI.rowsT {g : Game} (hg : IsGm g) {s : LhS} (h : LhI g s) : RowsT (nG g) s.rows :=
  ⟨hg.kl, h.rl, h.rw, fun i c hi hc => h.tab.abs hg.kl (fun i c _ _ => lhE_abs hg i c) hi hc⟩

/-- The numbers of the next table. -/
theorem LhI.piv {g : Game} (hg : IsGm g) {s : LhS} (h : LhI g s) {i c : Nat} (hi : i < nG g) (hc : c < 2 * nG g + 1) :
    mAt (lhStep (nG g) s).rows i c = if i = lhRow (nG g) s then mAt s.rows (lhRow (nG g) s) c else (mAt s.rows i c * mAt s.rows (lhRow (nG g) s) s.v - mAt s.rows i s.v * mAt s.rows (lhRow (nG g) s) c).tdiv s.den :=
  mAt_piv (by rw [h.rl]; exact hi) (by rw [h.rowlen hi]; exact hc)

theorem fn28 {H0 H : Heap} {L : List (Atom H0.next)} {Q : Post} {b : Nat} {u w : Value} {us : List Value} {g : Game} (hg : IsGm g) {s : LhS} (hI : LhI g s) (h : Ab.Loc H0 (.box b [u, .int .i64 s.den, w, .int .i64 (nG g : Nat)] :: .rows RS u us s.rows :: .data RS [w] s.bas :: L) H)
    (hQ : ∀ H', Ab.Loc H0 (.box b [u, .int .i64 (lhStep (nG g) s).den, w, .int .i64 (nG g : Nat)] :: .rows RS u us (lhStep (nG g) s).rows :: .data RS [w] (lhStep (nG g) s).bas :: L) H' → Q (.int .i64 (lhLeft (nG g) s : Nat)) H') :
    Runs Try.prog 28 #[pt b 0, .int .i64 (s.v : Nat), .int .i64 (lhRow (nG g) s : Nat)] H Q := by
  have hT := hI.rowsT hg
  obtain ⟨hl, _⟩ := hI.least hg
  have hr := hl.lt
  have hp := hl.pos
  have hN := (hI.next hg).1
  have hTN := hN.rowsT hg
  have hd := hI.tab.pos
  have hdb := hI.tab.dabs hg.kl fun i c _ _ => lhE_abs hg i c
  have n5 : nG g ≤ 5 := hg.kl
  have vl := hI.vl
  have hpiv := fun i c (hi : i < nG g) (hc : c < 2 * nG g + 1) => hI.piv hg hi hc
  have hbl := hI.bl
  have hbr := hI.bas hr
  have eleft : s.bas.getD (lhRow (nG g) s) 0 = ((lhLeft (nG g) s : Nat) : Int) := hbr.1
  have ebas : (lhStep (nG g) s).bas = s.bas.set (lhRow (nG g) s) (s.v : Nat) := rfl
  have eden : (lhStep (nG g) s).den = mAt s.rows (lhRow (nG g) s) s.v := rfl
  generalize hrows' : (lhStep (nG g) s).rows = P at *
  generalize lhRow (nG g) s = r at *
  generalize hn : nG g = n at *
  have hrl : r < s.rows.length := by rw [hT.rl]; exact hr
  have hrw := hT.rw _ (List.getElem_mem hrl)
  have hpa := hT.ab r s.v hr (by omega)
  refine f28.enter ?_
  unfold f28.w
  refine Wi.nilP (Wi.fieldAddr (Wl.get (b := b) (o := 0) h rfl (Wl.atRow (j := 1) rfl h hrl fun ur hur hrow => Wl.atIntH hrow (i := s.v) (by omega) fun _ => ?_)))
  rw [hT.at]
  refine Wi.nilP (Wi.fieldAddr (Wl.get (b := b) (o := 0) h rfl (Wl.len (v := u) (xs := s.rows) h ?_)))
  rw [hT.rl]
  refine W.for_rule n (fun i st H => ∃ rs, st = (.int .i64 (i : Nat), ()) ∧ rs.length = n ∧ (∀ q ∈ rs, q.length = 2 * n + 1) ∧ (∀ j x, j < n → x < 2 * n + 1 → mAt rs j x = if j < i then mAt P j x else mAt s.rows j x) ∧ Ab.Loc H0 (.box b [u, .int .i64 s.den, w, .int .i64 (n : Nat)] :: .rows RS u us rs :: .data RS [w] s.bas :: L) H) ⟨s.rows, rfl, hT.rl, hT.rw, fun j x _ _ => by rw [if_neg (by omega)], h⟩ ?_
  rintro i st H J hi ⟨rs, rfl, hrs, hrsw, hrse, h⟩ hJ
  refine Wi.lssC (fun hlt => Wi.tru ?_) fun hge => Wi.fls ?_
  · have hin : i < n := by omega
    have hil : i < rs.length := by omega
    have hiw := hrsw _ (List.getElem_mem hil)
    have at1 : ∀ {a c : Nat} (ha : a < rs.length) (hc : c < rs[a].length), rs[a][c] = mAt rs a c := fun {a c} ha hc => by
      unfold mAt
      rw [show rs.getD a [] = rs[a] by simp [List.getD_eq_getElem?_getD, List.getElem?_eq_getElem ha], atD hc]
    refine Wl.atRow (j := 1) rfl h hil fun ui hui hrowi => Wl.atIntH hrowi (i := s.v) (by omega) fun _ => ?_
    rw [at1, hrse i s.v hin (by omega), if_neg (by omega)]
    have skip : (∀ x, x < 2 * n + 1 → mAt P i x = mAt s.rows i x) → f28.j1 Q (.int .i64 (i : Nat)) J H := fun he => by
      unfold f28.j1
      refine Wi.add (by unfold I64; omega) (hJ _ _ hin ⟨rs, rfl, hrs, hrsw, fun j x hj hx => ?_, h⟩)
      rw [hrse j x hj hx]
      by_cases c : j < i
      · rw [if_pos c, if_pos (by omega)]
      · rw [if_neg c]
        by_cases c2 : j = i
        · subst c2; rw [if_pos (by omega), he x hx]
        · rw [if_neg (by omega)]
    refine Wi.eqlC (fun e => Wi.tru (skip fun x hx => ?_)) fun hne => Wi.fls ?_
    · have e : i = r := by omega
      subst e
      rw [hpiv i x hin hx, if_pos rfl]
    · have hir : i ≠ r := by omega
      refine Wl.lenH hrowi ?_
      rw [hiw]
      refine W.for_rule (2 * n + 1) (fun c st H => ∃ rs, st = (.int .i64 (c : Nat), ()) ∧ rs.length = n ∧ (∀ q ∈ rs, q.length = 2 * n + 1) ∧ (∀ j x, j < n → x < 2 * n + 1 → mAt rs j x = if j < i ∨ j = i ∧ x < c then mAt P j x else mAt s.rows j x) ∧ Ab.Loc H0 (.box b [u, .int .i64 s.den, w, .int .i64 (n : Nat)] :: .rows RS u us rs :: .data RS [w] s.bas :: L) H) ⟨rs, rfl, hrs, hrsw, fun j x hj hx => ?_, h⟩ ?_
      · rw [hrse j x hj hx]
        by_cases c : j < i
        · rw [if_pos c, if_pos (.inl c)]
        · rw [if_neg c, if_neg (by omega)]
      rintro c st H J2 hc ⟨rs, rfl, hrs, hrsw, hrse, h⟩ hJ2
      have hil : i < rs.length := by omega
      have hiw := hrsw _ (List.getElem_mem hil)
      have hrl2 : r < rs.length := by omega
      have hrw2 := hrsw _ (List.getElem_mem hrl2)
      have at1 : ∀ {a c : Nat} (ha : a < rs.length) (hc : c < rs[a].length), rs[a][c] = mAt rs a c := fun {a c} ha hc => by
        unfold mAt
        rw [show rs.getD a [] = rs[a] by simp [List.getD_eq_getElem?_getD, List.getElem?_eq_getElem ha], atD hc]
      refine Wi.lssC (fun hlt2 => Wi.tru ?_) fun hge2 => Wi.fls ?_
      · have hcn : c < 2 * n + 1 := by omega
        have hri := h.row (j := 1) rfl rfl hui hil
        have hrr := h.row (j := 1) rfl rfl hur hrl2
        have e1 : mAt rs i c = mAt s.rows i c := by rw [hrse i c hin hcn, if_neg (by omega)]
        have e2 : mAt rs r c = mAt s.rows r c := by
          rw [hrse r c hr hcn]
          split
          · rw [hpiv r c hr hcn, if_pos rfl]
          · rfl
        have b1 := hT.ab i c hin hcn
        have b2 := hT.ab r c hr hcn
        have b3 := hT.ab i s.v hin (by omega)
        have m1 := mulA b1 hpa
        have m2 := mulA b3 b2
        have b4 := hTN.ab i c hin hcn
        have ep := hpiv i c hin hcn
        rw [if_neg hir] at ep
        refine Wl.atIntH hri (i := c) (by omega) fun _ => ?_
        rw [at1, e1]
        refine Wi.mul (by unfold I64; omega) (Wl.atIntH hrr (i := c) (by omega) fun _ => ?_)
        rw [at1, e2]
        refine Wi.mul (by unfold I64; omega) (Wi.sub (by unfold I64; omega) (Wi.nilP (Wi.fieldAddr (Wl.get (b := b) (o := 1) h rfl (Wi.quo (by omega) (by rw [← ep]; unfold I64; omega) ?_)))))
        rw [← ep]
        refine Wl.rowSet h (j := 1) rfl hui hil (i := c) (by omega) (by unfold I64; omega) fun H h => Wi.add (by unfold I64; omega) (hJ2 _ _ hcn ⟨rs.set i (rs[i].set c (mAt P i c)), rfl, by rw [List.length_set]; exact hrs, fun q hq => ?_, fun j x hj hx => ?_, h⟩)
        · rcases List.mem_or_eq_of_mem_set hq with g | g
          · exact hrsw q g
          · rw [g, List.length_set]; exact hiw
        · rw [mAt_set2 hil (by omega), hrse j x hj hx]
          by_cases c1 : j = i ∧ x = c
          · rw [if_pos c1, if_pos (by omega), c1.1, c1.2]
          · rw [if_neg c1]
            by_cases c2 : j < i ∨ j = i ∧ x < c
            · rw [if_pos c2, if_pos (by omega)]
            · rw [if_neg c2, if_neg (by omega)]
      · unfold f28.j1
        refine Wi.add (by unfold I64; omega) (hJ _ _ hin ⟨rs, rfl, hrs, hrsw, fun j x hj hx => ?_, h⟩)
        rw [hrse j x hj hx]
        by_cases c2 : j < i ∨ j = i ∧ x < c
        · rw [if_pos c2, if_pos (by omega)]
        · rw [if_neg c2, if_neg (by omega)]
  · have hin : i = n := by omega
    subst hin
    have eP : rs = P := mat_same hrs hTN.rl hrsw hTN.rw fun j x hj hx => by rw [hrse j x hj hx, if_pos hj]
    subst eP
    refine Wi.call (fn44 (by unfold B64; omega) ?_)
    have ea : (((mAt s.rows r s.v).natAbs : Nat) : Int) = mAt s.rows r s.v := by omega
    rw [ea]
    refine Wi.nilP (Wi.fieldAddr (Wl.put (b := b) (o := 1) (i := 0) h rfl (by simp) fun H h => Wi.lssC (fun q => absurd q (by omega)) fun _ => Wi.fls ?_))
    have h : Ab.Loc H0 (.box b [u, .int .i64 (mAt s.rows r s.v), w, .int .i64 (i : Nat)] :: .rows RS u us rs :: .data RS [w] s.bas :: L) H := h
    unfold f28.j2
    have hrb : r < s.bas.length := by omega
    have eb : s.bas[r] = ((lhLeft i s : Nat) : Int) := by rw [← eleft, atD hrb]
    refine Wi.nilP (Wi.fieldAddr (Wl.get (b := b) (o := 2) h rfl (Wl.atIntH (h.rd (cs := [w]) (x := s.bas)) hrb fun _ => Wi.nilP (Wi.fieldAddr (Wl.get (b := b) (o := 2) h rfl (Wl.setInt (v := w) (j := 2) h (i := r) hrb (by unfold I64; omega) fun H h => ?_))))))
    rw [eb]
    refine hQ _ ?_
    rw [eden, ebas]
    exact h

/-! ### Values -/

def vTo (s : LhS) (n : Nat) : Nat → List Int
  | 0 => List.replicate (2 * n) 0
  | i + 1 => (vTo s n i).set (basF s i) (mAt s.rows i (2 * n))

theorem vTo_len (s : LhS) (n : Nat) : ∀ i, (vTo s n i).length = 2 * n
  | 0 => by simp [vTo]
  | i + 1 => by rw [vTo, List.length_set, vTo_len s n i]

theorem vTo_drop (s : LhS) (n : Nat) : ∀ i, (vTo s n i).drop n = zTo n s i
  | 0 => by
    show (List.replicate (2 * n) (0 : Int)).drop n = List.replicate n 0
    rw [List.drop_replicate]
    congr 1
    omega
  | i + 1 => by
    unfold vTo zTo
    rw [← vTo_drop s n i, List.drop_set]
    by_cases c : basF s i < n
    · rw [if_pos c, if_neg (by omega)]
    · rw [if_neg c, if_pos (by omega)]

theorem fn31 {H0 : Heap} {Q : Post} {b : Nat} {u w : Value} {g : Game} (hg : IsGm g) {s : LhS} (hI : LhI g s) (k : TK H0 b u s.den w (nG g)) (hR : Has RSS H0 [u] s.rows) (hB : Has RS H0 [w] s.bas) (hQ : ∀ H' v, FreshG Rd.int 2 H0 v (vTo s (nG g) (nG g)) H' → Q v H') :
    Runs Try.prog 31 #[pt b 0] H0 Q := by
  have hT := hI.rowsT hg
  have n5 := hT.n5
  have hbl := hI.bl
  have hbas := fun k (hk : k < nG g) => hI.bas hk
  generalize hn : nG g = n at *
  refine f31.enter ?_
  unfold f31.w
  refine k.g3 (Wi.mul (by unfold I64; omega) ?_)
  rw [show (2 : Int) * (n : Nat) = ((2 * n : Nat) : Int) by omega]
  refine Wl.make (r := Rd.int) (z := 0) (m := 2 * n) (fun _ => ⟨rfl, rfl, by unfold I64; omega⟩) (Loc.start H0) (by omega) (by decide) fun H v h => ?_
  have l0 := h.le
  refine (k.le h.le).g2 (Wl.lenH (hB.le h.le) ?_)
  rw [hbl]
  refine W.for_rule n (fun i st H => st = (.int .i64 (i : Nat), ()) ∧ Ab.Loc H0 [.grow Rd.int 2 v (vTo s n i)] H) ⟨rfl, h⟩ ?_
  rintro i st H J hi ⟨rfl, h⟩ hJ
  refine Wi.lssC (fun hlt => Wi.tru ?_) fun hge => Wi.fls ?_
  · have hin : i < n := by omega
    have hib : i < s.bas.length := by omega
    obtain ⟨e1, e2⟩ := hbas i hin
    have eb : s.bas[i] = ((basF s i : Nat) : Int) := by rw [← e1, atD hib]
    have hab := hT.ab i (2 * n) hin (by omega)
    refine Wl.atIntH (hB.le h.le) hib fun _ => (k.le h.le).g3 (Wi.mul (by unfold I64; omega) ?_)
    rw [eb]
    refine Wi.lssC (fun _ => Wi.tru ?_) fun q => absurd (by omega) q
    refine Wi.call (fn50 (k.le h.le) (hR.le h.le) hT hin ?_)
    refine Wl.setG (v := v) (j := 0) h (i := basF s i) (by rw [vTo_len]; exact e2) (by unfold I64; omega) fun H h => ?_
    unfold f31.j1
    exact Wi.add (by unfold I64; omega) (hJ _ _ hin ⟨rfl, h⟩)
  · have : i = n := by omega
    subst this
    exact hQ _ _ (h.retGG (i := 0) rfl)

end Go.Proofs.Ytbcfknboheghkaa
