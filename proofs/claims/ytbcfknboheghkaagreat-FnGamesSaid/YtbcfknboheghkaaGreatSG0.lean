/- The reference's mixes and best replies; the contract of its IsEquilibrium. No condition. -/
import Derived.Test.YtbcfknboheghkaaGreatGEQ
import Derived.Test.YtbcfknboheghkaaGreatGLH
namespace Go.Proofs.YtbcfknboheghkaaGreat
open Go.Ab

/- loop.example/g01343/spec.l07Mix -/
def f106.l2 (Q : Post) (n_1 : Value) (v29 : Value) (v30 : Value) (most_2 : Value) (I2 : St [13, 14] → Heap → Prop) (sum_13 : Value) (i_14 : Value) (H : Heap) : Prop :=
  W.bin .lss i_14 n_1 H fun v33 H =>
  W.cond v33 H
  (fun H => W.indexAddr 1 v29 i_14 H fun v34 H =>
   W.get v34 H fun v35 H =>
   W.bin .add sum_13 v35 H fun v36 H =>
   W.bin .add i_14 (.int .i64 1) H fun v37 H =>
   I2 (v36, v37, ()) H)
  (fun H => W.bin .neq sum_13 v30 H fun v38 H =>
   W.cond v38 H
   (fun H => Q (.tuple #[(.slice none 0 0), (.int .i64 0), (.int .i64 2)]) H)
   (fun H => W.bin .gtr v30 most_2 H fun v39 H =>
    W.cond v39 H
    (fun H => Q (.tuple #[(.slice none 0 0), (.int .i64 0), (.int .i64 3)]) H)
    (fun H => Q (.tuple #[v29, v30, (.int .i64 0)]) H)))
def f106.l1 (Q : Post) (n_1 : Value) (mix_0 : Value) (most_2 : Value) (I1 : St [9] → Heap → Prop) (i_9 : Value) (H : Heap) : Prop :=
  W.bin .lss i_9 n_1 H fun v3 H =>
  W.cond v3 H
  (fun H => W.indexAddr 2 mix_0 i_9 H fun v4 H =>
   W.getN 2 v4 H fun v5 H =>
   W.callQ Tryz.prog (.func (.func 138) #[] #[]) #[v5] H fun v6 H =>
   W.un .not v6 H fun v7 H =>
   W.guarded v7 false (fun H k => k mix_0 H) H fun v8 H =>
   W.guarded v7 false (fun H k => k i_9 H) H fun v9 H =>
   W.guarded v7 false (fun H k => W.indexAddr 2 v8 v9 H k) H fun v10 H =>
   W.guarded v7 false (fun H k => W.fieldAddr 0 v10 H k) H fun v11 H =>
   W.guarded v7 false (fun H k => W.get v11 H k) H fun v12 H =>
   W.guarded v7 false (fun H k => W.bin .lss v12 (.int .i64 0) H k) H fun v13 H =>
   W.pick v7 (.bool true) v13 H fun v14 H =>
   W.guarded v14 false (fun H k => k mix_0 H) H fun v15 H =>
   W.guarded v14 false (fun H k => k i_9 H) H fun v16 H =>
   W.guarded v14 false (fun H k => W.indexAddr 2 v15 v16 H k) H fun v17 H =>
   W.guarded v14 false (fun H k => W.fieldAddr 0 v17 H k) H fun v18 H =>
   W.guarded v14 false (fun H k => W.get v18 H k) H fun v19 H =>
   W.guarded v14 false (fun H k => k mix_0 H) H fun v20 H =>
   W.guarded v14 false (fun H k => k i_9 H) H fun v21 H =>
   W.guarded v14 false (fun H k => W.indexAddr 2 v20 v21 H k) H fun v22 H =>
   W.guarded v14 false (fun H k => W.fieldAddr 1 v22 H k) H fun v23 H =>
   W.guarded v14 false (fun H k => W.get v23 H k) H fun v24 H =>
   W.guarded v14 false (fun H k => W.bin .gtr v19 v24 H k) H fun v25 H =>
   W.pick v14 (.bool true) v25 H fun v26 H =>
   W.cond v26 H
   (fun H => Q (.tuple #[(.slice none 0 0), (.int .i64 0), (.int .i64 2)]) H)
   (fun H => W.bin .add i_9 (.int .i64 1) H fun v27 H =>
    I1 (v27, ()) H))
  (fun H => W.call Tryz.prog (.func (.func 139) #[] #[]) #[mix_0] H fun v28 H =>
   W.extract 0 v28 H fun v29 H =>
   W.extract 1 v28 H fun v30 H =>
   W.extract 2 v28 H fun v31 H =>
   W.un .not v31 H fun v32 H =>
   W.cond v32 H
   (fun H => Q (.tuple #[(.slice none 0 0), (.int .i64 0), (.int .i64 2)]) H)
   (fun H => W.loop (S := St [13, 14]) (fun I2 s H => f106.l2 Q n_1 v29 v30 most_2 I2 s.1 s.2.1 H) ((.int .i64 0), (.int .i64 0), ()) H))
def f106.w (Q : Post) (mix_0 : Value) (n_1 : Value) (most_2 : Value) (H : Heap) : Prop :=
  W.len mix_0 H fun v1 H =>
  W.bin .neq v1 n_1 H fun v2 H =>
  W.cond v2 H
  (fun H => Q (.tuple #[(.slice none 0 0), (.int .i64 0), (.int .i64 2)]) H)
  (fun H => W.loop (S := St [9]) (fun I1 s H => f106.l1 Q n_1 mix_0 most_2 I1 s.1 H) ((.int .i64 0), ()) H)
theorem f106.enter {Q : Post} {mix_0 : Value} {n_1 : Value} {most_2 : Value} {H : Heap} (h : f106.w Q mix_0 n_1 most_2 H) : Runs Tryz.prog 106 #[mix_0, n_1, most_2] H Q :=
  fn_enter (ann := [(4, [9]), (13, [13, 14])]) (by kernel_rfl) Tryz.func106 rfl (by kernel_rfl) h (by kernel_rfl)

/- loop.example/g01343/spec.l07Replies -/
def f98.l2 (Q : Post) (mix_2 : Value) (v1 : Value) (i_8 : Value) (gains_7 : Value) (I1 : St [7, 8] → Heap → Prop) (I2 : St [9, 10] → Heap → Prop) (sum_9 : Value) (j_10 : Value) (H : Heap) : Prop :=
  W.len mix_2 H fun v8 H =>
  W.bin .lss j_10 v8 H fun v9 H =>
  W.cond v9 H
  (fun H => W.fieldAddr 0 v1 H fun v10 H =>
   W.get v10 H fun v11 H =>
   W.indexAddr 1 v11 i_8 H fun v12 H =>
   W.get v12 H fun v13 H =>
   W.indexAddr 1 v13 j_10 H fun v14 H =>
   W.get v14 H fun v15 H =>
   W.indexAddr 1 mix_2 j_10 H fun v16 H =>
   W.get v16 H fun v17 H =>
   W.bin .mul v15 v17 H fun v18 H =>
   W.bin .add sum_9 v18 H fun v19 H =>
   W.bin .add j_10 (.int .i64 1) H fun v20 H =>
   I2 (v19, v20, ()) H)
  (fun H => W.lit 1 [(.int .i64 0)] 2 [(0, 1, sum_9)] H fun v21 H =>
   W.append 1 2 gains_7 v21 H fun v22 H =>
   W.bin .add i_8 (.int .i64 1) H fun v23 H =>
   I1 (v22, v23, ()) H)
def f98.j2 (Q : Post) (i_17 : Value) (I4 : St [15, 17] → Heap → Prop) (out_15' : Value) (H : Heap) : Prop :=
  W.bin .add i_17 (.int .i64 1) H fun v38 H =>
  I4 (out_15', v38, ()) H
def f98.l4 (Q : Post) (gains_7' : Value) (best_14 : Value) (I4 : St [15, 17] → Heap → Prop) (out_15 : Value) (i_17 : Value) (H : Heap) : Prop :=
  W.len gains_7' H fun v31 H =>
  W.bin .lss i_17 v31 H fun v32 H =>
  W.cond v32 H
  (fun H => W.indexAddr 1 gains_7' i_17 H fun v33 H =>
   W.get v33 H fun v34 H =>
   W.bin .eql v34 best_14 H fun v35 H =>
   W.cond v35 H
   (fun H => W.lit 1 [(.int .i64 0)] 2 [(0, 1, i_17)] H fun v36 H =>
    W.append 1 2 out_15 v36 H fun v37 H =>
    f98.j2 Q i_17 I4 v37 H)
   (fun H => f98.j2 Q i_17 I4 out_15 H))
  (fun H => Q out_15 H)
def f98.l3 (Q : Post) (gains_7' : Value) (v24 : Value) (I3 : St [14, 16] → Heap → Prop) (best_14 : Value) (i_16 : Value) (H : Heap) : Prop :=
  W.len gains_7' H fun v25 H =>
  W.bin .lss i_16 v25 H fun v26 H =>
  W.cond v26 H
  (fun H => W.indexAddr 1 gains_7' i_16 H fun v27 H =>
   W.get v27 H fun v28 H =>
   W.max2 best_14 v28 H fun v29 H =>
   W.bin .add i_16 (.int .i64 1) H fun v30 H =>
   I3 (v29, v30, ()) H)
  (fun H => W.loop (S := St [15, 17]) (fun I4 s H => f98.l4 Q gains_7' best_14 I4 s.1 s.2.1 H) (v24, (.int .i64 0), ()) H)
def f98.j1 (Q : Post) (gains_7' : Value) (H : Heap) : Prop :=
  W.lit 0 [(.int .i64 0)] 2 [] H fun v24 H =>
  W.loop (S := St [14, 16]) (fun I3 s H => f98.l3 Q gains_7' v24 I3 s.1 s.2.1 H) ((.int .i64 0), (.int .i64 0), ()) H
def f98.l1 (Q : Post) (v1 : Value) (mix_2 : Value) (I1 : St [7, 8] → Heap → Prop) (gains_7 : Value) (i_8 : Value) (H : Heap) : Prop :=
  W.fieldAddr 0 v1 H fun v4 H =>
  W.get v4 H fun v5 H =>
  W.len v5 H fun v6 H =>
  W.bin .lss i_8 v6 H fun v7 H =>
  W.cond v7 H
  (fun H => W.loop (S := St [9, 10]) (fun I2 s H => f98.l2 Q mix_2 v1 i_8 gains_7 I1 I2 s.1 s.2.1 H) ((.int .i64 0), (.int .i64 0), ()) H)
  (fun H => f98.j1 Q gains_7 H)
def f98.l6 (Q : Post) (mix_2 : Value) (v1 : Value) (j_11 : Value) (gains_7'' : Value) (I5 : St [7, 11] → Heap → Prop) (I6 : St [12, 13] → Heap → Prop) (sum_12 : Value) (i_13 : Value) (H : Heap) : Prop :=
  W.len mix_2 H fun v45 H =>
  W.bin .lss i_13 v45 H fun v46 H =>
  W.cond v46 H
  (fun H => W.fieldAddr 1 v1 H fun v47 H =>
   W.get v47 H fun v48 H =>
   W.indexAddr 1 v48 i_13 H fun v49 H =>
   W.get v49 H fun v50 H =>
   W.indexAddr 1 v50 j_11 H fun v51 H =>
   W.get v51 H fun v52 H =>
   W.indexAddr 1 mix_2 i_13 H fun v53 H =>
   W.get v53 H fun v54 H =>
   W.bin .mul v52 v54 H fun v55 H =>
   W.bin .add sum_12 v55 H fun v56 H =>
   W.bin .add i_13 (.int .i64 1) H fun v57 H =>
   I6 (v56, v57, ()) H)
  (fun H => W.lit 1 [(.int .i64 0)] 2 [(0, 1, sum_12)] H fun v58 H =>
   W.append 1 2 gains_7'' v58 H fun v59 H =>
   W.bin .add j_11 (.int .i64 1) H fun v60 H =>
   I5 (v59, v60, ()) H)
def f98.l5 (Q : Post) (v1 : Value) (mix_2 : Value) (I5 : St [7, 11] → Heap → Prop) (gains_7'' : Value) (j_11 : Value) (H : Heap) : Prop :=
  W.fieldAddr 0 v1 H fun v39 H =>
  W.get v39 H fun v40 H =>
  W.indexAddr 1 v40 (.int .i64 0) H fun v41 H =>
  W.get v41 H fun v42 H =>
  W.len v42 H fun v43 H =>
  W.bin .lss j_11 v43 H fun v44 H =>
  W.cond v44 H
  (fun H => W.loop (S := St [12, 13]) (fun I6 s H => f98.l6 Q mix_2 v1 j_11 gains_7'' I5 I6 s.1 s.2.1 H) ((.int .i64 0), (.int .i64 0), ()) H)
  (fun H => f98.j1 Q gains_7'' H)
def f98.w (Q : Post) (g_0 : Value) (player_1 : Value) (mix_2 : Value) (H : Heap) : Prop :=
  W.box g_0 26 H fun v1 H =>
  W.lit 0 [(.int .i64 0)] 2 [] H fun v2 H =>
  W.bin .eql player_1 (.int .i64 0) H fun v3 H =>
  W.cond v3 H
  (fun H => W.loop (S := St [7, 8]) (fun I1 s H => f98.l1 Q v1 mix_2 I1 s.1 s.2.1 H) (v2, (.int .i64 0), ()) H)
  (fun H => W.loop (S := St [7, 11]) (fun I5 s H => f98.l5 Q v1 mix_2 I5 s.1 s.2.1 H) (v2, (.int .i64 0), ()) H)
theorem f98.enter {Q : Post} {g_0 : Value} {player_1 : Value} {mix_2 : Value} {H : Heap} (h : f98.w Q g_0 player_1 mix_2 H) : Runs Tryz.prog 98 #[g_0, player_1, mix_2] H Q :=
  fn_enter (ann := [(4, [7, 8]), (8, [9, 10]), (23, [14, 16]), (27, [15, 17]), (13, [7, 11]), (17, [12, 13])]) (by kernel_rfl) Tryz.func98 rfl (by kernel_rfl) h (by kernel_rfl)

/- loop.example/g01343/spec.l07Both -/
def f96.w (Q : Post) (g_0 : Value) (x_1 : Value) (y_2 : Value) (most_3 : Value) (H : Heap) : Prop :=
  W.box g_0 26 H fun v1 H =>
  W.getN 2 v1 H fun v2 H =>
  W.call Tryz.prog (.func (.func 57) #[] #[]) #[v2] H fun v3 H =>
  W.un .not v3 H fun v4 H =>
  W.cond v4 H
  (fun H => Q (.tuple #[(.slice none 0 0), (.slice none 0 0), (.int .i64 0), (.int .i64 0), (.int .i64 1)]) H)
  (fun H => W.fieldAddr 0 v1 H fun v5 H =>
   W.get v5 H fun v6 H =>
   W.len v6 H fun v7 H =>
   W.call Tryz.prog (.func (.func 106) #[] #[]) #[x_1, v7, most_3] H fun v8 H =>
   W.extract 0 v8 H fun v9 H =>
   W.extract 1 v8 H fun v10 H =>
   W.extract 2 v8 H fun v11 H =>
   W.fieldAddr 0 v1 H fun v12 H =>
   W.get v12 H fun v13 H =>
   W.indexAddr 1 v13 (.int .i64 0) H fun v14 H =>
   W.get v14 H fun v15 H =>
   W.len v15 H fun v16 H =>
   W.call Tryz.prog (.func (.func 106) #[] #[]) #[y_2, v16, most_3] H fun v17 H =>
   W.extract 0 v17 H fun v18 H =>
   W.extract 1 v17 H fun v19 H =>
   W.extract 2 v17 H fun v20 H =>
   W.bin .eql v11 (.int .i64 2) H fun v21 H =>
   W.guarded v21 false (fun H k => k v20 H) H fun v22 H =>
   W.guarded v21 false (fun H k => W.bin .eql v22 (.int .i64 2) H k) H fun v23 H =>
   W.pick v21 (.bool true) v23 H fun v24 H =>
   W.cond v24 H
   (fun H => Q (.tuple #[(.slice none 0 0), (.slice none 0 0), (.int .i64 0), (.int .i64 0), (.int .i64 2)]) H)
   (fun H => W.bin .neq v11 (.int .i64 0) H fun v25 H =>
    W.guarded v25 false (fun H k => k v20 H) H fun v26 H =>
    W.guarded v25 false (fun H k => W.bin .neq v26 (.int .i64 0) H k) H fun v27 H =>
    W.pick v25 (.bool true) v27 H fun v28 H =>
    W.cond v28 H
    (fun H => Q (.tuple #[(.slice none 0 0), (.slice none 0 0), (.int .i64 0), (.int .i64 0), (.int .i64 3)]) H)
    (fun H => Q (.tuple #[v9, v18, v10, v19, (.int .i64 0)]) H)))
theorem f96.enter {Q : Post} {g_0 : Value} {x_1 : Value} {y_2 : Value} {most_3 : Value} {H : Heap} (h : f96.w Q g_0 x_1 y_2 most_3 H) : Runs Tryz.prog 96 #[g_0, x_1, y_2, most_3] H Q :=
  fn_enter (ann := []) (by kernel_rfl) Tryz.func96 rfl (by kernel_rfl) h (by kernel_rfl)

/- loop.example/g01343/spec.l07Holds -/
def f97.l2 (Q : Post) (list_1 : Value) (i_5 : Value) (I1 : St [5] → Heap → Prop) (I2 : St [6, 7] → Heap → Prop) (found_6 : Value) (k_7 : Value) (H : Heap) : Prop :=
  W.len list_1 H fun v6 H =>
  W.bin .lss k_7 v6 H fun v7 H =>
  W.cond v7 H
  (fun H => W.guarded found_6 false (fun H k => k list_1 H) H fun v8 H =>
   W.guarded found_6 false (fun H k => k k_7 H) H fun v9 H =>
   W.guarded found_6 false (fun H k => W.indexAddr 1 v8 v9 H k) H fun v10 H =>
   W.guarded found_6 false (fun H k => W.get v10 H k) H fun v11 H =>
   W.guarded found_6 false (fun H k => k i_5 H) H fun v12 H =>
   W.guarded found_6 false (fun H k => W.bin .eql v11 v12 H k) H fun v13 H =>
   W.pick found_6 (.bool true) v13 H fun v14 H =>
   W.bin .add k_7 (.int .i64 1) H fun v15 H =>
   I2 (v14, v15, ()) H)
  (fun H => W.un .not found_6 H fun v16 H =>
   W.cond v16 H
   (fun H => Q (.bool false) H)
   (fun H => W.bin .add i_5 (.int .i64 1) H fun v17 H =>
    I1 (v17, ()) H))
def f97.l1 (Q : Post) (mix_0 : Value) (list_1 : Value) (I1 : St [5] → Heap → Prop) (i_5 : Value) (H : Heap) : Prop :=
  W.len mix_0 H fun v1 H =>
  W.bin .lss i_5 v1 H fun v2 H =>
  W.cond v2 H
  (fun H => W.indexAddr 1 mix_0 i_5 H fun v3 H =>
   W.get v3 H fun v4 H =>
   W.bin .eql v4 (.int .i64 0) H fun v5 H =>
   W.loop (S := St [6, 7]) (fun I2 s H => f97.l2 Q list_1 i_5 I1 I2 s.1 s.2.1 H) (v5, (.int .i64 0), ()) H)
  (fun H => Q (.bool true) H)
def f97.w (Q : Post) (mix_0 : Value) (list_1 : Value) (H : Heap) : Prop :=
  W.loop (S := St [5]) (fun I1 s H => f97.l1 Q mix_0 list_1 I1 s.1 H) ((.int .i64 0), ()) H
theorem f97.enter {Q : Post} {mix_0 : Value} {list_1 : Value} {H : Heap} (h : f97.w Q mix_0 list_1 H) : Runs Tryz.prog 97 #[mix_0, list_1] H Q :=
  fn_enter (ann := [(2, [5]), (6, [6, 7])]) (by kernel_rfl) Tryz.func97 rfl (by kernel_rfl) h (by kernel_rfl)

/- loop.example/g01343/spec.IsEquilibrium -/
def f34.w (Q : Post) (g_0 : Value) (x_1 : Value) (y_2 : Value) (H : Heap) : Prop :=
  W.box g_0 26 H fun v1 H =>
  W.getN 2 v1 H fun v2 H =>
  W.call Tryz.prog (.func (.func 96) #[] #[]) #[v2, x_1, y_2, (.int .i64 1000000000)] H fun v3 H =>
  W.extract 0 v3 H fun v4 H =>
  W.extract 1 v3 H fun v5 H =>
  W.extract 2 v3 H fun v6 H =>
  W.extract 3 v3 H fun v7 H =>
  W.extract 4 v3 H fun v8 H =>
  W.bin .neq v8 (.int .i64 0) H fun v9 H =>
  W.cond v9 H
  (fun H => Q (.tuple #[(.bool false), v8]) H)
  (fun H => W.getN 2 v1 H fun v10 H =>
   W.call Tryz.prog (.func (.func 98) #[] #[]) #[v10, (.int .i64 0), v5] H fun v11 H =>
   W.call Tryz.prog (.func (.func 97) #[] #[]) #[v4, v11] H fun v12 H =>
   W.guarded v12 true (fun H k => k v5 H) H fun v13 H =>
   W.guarded v12 true (fun H k => W.getN 2 v1 H k) H fun v14 H =>
   W.guarded v12 true (fun H k => k v4 H) H fun v15 H =>
   W.guarded v12 true (fun H k => W.call Tryz.prog (.func (.func 98) #[] #[]) #[v14, (.int .i64 1), v15] H k) H fun v16 H =>
   W.guarded v12 true (fun H k => W.call Tryz.prog (.func (.func 97) #[] #[]) #[v13, v16] H k) H fun v17 H =>
   W.pick v12 v17 (.bool false) H fun v18 H =>
   Q (.tuple #[v18, (.int .i64 0)]) H)
theorem f34.enter {Q : Post} {g_0 : Value} {x_1 : Value} {y_2 : Value} {H : Heap} (h : f34.w Q g_0 x_1 y_2 H) : Runs Tryz.prog 34 #[g_0, x_1, y_2] H Q :=
  fn_enter (ann := []) (by kernel_rfl) Tryz.func34 rfl (by kernel_rfl) h (by kernel_rfl)


theorem sum_nn : ∀ {l : List Int}, (∀ a ∈ l, 0 ≤ a) → 0 ≤ l.sum
  | [], _ => by simp
  | a :: l, h => by
    rw [List.sum_cons]
    have := sum_nn (l := l) fun b hb => h b (List.mem_cons_of_mem _ hb)
    have := h a List.mem_cons_self
    omega

theorem mem_le_sum : ∀ {l : List Int}, (∀ a ∈ l, 0 ≤ a) → ∀ x ∈ l, x ≤ l.sum
  | [], _, _, hx => by cases hx
  | a :: l, h, x, hx => by
    rw [List.sum_cons]
    have h1 := h a List.mem_cons_self
    have h2 : ∀ b ∈ l, 0 ≤ b := fun b hb => h b (List.mem_cons_of_mem _ hb)
    rcases List.mem_cons.1 hx with e | hx
    · have := sum_nn h2
      omega
    · have := mem_le_sum h2 x hx
      omega

theorem mixN_each {xs : List Frac} {n : Nat} {l : List Int} {d : Int} (h : mixN xs n = some (l, d)) {i : Nat} (hi : i < xs.length) : isFr 1000000000 xs[i] = true ∧ 0 ≤ xs[i].1 ∧ xs[i].1 ≤ xs[i].2 := by
  obtain ⟨h1, h2, h3, h4, h5⟩ := mixN_facts h
  obtain ⟨g1, g2, g3⟩ := tog_get h2 h3
  have hf := h2 _ (List.getElem_mem hi)
  obtain ⟨p1, p2, p3⟩ := isFr_iff.1 hf
  have e := g3 i hi
  rw [fr_at hi] at e
  have hli : i < l.length := by omega
  rw [getD_at hli] at e
  have l0 : 0 ≤ l[i] := h4 _ (List.getElem_mem hli)
  have ld : l[i] ≤ d := by rw [← h5]; exact mem_le_sum h4 _ (List.getElem_mem hli)
  refine ⟨hf, ?_, ?_⟩
  · have h0 : 0 ≤ l[i] * xs[i].2 := Int.mul_nonneg l0 (by omega)
    rw [e] at h0
    refine Int.not_lt.1 fun q => ?_
    have := Int.mul_neg_of_neg_of_pos q (show 0 < d by omega)
    omega
  · have h0 : l[i] * xs[i].2 ≤ d * xs[i].2 := Int.mul_le_mul_of_nonneg_right ld (by omega)
    rw [e, Int.mul_comm d] at h0
    exact Int.le_of_mul_le_mul_right h0 (by omega)

theorem tog_nn {m n : Int} {xs : List Frac} (hf : Frs xs) {l : List Int} {d : Int} (h : tog m n xs = some (l, d)) (hp : ∀ i (hi : i < xs.length), 0 ≤ xs[i].1) : ∀ a ∈ l, 0 ≤ a := by
  obtain ⟨g1, g2, g3⟩ := tog_get hf h
  intro a ha
  obtain ⟨i, hi, rfl⟩ := List.mem_iff_getElem.1 ha
  have hix : i < xs.length := by omega
  have e := g3 i hix
  rw [fr_at hix, getD_at hi] at e
  obtain ⟨p1, p2, p3⟩ := isFr_iff.1 (hf _ (List.getElem_mem hix))
  have h0 : 0 ≤ xs[i].1 * d := Int.mul_nonneg (hp i hix) (by omega)
  rw [← e] at h0
  refine Int.not_lt.1 fun q => ?_
  have := Int.mul_neg_of_neg_of_pos q (show 0 < xs[i].2 by omega)
  omega

theorem takes_abs {l : List Int} {B : Nat} (h : ∀ x ∈ l, x.natAbs ≤ B) : ∀ i, i ≤ l.length → (l.take i).sum.natAbs ≤ i * B
  | 0, _ => by simp
  | i + 1, hi => by
    have hl : i < l.length := by omega
    rw [List.take_succ_eq_append_getElem hl, List.sum_append]
    have h1 := takes_abs h i (by omega)
    have h2 := h _ (List.getElem_mem hl)
    simp only [List.sum_cons, List.sum_nil]
    rw [Nat.succ_mul]
    omega

theorem fn106 {H0 : Heap} {Q : Post} {v : Value} {xs : List Frac} {n : Nat} {most : Int} (hr : Has RFS H0 [v] xs) (hl : xs.length ≤ 1000)
    (h1 : mixN xs n = none → ∀ H', H0.Le H' → Q (.tuple #[.slice none 0 0, .int .i64 0, .int .i64 2]) H')
    (h3 : ∀ l d, mixN xs n = some (l, d) → most < d → ∀ H', H0.Le H' → Q (.tuple #[.slice none 0 0, .int .i64 0, .int .i64 3]) H')
    (h2 : ∀ l d, mixN xs n = some (l, d) → d ≤ most → ∀ H' u, FreshG Rd.int 2 H0 u l H' → Q (.tuple #[u, .int .i64 d, .int .i64 0]) H') : Runs Tryz.prog 106 #[v, .int .i64 (n : Nat), .int .i64 most] H0 Q := by
  classical
  refine f106.enter ?_
  unfold f106.w
  refine Wl.lenH hr (Wi.neqC (fun hne => Wi.tru (h1 ?_ _ (.refl _))) fun he => Wi.fls ?_)
  · unfold mixN
    rw [if_neg fun q => hne (by rw [q.1])]
  have he : xs.length = n := by omega
  subst he
  have no : ∀ i (hi : i < xs.length), ¬ (isFr 1000000000 xs[i] = true ∧ 0 ≤ xs[i].1 ∧ xs[i].1 ≤ xs[i].2) → mixN xs xs.length = none := fun i hi q => by
    cases hm : mixN xs xs.length with
    | none => rfl
    | some p => exact absurd (mixN_each (l := p.1) (d := p.2) hm hi) q
  refine W.all_rule xs.length (fun i => isFr 1000000000 (xs.getD i (0, 0)) && (decide (0 ≤ (xs.getD i (0, 0)).1) && decide ((xs.getD i (0, 0)).1 ≤ (xs.getD i (0, 0)).2))) (fun i H1 J hi _ l hJ => ?_) fun H1 J hall l => ?_
  · rw [fr_at hi] at hJ
    unfold f106.l1
    refine Wi.lssC (fun _ => Wi.tru ?_) fun h => by omega
    refine Wl.atFrH (hr.le l) hi fun _ _ => Wi.callQ (fn138 fun H3 l3 => ⟨l3, Wi.not ?_⟩)
    have hr3 := hr.le (l.trans l3)
    cases hf : isFr 1000000000 xs[i] with
    | false =>
      simp only [gw, Bool.not_false]
      exact h1 (no i hi fun q => by rw [q.1] at hf; cases hf) _ (l.trans l3)
    | true =>
      simp only [gw, Bool.not_true]
      refine Wl.numFrH hr3 hi fun _ => Wi.lssC (fun hneg => ?_) fun hpos => ?_
      · simp only [gw]
        exact h1 (no i hi fun q => by omega) _ (l.trans l3)
      simp only [gw]
      refine Wl.numFrH hr3 hi fun _ => Wl.denFrH hr3 hi fun _ => Wi.gtrC (fun hgt => ?_) fun hle => ?_
      · simp only [gw]
        exact h1 (no i hi fun q => by omega) _ (l.trans l3)
      simp only [gw]
      exact Wi.add (by unfold I64; omega) (hJ (by rw [hf, decide_eq_true (show 0 ≤ xs[i].1 by omega), decide_eq_true (show xs[i].1 ≤ xs[i].2 by omega)]; rfl) H3 l3)
  have good : ∀ i (hi : i < xs.length), isFr 1000000000 xs[i] = true ∧ 0 ≤ xs[i].1 := fun i hi => by
    have := hall i hi
    rw [fr_at hi, Bool.and_eq_true, Bool.and_eq_true] at this
    exact ⟨this.1, of_decide_eq_true this.2.1⟩
  have hf : Frs xs := fun a ha => by
    obtain ⟨i, hi, rfl⟩ := List.mem_iff_getElem.1 ha
    exact (good i hi).1
  unfold f106.l1
  refine Wi.lssC (fun h => by omega) fun _ => Wi.fls (Wi.call (fn139 (hr.le l) hf (by omega) (fun hn H2 l2 => ?_) fun li d hs H2 u f => ?_))
  · simp only [gw, Bool.not_false]
    refine h1 ?_ _ (l.trans l2)
    unfold mixN
    rw [if_pos ⟨rfl, hf⟩, hn]
  have hp := tog_nn hf hs fun i hi => (good i hi).2
  obtain ⟨g1, g2, g3, g4, _⟩ := tog_all hf (by decide) hs
  have hm : mixN xs xs.length = if (∀ a ∈ li, 0 ≤ a) ∧ li.sum = d then some (li, d) else none := by
    unfold mixN
    rw [if_pos ⟨rfl, hf⟩, hs]
  have h := ((Loc.start H0).to l).addG f
  have ha : ∀ x ∈ li, x.natAbs ≤ 1000000000000 := fun x hx => by have := g4 x hx; omega
  simp only [gw, Bool.not_true]
  refine W.for_rule xs.length (fun i st H => H = H2 ∧ st = (.int .i64 (li.take i).sum, .int .i64 (i : Nat), ())) ⟨rfl, rfl⟩ ?_
  rintro i st H J2 hi ⟨rfl, rfl⟩ hJ2
  unfold f106.l2
  refine Wi.lssC (fun hlt => Wi.tru ?_) fun hge => Wi.fls ?_
  · have hil : i < li.length := by omega
    have b1 := takes_abs ha (i + 1) (by omega)
    have b2 : (i + 1) * 1000000000000 ≤ 1000 * 1000000000000 := Nat.mul_le_mul_right _ (by omega)
    have e : (li.take (i + 1)).sum = (li.take i).sum + li[i] := by
      rw [List.take_succ_eq_append_getElem hil, List.sum_append]
      simp
    refine Wl.atIntH (h.rd (cs := [u]) (r := RS) (x := li)) hil fun _ => Wi.add (by rw [← e]; unfold I64; omega) (Wi.add (by unfold I64; omega) (hJ2 _ _ (by omega) ⟨rfl, ?_⟩))
    rw [e]
    rfl
  have hi : i = xs.length := by omega
  subst hi
  rw [← g1, List.take_length]
  refine Wi.neqC (fun hne => Wi.tru ?_) fun he => Wi.fls (Wi.gtrC (fun hgt => Wi.tru ?_) fun hle => Wi.fls ?_)
  · exact h1 (by rw [hm, if_neg fun q => hne q.2]) _ h.le
  · exact h3 li d (by rw [hm, if_pos ⟨hp, by omega⟩]) hgt _ h.le
  · exact h2 li d (by rw [hm, if_pos ⟨hp, by omega⟩]) (by omega) _ u (h.retGG (i := 0) rfl)

/-! ### Best replies -/

def isBest (gains : List Int) (i : Nat) : Bool := gains.all fun x => decide (x ≤ gains.getD i 0)
def bestTo (gains : List Int) (m : Nat) : List Int := ((List.range m).filter (isBest gains)).map fun i => ((i : Nat) : Int)
def bestL (gains : List Int) : List Int := bestTo gains gains.length

theorem bestTo_step (gains : List Int) (m : Nat) : bestTo gains (m + 1) = bestTo gains m ++ (if isBest gains m = true then [((m : Nat) : Int)] else []) := by
  unfold bestTo
  rw [List.range_succ, List.filter_append, List.map_append]
  congr 1
  by_cases h : isBest gains m = true
  · simp [h]
  · simp [h]

theorem bestTo_len (gains : List Int) (m : Nat) : (bestTo gains m).length ≤ m := by
  unfold bestTo
  rw [List.length_map]
  exact Nat.le_trans (List.length_filter_le _ _) (by simp)

theorem best_mem {gains : List Int} {i : Nat} : ((i : Nat) : Int) ∈ bestL gains ↔ i < gains.length ∧ isBest gains i = true := by
  unfold bestL bestTo
  rw [List.mem_map]
  constructor
  · rintro ⟨k, hk, e⟩
    obtain ⟨h1, h2⟩ := List.mem_filter.1 hk
    have : k = i := by omega
    subst this
    exact ⟨by simpa using h1, h2⟩
  · rintro ⟨h1, h2⟩
    exact ⟨i, List.mem_filter.2 ⟨by simpa using h1, h2⟩, rfl⟩

theorem isBest_iff {gains : List Int} {i : Nat} (hi : i < gains.length) {r : Int} (hr : r ∈ gains) (hle : ∀ e ∈ gains, e ≤ r) : isBest gains i = decide (gains[i] = r) := by
  rw [Bool.eq_iff_iff, decide_eq_true_iff]
  unfold isBest
  rw [List.all_eq_true, getD_at hi]
  constructor
  · intro h
    have h1 := of_decide_eq_true (h r hr)
    have h2 := hle _ (List.getElem_mem hi)
    omega
  · intro e x hx
    refine decide_eq_true ?_
    rw [e]
    exact hle x hx

/-- A reply that is best: what it comes to. -/
theorem holds_iff {own gains : List Int} (hl : own.length = gains.length) (hp : ∀ a ∈ own, 0 ≤ a) : (∀ i, i < own.length → own.getD i 0 ≠ 0 → ((i : Nat) : Int) ∈ bestL gains) ↔ repOk own gains := by
  constructor
  · intro h i hi h0 x hx
    obtain ⟨_, h2⟩ := best_mem.1 (h i hi (by omega))
    unfold isBest at h2
    rw [List.all_eq_true] at h2
    exact of_decide_eq_true (h2 x hx)
  · intro h i hi h0
    refine best_mem.2 ⟨by omega, ?_⟩
    unfold isBest
    rw [List.all_eq_true]
    have := hp _ (List.getElem_mem hi)
    rw [getD_at hi] at h0
    exact fun x hx => decide_eq_true (h i hi (by rw [getD_at hi]; omega) x hx)

theorem rep_end {H0 H : Heap} {L : List (Atom H0.next)} {Q : Post} {v : Value} {gains : List Int} (h : Ab.Loc H0 (.grow Rd.int 2 v gains :: L) H) (h0 : 0 < gains.length) (h5 : gains.length ≤ 1000) (hp : ∀ a ∈ gains, 0 ≤ a) (hQ : ∀ H' u, Ab.Loc H0 (.grow Rd.int 2 u (bestL gains) :: .grow Rd.int 2 v gains :: L) H' → Q u H') : f98.j1 Q v H := by
  unfold f98.j1
  refine Wl.lit0 Rd.int rfl h fun H u h => ?_
  refine W.for_rule gains.length (fun i st H' => H' = H ∧ ∃ r, st = (.int .i64 r, .int .i64 (i : Nat), ()) ∧ 0 ≤ r ∧ (r = 0 ∨ r ∈ gains) ∧ ∀ k (hk : k < gains.length), k < i → gains[k] ≤ r) ⟨rfl, 0, rfl, Int.le_refl _, .inl rfl, fun k _ hk => by omega⟩ ?_
  rintro i st H' J hi ⟨rfl, r, rfl, r0, hr, hle⟩ hJ
  unfold f98.l3
  refine Wl.lenH (h.rd (cs := [v]) (r := RS) (x := gains)) (Wi.lssC (fun hlt => Wi.tru ?_) fun hge => Wi.fls ?_)
  · have hig : i < gains.length := by omega
    refine Wl.atIntH (h.rd (cs := [v]) (r := RS) (x := gains)) hig fun _ => max2 (Wi.add (by unfold I64; omega) (hJ _ _ hig ⟨rfl, _, rfl, ?_, ?_, fun k hk hki => ?_⟩))
    · split <;> omega
    · split
      · exact .inr (List.getElem_mem hig)
      · exact hr
    · by_cases e : k = i
      · subst e
        split <;> omega
      · have := hle k hk (by omega)
        split <;> omega
  have hmax : ∀ e ∈ gains, e ≤ r := fun e he => by
    obtain ⟨k, hk, rfl⟩ := List.mem_iff_getElem.1 he
    exact hle k hk (by omega)
  have hrm : r ∈ gains := by
    rcases hr with e | e
    · have h1 := hmax _ (List.getElem_mem h0)
      have h2 := hp _ (List.getElem_mem h0)
      have : r = gains[0] := by omega
      rw [this]
      exact List.getElem_mem h0
    · exact e
  have h : Ab.Loc H0 (.grow Rd.int 2 u (bestTo gains 0) :: .grow Rd.int 2 v gains :: L) H' := h
  refine W.for_rule gains.length (fun i st H => ∃ u, st = (u, .int .i64 (i : Nat), ()) ∧ Ab.Loc H0 (.grow Rd.int 2 u (bestTo gains i) :: .grow Rd.int 2 v gains :: L) H) ⟨u, rfl, h⟩ ?_
  rintro j st H J2 hj ⟨u, rfl, h⟩ hJ2
  unfold f98.l4
  refine Wl.lenH (h.rd (cs := [v]) (r := RS) (x := gains)) (Wi.lssC (fun hlt => Wi.tru ?_) fun hge => Wi.fls ?_)
  · have hjg : j < gains.length := by omega
    have hbl := bestTo_len gains j
    have est := bestTo_step gains j
    rw [isBest_iff hjg hrm hmax] at est
    refine Wl.atIntH (h.rd (cs := [v]) (r := RS) (x := gains)) hjg fun _ => Wi.eqlC (fun he => Wi.tru ?_) fun hne => Wi.fls ?_
    · rw [decide_eq_true he, if_pos rfl] at est
      refine Wl.pushP (r := Rd.int) (x := ((j : Nat) : Int)) (i := 0) rfl rfl rfl (fun _ => ⟨rfl, rfl, by unfold I64; omega⟩) h (by omega) fun H u' h => ?_
      unfold f98.j2
      refine Wi.add (by unfold I64; omega) (hJ2 _ _ hjg ⟨u', rfl, ?_⟩)
      rw [est]
      exact h
    · rw [decide_eq_false hne, if_neg (by decide), List.append_nil] at est
      unfold f98.j2
      refine Wi.add (by unfold I64; omega) (hJ2 _ _ hjg ⟨u, rfl, ?_⟩)
      rw [est]
      exact h
  · have hjg : j = gains.length := by omega
    subst hjg
    exact hQ _ u h

theorem gain_nn {g : Game} (hg : IsGm g) {m : List Int} (hb : ∀ x ∈ m, 0 ≤ x) : (∀ a ∈ gainsA g m, 0 ≤ a) ∧ ∀ a ∈ gainsB g m, 0 ≤ a := by
  have hm : ∀ i, 0 ≤ m.getD i 0 := fun i => by
    by_cases hi : i < m.length
    · rw [getD_at hi]; exact hb _ (List.getElem_mem hi)
    · simp [List.getD_eq_getElem?_getD, List.getElem?_eq_none (show m.length ≤ i by omega)]
  have hsum : ∀ (f : Nat → Int) n, (∀ i, 0 ≤ f i) → 0 ≤ sumTo f n := fun f n hf => by
    induction n with
    | zero => simp [sumTo]
    | succ n ih => simp only [sumTo]; have := hf n; omega
  have hnn : ∀ (M : List (List Int)) (_ : ∀ r ∈ M, r.length = lw g ∧ ∀ x ∈ r, 1 ≤ x ∧ x ≤ 20) (r : List Int) (_ : r ∈ M) (i : Nat), 0 ≤ r.getD i 0 := fun M hM r hr i => by
    by_cases hi : i < r.length
    · rw [getD_at hi]; have := (hM r hr).2 _ (List.getElem_mem hi); omega
    · simp [List.getD_eq_getElem?_getD, List.getElem?_eq_none (show r.length ≤ i by omega)]
  constructor
  · intro a ha
    obtain ⟨r, hr, rfl⟩ := List.mem_map.1 ha
    exact hsum _ _ fun i => Int.mul_nonneg (hnn _ hg.a r hr i) (hm i)
  · intro a ha
    obtain ⟨j, _, rfl⟩ := List.mem_map.1 ha
    refine hsum _ _ fun i => Int.mul_nonneg ?_ (hm i)
    by_cases hi : i < g.2.length
    · unfold mAt
      rw [getD_row hi]
      exact hnn _ hg.b _ (List.getElem_mem hi) j
    · simp [mAt, List.getD_eq_getElem?_getD, List.getElem?_eq_none (show g.2.length ≤ i by omega)]

theorem fnA98 {H0 : Heap} {Q : Post} {cs : List Value} {vm : Value} {g : Game} {m : List Int} (hr : Has RGame H0 cs g) (hg : IsGm g) (hm : Has RS H0 [vm] m) (hl : m.length = lw g) (hb : ∀ x ∈ m, x.natAbs ≤ 1000000000000) (hp : ∀ x ∈ m, 0 ≤ x) (hQ : ∀ H' u, FreshG Rd.int 2 H0 u (bestL (gainsA g m)) H' → Q u H') :
    Runs Tryz.prog 98 #[.agg cs.toArray, .int .i64 0, vm] H0 Q := by
  obtain ⟨u1, u2, rfl, r1, r2⟩ := hasGame hr
  have k1 := hg.k1
  have k4 := hg.k4
  have l4 := hg.l4
  have h := (((Loc.start H0).lent hm).lent r1).lent hr
  refine f98.enter ?_
  unfold f98.w
  refine Wl.box (cs := [u1, u2]) h fun H b h => Wl.lit0 (ty := 2) Rd.int rfl h fun H v h => ?_
  refine Wi.eqlC (fun _ => Wi.tru ?_) fun q => absurd rfl q
  have gl : (gainsA g m).length = g.1.length := by simp [gainsA]
  refine W.for_rule g.1.length (fun i st H => ∃ v, st = (v, .int .i64 (i : Nat), ()) ∧ Ab.Loc H0 [.grow Rd.int 2 v ((gainsA g m).take i), .box b [u1, u2], .lent RGame [u1, u2] g, .lent RSS [u1] g.1, .lent RS [vm] m] H) ⟨v, rfl, h⟩ ?_
  rintro i st H J hi ⟨v, rfl, h⟩ hJ
  unfold f98.l1
  refine Wi.fieldAddr0 (Wl.get (b := b) h rfl (Wl.len (v := u1) (xs := g.1) h (Wi.lssC (fun hlt => Wi.tru ?_) fun hge => Wi.fls ?_)))
  · have hik : i < g.1.length := by omega
    have hia : i < (gainsA g m).length := by omega
    obtain ⟨e1, e2⟩ := hg.a _ (List.getElem_mem hik)
    have hA : ∀ x ∈ g.1[i], x.natAbs ≤ 20 := fun x hx => by have := e2 x hx; omega
    have egi : (gainsA g m)[i] = dot g.1[i] m := by simp [gainsA]
    have ball : ∀ j, j ≤ 4 → (sumTo (dotF g.1[i] m) j).natAbs ≤ 80000000000000 := fun j hj => by
      have h1 := sumTo_abs (f := dotF g.1[i] m) (n := j) (B := 20 * 1000000000000) fun k _ => mul_abs (getD_abs hA k) (getD_abs hb k)
      have h2 : j * (20 * 1000000000000) ≤ 4 * (20 * 1000000000000) := Nat.mul_le_mul_right _ hj
      omega
    refine W.for_rule m.length (fun j st H' => H' = H ∧ st = (.int .i64 (sumTo (dotF g.1[i] m) j), .int .i64 (j : Nat), ())) ⟨rfl, rfl⟩ ?_
    rintro j st H' J2 hj ⟨rfl, rfl⟩ hJ2
    unfold f98.l2
    refine Wl.lenH (h.rd (cs := [vm]) (r := RS) (x := m)) (Wi.lssC (fun hlt2 => Wi.tru ?_) fun hge2 => Wi.fls ?_)
    · have hjm : j < m.length := by omega
      have hjr : j < g.1[i].length := by omega
      have b1 := mul_abs (getD_abs hA j) (getD_abs hb j)
      rw [getD_at hjr, getD_at hjm] at b1
      have est : sumTo (dotF g.1[i] m) (j + 1) = sumTo (dotF g.1[i] m) j + g.1[i][j] * m[j] := by
        show _ + g.1[i].getD j 0 * m.getD j 0 = _
        rw [getD_at hjr, getD_at hjm]
      have b2 := ball (j + 1) (by omega)
      refine Wi.fieldAddr0 (Wl.get (b := b) h rfl (Wl.at1H rfl (h.rd (cs := [u1]) (r := RSS) (x := g.1)) hik fun w hw => Wl.atIntH hw hjr fun _ => Wl.atIntH (h.rd (cs := [vm]) (r := RS) (x := m)) hjm fun _ => Wi.mul (by unfold I64; omega) (Wi.add (by rw [← est]; unfold I64; omega) (Wi.add (by unfold I64; omega) (hJ2 _ _ hjm ⟨rfl, ?_⟩)))))
      rw [est]
      rfl
    · have hjm : j = m.length := by omega
      subst hjm
      have b2 := ball m.length (by omega)
      have e : sumTo (dotF g.1[i] m) m.length = (gainsA g m)[i] := by
        rw [egi]
        unfold dot
        rw [e1, hl]
      rw [e] at b2 ⊢
      refine Wl.pushP (r := Rd.int) (x := (gainsA g m)[i]) (i := 0) rfl rfl rfl (fun _ => ⟨rfl, rfl, by unfold I64; omega⟩) h (by simp; omega) fun H v' h => Wi.add (by unfold I64; omega) (hJ _ _ hik ⟨v', rfl, ?_⟩)
      rw [List.take_succ_eq_append_getElem hia]
      exact h
  · have hik : i = g.1.length := by omega
    subst hik
    rw [← gl, List.take_length] at h
    exact rep_end h (by omega) (by omega) (gain_nn hg hp).1 fun H u h => hQ _ u (h.retGG (i := 0) rfl)

theorem fnB98 {H0 : Heap} {Q : Post} {cs : List Value} {vm : Value} {g : Game} {m : List Int} (hr : Has RGame H0 cs g) (hg : IsGm g) (hm : Has RS H0 [vm] m) (hl : m.length = g.1.length) (hb : ∀ x ∈ m, x.natAbs ≤ 1000000000000) (hp : ∀ x ∈ m, 0 ≤ x) (hQ : ∀ H' u, FreshG Rd.int 2 H0 u (bestL (gainsB g m)) H' → Q u H') :
    Runs Tryz.prog 98 #[.agg cs.toArray, .int .i64 1, vm] H0 Q := by
  obtain ⟨u1, u2, rfl, r1, r2⟩ := hasGame hr
  have k1 := hg.k1
  have k4 := hg.k4
  have l1 := hg.l1
  have l4 := hg.l4
  have bl := hg.bl
  have h := ((((Loc.start H0).lent hm).lent r2).lent r1).lent hr
  refine f98.enter ?_
  unfold f98.w
  refine Wl.box (cs := [u1, u2]) h fun H b h => Wl.lit0 (ty := 2) Rd.int rfl h fun H v h => ?_
  refine Wi.eqlC (fun q => absurd q (by decide)) fun _ => Wi.fls ?_
  have gl : (gainsB g m).length = lw g := by simp [gainsB]
  refine W.for_rule (lw g) (fun i st H => ∃ v, st = (v, .int .i64 (i : Nat), ()) ∧ Ab.Loc H0 [.grow Rd.int 2 v ((gainsB g m).take i), .box b [u1, u2], .lent RGame [u1, u2] g, .lent RSS [u1] g.1, .lent RSS [u2] g.2, .lent RS [vm] m] H) ⟨v, rfl, h⟩ ?_
  rintro j st H J hj ⟨v, rfl, h⟩ hJ
  unfold f98.l5
  refine Wi.fieldAddr0 (Wl.get (b := b) h rfl (Wl.at1H rfl (h.rd (cs := [u1]) (r := RSS) (x := g.1)) (i := 0) (by omega) fun w hw => Wl.lenH hw ?_))
  rw [← lw_at (by omega)]
  refine Wi.lssC (fun hlt => Wi.tru ?_) fun hge => Wi.fls ?_
  · have hjl : j < lw g := by omega
    have hja : j < (gainsB g m).length := by omega
    have hB : ∀ i, (mAt g.2 i j * m.getD i 0).natAbs ≤ 20000000000000 := fun i => by
      have h1 : (mAt g.2 i j).natAbs ≤ 20 := by
        by_cases hi : i < g.2.length
        · unfold mAt
          rw [getD_row hi]
          exact getD_abs (fun x hx => by have := (hg.b _ (List.getElem_mem hi)).2 x hx; omega) j
        · simp [mAt, List.getD_eq_getElem?_getD, List.getElem?_eq_none (show g.2.length ≤ i by omega)]
      have := mul_abs h1 (getD_abs hb i)
      omega
    have egi : (gainsB g m)[j] = gainB g m j g.1.length := by simp [gainsB]
    have ball : ∀ i, i ≤ 4 → (gainB g m j i).natAbs ≤ 80000000000000 := fun i hi => by
      have h1 := sumTo_abs (f := fun i => mAt g.2 i j * m.getD i 0) (n := i) fun k _ => hB k
      unfold gainB
      have h2 : i * 20000000000000 ≤ 4 * 20000000000000 := Nat.mul_le_mul_right _ hi
      omega
    refine W.for_rule m.length (fun i st H' => H' = H ∧ st = (.int .i64 (gainB g m j i), .int .i64 (i : Nat), ())) ⟨rfl, rfl⟩ ?_
    rintro i st H' J2 hi ⟨rfl, rfl⟩ hJ2
    unfold f98.l6
    refine Wl.lenH (h.rd (cs := [vm]) (r := RS) (x := m)) (Wi.lssC (fun hlt2 => Wi.tru ?_) fun hge2 => Wi.fls ?_)
    · have him : i < m.length := by omega
      have hib : i < g.2.length := by omega
      have hjr : j < g.2[i].length := by rw [(hg.b _ (List.getElem_mem hib)).1]; exact hjl
      have em : mAt g.2 i j = g.2[i][j] := by unfold mAt; rw [getD_row hib, getD_at hjr]
      have b1 := hB i
      rw [em, getD_at him] at b1
      have est : gainB g m j (i + 1) = gainB g m j i + g.2[i][j] * m[i] := by
        unfold gainB
        simp only [sumTo]
        rw [em, getD_at him]
      have b2 := ball (i + 1) (by omega)
      refine Wi.fieldAddr (Wl.get (b := b) (o := 1) h rfl (Wl.at1H rfl (h.rd (cs := [u2]) (r := RSS) (x := g.2)) hib fun w hw => Wl.atIntH hw hjr fun _ => Wl.atIntH (h.rd (cs := [vm]) (r := RS) (x := m)) him fun _ => Wi.mul (by unfold I64; omega) (Wi.add (by rw [← est]; unfold I64; omega) (Wi.add (by unfold I64; omega) (hJ2 _ _ him ⟨rfl, ?_⟩)))))
      rw [est]
      rfl
    · have him : i = m.length := by omega
      subst him
      have b2 := ball m.length (by omega)
      rw [hl, ← egi] at b2 ⊢
      refine Wl.pushP (r := Rd.int) (x := (gainsB g m)[j]) (i := 0) rfl rfl rfl (fun _ => ⟨rfl, rfl, by unfold I64; omega⟩) h (by simp; omega) fun H v' h => Wi.add (by unfold I64; omega) (hJ _ _ hjl ⟨v', rfl, ?_⟩)
      rw [List.take_succ_eq_append_getElem hja]
      exact h
  · have hjl : j = lw g := by omega
    subst hjl
    rw [← gl, List.take_length] at h
    exact rep_end h (by omega) (by omega) (gain_nn hg hp).2 fun H u h => hQ _ u (h.retGG (i := 0) rfl)

theorem fn97 {H0 : Heap} {Q : Post} {vo vl : Value} {own list : List Int} (ho : Has RS H0 [vo] own) (hl : Has RS H0 [vl] list) (hQ : ∀ t, (t = true ↔ ∀ i, i < own.length → own.getD i 0 ≠ 0 → ((i : Nat) : Int) ∈ list) → Q (.bool t) H0) : Runs Tryz.prog 97 #[vo, vl] H0 Q := by
  have s1 := ho.small
  have s2 := hl.small
  refine f97.enter ?_
  unfold f97.w
  refine W.for_rule own.length (fun i st H => H = H0 ∧ st = (.int .i64 (i : Nat), ()) ∧ ∀ k, k < i → own.getD k 0 ≠ 0 → ((k : Nat) : Int) ∈ list) ⟨rfl, rfl, fun k hk => by omega⟩ ?_
  rintro i st H J hi ⟨rfl, rfl, hall⟩ hJ
  unfold f97.l1
  refine Wl.lenH ho (Wi.lssC (fun hlt => Wi.tru ?_) fun hge => Wi.fls ?_)
  · have hio : i < own.length := by omega
    refine Wl.atIntH ho hio fun _ => Wi.eql ?_
    refine W.for_rule list.length (fun k st H' => H' = H ∧ ∃ t, st = (.bool t, .int .i64 (k : Nat), ()) ∧ (t = true ↔ own[i] = 0 ∨ ((i : Nat) : Int) ∈ list.take k)) ⟨rfl, _, rfl, by simp⟩ ?_
    rintro k st H' J2 hk ⟨rfl, t, rfl, ht⟩ hJ2
    unfold f97.l2
    refine Wl.lenH hl (Wi.lssC (fun hlt2 => Wi.tru ?_) fun hge2 => Wi.fls ?_)
    · have hkl : k < list.length := by omega
      have est : ((i : Nat) : Int) ∈ list.take (k + 1) ↔ ((i : Nat) : Int) ∈ list.take k ∨ ((i : Nat) : Int) = list[k] := by
        rw [List.take_succ_eq_append_getElem hkl, List.mem_append, List.mem_singleton]
      cases t with
      | true =>
        simp only [gw]
        refine Wi.add (by unfold I64; omega) (hJ2 _ _ hkl ⟨rfl, true, rfl, ?_⟩)
        rw [est]
        have := ht.1 rfl
        constructor
        · intro _
          rcases this with e | e
          · exact .inl e
          · exact .inr (.inl e)
        · intro _; rfl
      | false =>
        simp only [gw]
        refine Wl.atIntH hl hkl fun _ => Wi.eql ?_
        refine Wi.add (by unfold I64; omega) (hJ2 _ _ hkl ⟨rfl, _, rfl, ?_⟩)
        rw [est]
        have hn : ¬ (own[i] = 0 ∨ ((i : Nat) : Int) ∈ list.take k) := fun q => Bool.noConfusion (ht.2 q)
        rw [beq_iff_eq]
        constructor
        · intro e; exact .inr (.inr e.symm)
        · rintro (e | e | e)
          · exact absurd (.inl e) hn
          · exact absurd (.inr e) hn
          · exact e.symm
    · have hkl : k = list.length := by omega
      subst hkl
      rw [List.take_length] at ht
      cases t with
      | false =>
        have hn : ¬ (own[i] = 0 ∨ ((i : Nat) : Int) ∈ list) := fun q => Bool.noConfusion (ht.2 q)
        refine Wi.not (Wi.tru (hQ false ⟨fun q => Bool.noConfusion q, fun q => absurd (.inr (q i hio (by rw [getD_at hio]; exact fun e => hn (.inl e)))) hn⟩))
      | true =>
        have hy := ht.1 rfl
        refine Wi.not (Wi.fls (Wi.add (by unfold I64; omega) (hJ _ _ hio ⟨rfl, rfl, fun k hk h0 => ?_⟩)))
        by_cases e : k = i
        · subst e
          rw [getD_at hio] at h0
          rcases hy with e | e
          · exact absurd e h0
          · exact e
        · exact hall k (by omega) h0
  · exact hQ true ⟨fun _ k hk => hall k (by omega), fun _ => rfl⟩

/-- The parts of five. -/
theorem gw5 : (∀ (H : Heap) (k : Post) (a b c d e : Value), W.extract 0 (.tuple #[a, b, c, d, e]) H k = k a H) ∧ (∀ (H : Heap) (k : Post) (a b c d e : Value), W.extract 1 (.tuple #[a, b, c, d, e]) H k = k b H) ∧ (∀ (H : Heap) (k : Post) (a b c d e : Value), W.extract 2 (.tuple #[a, b, c, d, e]) H k = k c H) ∧
    (∀ (H : Heap) (k : Post) (a b c d e : Value), W.extract 3 (.tuple #[a, b, c, d, e]) H k = k d H) ∧ (∀ (H : Heap) (k : Post) (a b c d e : Value), W.extract 4 (.tuple #[a, b, c, d, e]) H k = k e H) :=
  ⟨fun _ _ _ _ _ _ _ => rfl, fun _ _ _ _ _ _ _ => rfl, fun _ _ _ _ _ _ _ => rfl, fun _ _ _ _ _ _ _ => rfl, fun _ _ _ _ _ _ _ => rfl⟩

/-- Both mixes. -/
theorem fn96 {H0 : Heap} {Q : Post} {cs : List Value} {vx vy : Value} {g : Game} {x y : List Frac} {most : Int} (hr : Has RGame H0 cs g) (hx : Has RFS H0 [vx] x) (hy : Has RFS H0 [vy] y) (hw : wGame g ≤ 1048576) (lx : x.length ≤ 1000) (ly : y.length ≤ 1000)
    (h1 : ¬ IsGm g → ∀ H', H0.Le H' → Q (.tuple #[.slice none 0 0, .slice none 0 0, .int .i64 0, .int .i64 0, .int .i64 1]) H')
    (h2 : IsGm g → mixN x g.1.length = none ∨ mixN y (lw g) = none → ∀ H', H0.Le H' → Q (.tuple #[.slice none 0 0, .slice none 0 0, .int .i64 0, .int .i64 0, .int .i64 2]) H')
    (h3 : IsGm g → ∀ a d b e, mixN x g.1.length = some (a, d) → mixN y (lw g) = some (b, e) → most < d ∨ most < e → ∀ H', H0.Le H' → Q (.tuple #[.slice none 0 0, .slice none 0 0, .int .i64 0, .int .i64 0, .int .i64 3]) H')
    (h4 : IsGm g → ∀ a d b e, mixN x g.1.length = some (a, d) → mixN y (lw g) = some (b, e) → d ≤ most → e ≤ most → ∀ H' u w, H0.Le H' → Has RS H' [u] a → Has RS H' [w] b → Q (.tuple #[u, w, .int .i64 d, .int .i64 e, .int .i64 0]) H') :
    Runs Tryz.prog 96 #[.agg cs.toArray, vx, vy, .int .i64 most] H0 Q := by
  obtain ⟨u1, u2, rfl, r1, r2⟩ := hasGame hr
  have h := ((((Loc.start H0).lent hy).lent hx).lent r1).lent hr
  refine f96.enter ?_
  unfold f96.w
  refine Wl.box (cs := [u1, u2]) h fun H b h => Wl.getA (b := b) h rfl (Wi.call (fn57 (h.rd (cs := [u1, u2]) (x := g)) hw fun H t l ht => ?_))
  have h := h.to l
  cases t with
  | false =>
    simp only [gw]
    exact h1 (fun q => Bool.noConfusion (ht.2 q)) _ h.le
  | true =>
  have hg := ht.1 rfl
  have k1 := hg.k1
  simp only [gw]
  refine Wi.fieldAddr0 (Wl.get (b := b) h rfl (Wl.len (v := u1) (xs := g.1) h (Wi.call (fn106 (h.rd (cs := [vx]) (r := RFS) (x := x)) lx (fun e1 H l => ?_) (fun a da e1 hd H l => ?_) fun a da e1 hd H ua f => ?_))))
  · have h := h.to l
    simp only [gw]
    refine Wi.fieldAddr0 (Wl.get (b := b) h rfl (Wl.at1H rfl (h.rd (cs := [u1]) (r := RSS) (x := g.1)) (i := 0) (by omega) fun w hw => Wl.lenH hw ?_))
    rw [← lw_at (by omega)]
    refine Wi.call (fn106 (h.rd (cs := [vy]) (r := RFS) (x := y)) ly (fun e2 H l => ?_) (fun a da e2 hd H l => ?_) fun a da e2 hd H ub f => ?_)
    · simp only [gw]
      refine Wi.eqlC (fun _ => ?_) fun q => absurd rfl q
      simp only [gw]
      exact h2 hg (.inl e1) _ (h.to l).le
    · simp only [gw]
      refine Wi.eqlC (fun _ => ?_) fun q => absurd rfl q
      simp only [gw]
      exact h2 hg (.inl e1) _ (h.to l).le
    · simp only [gw]
      refine Wi.eqlC (fun _ => ?_) fun q => absurd rfl q
      simp only [gw]
      exact h2 hg (.inl e1) _ (h.addG f).le
  · have h := h.to l
    simp only [gw]
    refine Wi.fieldAddr0 (Wl.get (b := b) h rfl (Wl.at1H rfl (h.rd (cs := [u1]) (r := RSS) (x := g.1)) (i := 0) (by omega) fun w hw => Wl.lenH hw ?_))
    rw [← lw_at (by omega)]
    refine Wi.call (fn106 (h.rd (cs := [vy]) (r := RFS) (x := y)) ly (fun e2 H l => ?_) (fun a2 da2 e2 hd2 H l => ?_) fun a2 da2 e2 hd2 H ub f => ?_)
    · simp only [gw]
      refine Wi.eqlC (fun q => absurd q (by decide)) fun _ => ?_
      simp only [gw]
      refine Wi.eqlC (fun _ => ?_) fun q => absurd rfl q
      simp only [gw]
      exact h2 hg (.inr e2) _ (h.to l).le
    · simp only [gw]
      refine Wi.eqlC (fun q => absurd q (by decide)) fun _ => ?_
      simp only [gw]
      refine Wi.eqlC (fun q => absurd q (by decide)) fun _ => ?_
      simp only [gw]
      refine Wi.neqC (fun _ => ?_) fun q => absurd q (by decide)
      simp only [gw]
      exact h3 hg _ _ _ _ e1 e2 (.inl hd) _ (h.to l).le
    · simp only [gw]
      refine Wi.eqlC (fun q => absurd q (by decide)) fun _ => ?_
      simp only [gw]
      refine Wi.eqlC (fun q => absurd q (by decide)) fun _ => ?_
      simp only [gw]
      refine Wi.neqC (fun _ => ?_) fun q => absurd q (by decide)
      simp only [gw]
      exact h3 hg _ _ _ _ e1 e2 (.inl hd) _ (h.addG f).le
  · have h := h.addG f
    simp only [gw]
    refine Wi.fieldAddr0 (Wl.get (b := b) h rfl (Wl.at1H rfl (h.rd (cs := [u1]) (r := RSS) (x := g.1)) (i := 0) (by omega) fun w hw => Wl.lenH hw ?_))
    rw [← lw_at (by omega)]
    refine Wi.call (fn106 (h.rd (cs := [vy]) (r := RFS) (x := y)) ly (fun e2 H l => ?_) (fun a2 da2 e2 hd2 H l => ?_) fun a2 da2 e2 hd2 H ub f => ?_)
    · simp only [gw]
      refine Wi.eqlC (fun q => absurd q (by decide)) fun _ => ?_
      simp only [gw]
      refine Wi.eqlC (fun _ => ?_) fun q => absurd rfl q
      simp only [gw]
      exact h2 hg (.inr e2) _ (h.to l).le
    · simp only [gw]
      refine Wi.eqlC (fun q => absurd q (by decide)) fun _ => ?_
      simp only [gw]
      refine Wi.eqlC (fun q => absurd q (by decide)) fun _ => ?_
      simp only [gw]
      refine Wi.neqC (fun q => absurd rfl q) fun _ => ?_
      simp only [gw]
      refine Wi.neqC (fun _ => ?_) fun q => absurd q (by decide)
      simp only [gw]
      exact h3 hg _ _ _ _ e1 e2 (.inr hd2) _ (h.to l).le
    · have h := h.addG f
      simp only [gw]
      refine Wi.eqlC (fun q => absurd q (by decide)) fun _ => ?_
      simp only [gw]
      refine Wi.eqlC (fun q => absurd q (by decide)) fun _ => ?_
      simp only [gw]
      refine Wi.neqC (fun q => absurd rfl q) fun _ => ?_
      simp only [gw]
      refine Wi.neqC (fun q => absurd rfl q) fun _ => ?_
      simp only [gw]
      exact h4 hg _ _ _ _ e1 e2 hd hd2 _ ua ub h.le (h.rd (cs := [ua]) (r := RS)) (h.rd (cs := [ub]) (r := RS))

theorem fn34 {H0 : Heap} {Q : Post} {cs : List Value} {vx vy : Value} {g : Game} {x y : List Frac} (hr : Has RGame H0 cs g) (hx : Has RFS H0 [vx] x) (hy : Has RFS H0 [vy] y) (hw : wGame g ≤ 1048576) (lx : x.length ≤ 1000) (ly : y.length ≤ 1000)
    (hQ : ∀ H', H0.Le H' → Q (.tuple #[.bool (ieRes g x y).1, .int .i64 (ieRes g x y).2]) H') : Runs Tryz.prog 34 #[.agg cs.toArray, vx, vy] H0 Q := by
  classical
  obtain ⟨u1, u2, rfl, r1, r2⟩ := hasGame hr
  have h := (((Loc.start H0).lent hy).lent hx).lent hr
  refine f34.enter ?_
  unfold f34.w
  refine Wl.box (cs := [u1, u2]) h fun H b h => Wl.getA (b := b) h rfl (Wi.call (fn96 (h.rd (cs := [u1, u2]) (x := g)) (h.rd (cs := [vx]) (r := RFS) (x := x)) (h.rd (cs := [vy]) (r := RFS) (x := y)) hw lx ly (fun hn H l => ?_) (fun hg e H l => ?_) (fun hg a da bb db e1 e2 hd H l => ?_) fun hg a da bb db e1 e2 _ _ H ua ub l hua hub => ?_))
  · simp only [gw5]
    refine Wi.neqC (fun _ => Wi.tru ?_) fun q => absurd q (by decide)
    have := hQ H (h.to l).le
    unfold ieRes at this
    rw [if_neg hn] at this
    exact this
  · simp only [gw5]
    refine Wi.neqC (fun _ => Wi.tru ?_) fun q => absurd q (by decide)
    have := hQ H (h.to l).le
    unfold ieRes at this
    rw [if_pos hg] at this
    rcases e with e | e
    · rw [e] at this; exact this
    · rw [e] at this
      cases hm : mixN x g.1.length with
      | none => rw [hm] at this; exact this
      | some p => obtain ⟨a, d⟩ := p; rw [hm] at this; exact this
  · obtain ⟨_, _, _, d1⟩ := mixN_len e1
    obtain ⟨_, _, _, d2⟩ := mixN_len e2
    exact absurd hd (by omega)
  have h := h.to l
  obtain ⟨al, ab, _⟩ := mixN_len e1
  obtain ⟨bl, bb2, _⟩ := mixN_len e2
  obtain ⟨_, _, _, ap, _⟩ := mixN_facts e1
  obtain ⟨_, _, _, bp, _⟩ := mixN_facts e2
  simp only [gw5]
  have fin : ∀ H t, H0.Le H → (t = true ↔ repOk a (gainsA g bb) ∧ repOk bb (gainsB g a)) → Q (.tuple #[.bool t, .int .i64 0]) H := fun H t l ht => by
    have := hQ H l
    unfold ieRes at this
    rw [if_pos hg, e1, e2] at this
    have e : t = decide (repOk a (gainsA g bb) ∧ repOk bb (gainsB g a)) := by
      rw [Bool.eq_iff_iff, ht]; simp
    rw [e]
    exact this
  have h2 := h.le
  refine Wi.neqC (fun q => absurd rfl q) fun _ => Wi.fls (Wl.getA (b := b) h rfl (Wi.call (fnA98 (h.rd (cs := [u1, u2]) (x := g)) hg hub bl bb2 bp fun H v f => ?_)))
  have hua := hua.le f.le
  have hub := hub.le f.le
  have h := h.addG f
  refine Wi.call (fn97 hua (h.rd (cs := [v]) (r := RS) (x := bestL (gainsA g bb))) fun t ht => ?_)
  rw [holds_iff (by simp [gainsA, al]) ap] at ht
  cases t with
  | false =>
    simp only [gw]
    exact fin _ _ h.le ⟨fun e => Bool.noConfusion e, fun e => Bool.noConfusion (ht.2 e.1)⟩
  | true =>
  simp only [gw]
  refine Wl.getA (b := b) h rfl (Wi.call (fnB98 (h.rd (cs := [u1, u2]) (x := g)) hg hua al ab ap fun H v2 f => ?_))
  have hub := hub.le f.le
  have h := h.addG f
  refine Wi.call (fn97 hub (h.rd (cs := [v2]) (r := RS) (x := bestL (gainsB g a))) fun t ht2 => ?_)
  rw [holds_iff (by simp [gainsB, bl]) bp] at ht2
  exact fin _ _ h.le ⟨fun e => ⟨ht.1 rfl, ht2.1 e⟩, fun e => ht2.2 e.2⟩

end Go.Proofs.YtbcfknboheghkaaGreat
