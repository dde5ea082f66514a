/- Best replies, payoffs, constant sums: both contracts of each. No condition. -/
import Derived.Test.YtbcfknboheghkaaGreatSG0
import Derived.Test.YtbcfknboheghkaaGreatPE0
namespace Go.Proofs.YtbcfknboheghkaaGreat
open Go.Ab

/- loop.example/g01343/impl.BestReplies -/
def f32.j2 (Q : Post) (x_51 : Value) (I1 : St [16, 51] → Heap → Prop) (out_16' : Value) (H : Heap) : Prop :=
  W.bin .add x_51 (.int .i64 1) H fun v27 H =>
  I1 (out_16', v27, ()) H
def f32.l1 (Q : Post) (v20 : Value) (v18 : Value) (v19 : Value) (I1 : St [16, 51] → Heap → Prop) (out_16 : Value) (x_51 : Value) (H : Heap) : Prop :=
  W.bin .lss x_51 v20 H fun v21 H =>
  W.cond v21 H
  (fun H => W.indexAddr 1 v18 x_51 H fun v22 H =>
   W.get v22 H fun v23 H =>
   W.bin .eql v23 v19 H fun v24 H =>
   W.cond v24 H
   (fun H => W.lit 1 [(.int .i64 0)] 2 [(0, 1, x_51)] H fun v25 H =>
    W.append 1 2 out_16 v25 H fun v26 H =>
    f32.j2 Q x_51 I1 v26 H)
   (fun H => f32.j2 Q x_51 I1 out_16 H))
  (fun H => Q (.tuple #[out_16, (.int .i64 0)]) H)
def f32.j1 (Q : Post) (mix__2 : Value) (v1 : Value) (player_1 : Value) (choices_10 : Value) (H : Heap) : Prop :=
  W.call Tryz.prog (.func (.func 65) #[] #[]) #[mix__2, choices_10] H fun v12 H =>
  W.extract 0 v12 H fun v13 H =>
  W.extract 1 v12 H fun v14 H =>
  W.extract 2 v12 H fun v15 H =>
  W.un .not v15 H fun v16 H =>
  W.cond v16 H
  (fun H => Q (.tuple #[(.slice none 0 0), (.int .i64 2)]) H)
  (fun H => W.getN 2 v1 H fun v17 H =>
   W.call Tryz.prog (.func (.func 67) #[] #[]) #[v17, player_1, v13] H fun v18 H =>
   W.call Tryz.prog (.func (.func 94) #[] #[]) #[v18] H fun v19 H =>
   W.len v18 H fun v20 H =>
   W.loop (S := St [16, 51]) (fun I1 s H => f32.l1 Q v20 v18 v19 I1 s.1 s.2.1 H) ((.slice none 0 0), (.int .i64 0), ()) H)
def f32.w (Q : Post) (g_0 : Value) (player_1 : Value) (mix__2 : Value) (H : Heap) : Prop :=
  W.box g_0 26 H fun v1 H =>
  W.getN 2 v1 H fun v2 H =>
  W.call Tryz.prog (.func (.func 28) #[] #[]) #[v2] H fun v3 H =>
  W.un .not v3 H fun v4 H =>
  W.cond v4 H
  (fun H => Q (.tuple #[(.slice none 0 0), (.int .i64 1)]) H)
  (fun H => W.call Tryz.prog (.func (.func 49) #[] #[]) #[player_1, (.int .i64 0), (.int .i64 1)] H fun v5 H =>
   W.un .not v5 H fun v6 H =>
   W.cond v6 H
   (fun H => Q (.tuple #[(.slice none 0 0), (.int .i64 2)]) H)
   (fun H => W.getN 2 v1 H fun v7 H =>
    W.call Tryz.prog (.func (.func 48) #[] #[]) #[v7] H fun v8 H =>
    W.extract 0 v8 H fun v9 H =>
    W.extract 1 v8 H fun v10 H =>
    W.bin .eql player_1 (.int .i64 1) H fun v11 H =>
    W.cond v11 H
    (fun H => f32.j1 Q mix__2 v1 player_1 v9 H)
    (fun H => f32.j1 Q mix__2 v1 player_1 v10 H)))
theorem f32.enter {Q : Post} {g_0 : Value} {player_1 : Value} {mix__2 : Value} {H : Heap} (h : f32.w Q g_0 player_1 mix__2 H) : Runs Tryz.prog 32 #[g_0, player_1, mix__2] H Q :=
  fn_enter (ann := [(16, [16, 51])]) (by kernel_rfl) Tryz.func32 rfl (by kernel_rfl) h (by kernel_rfl)

/- loop.example/g01343/spec.BestReplies -/
def f38.j1 (Q : Post) (mix_2 : Value) (v1 : Value) (player_1 : Value) (n_8 : Value) (H : Heap) : Prop :=
  W.call Tryz.prog (.func (.func 106) #[] #[]) #[mix_2, n_8, (.int .i64 1000000000)] H fun v16 H =>
  W.extract 0 v16 H fun v17 H =>
  W.extract 1 v16 H fun v18 H =>
  W.extract 2 v16 H fun v19 H =>
  W.bin .neq v19 (.int .i64 0) H fun v20 H =>
  W.cond v20 H
  (fun H => Q (.tuple #[(.slice none 0 0), v19]) H)
  (fun H => W.getN 2 v1 H fun v21 H =>
   W.call Tryz.prog (.func (.func 98) #[] #[]) #[v21, player_1, v17] H fun v22 H =>
   Q (.tuple #[v22, (.int .i64 0)]) H)
def f38.w (Q : Post) (g_0 : Value) (player_1 : Value) (mix_2 : Value) (H : Heap) : Prop :=
  W.box g_0 26 H fun v1 H =>
  W.getN 2 v1 H fun v2 H =>
  W.call Tryz.prog (.func (.func 57) #[] #[]) #[v2] H fun v3 H =>
  W.un .not v3 H fun v4 H =>
  W.cond v4 H
  (fun H => Q (.tuple #[(.slice none 0 0), (.int .i64 1)]) H)
  (fun H => W.call Tryz.prog (.func (.func 59) #[] #[]) #[player_1, (.int .i64 0), (.int .i64 1)] H fun v5 H =>
   W.un .not v5 H fun v6 H =>
   W.cond v6 H
   (fun H => Q (.tuple #[(.slice none 0 0), (.int .i64 2)]) H)
   (fun H => W.fieldAddr 0 v1 H fun v7 H =>
    W.get v7 H fun v8 H =>
    W.indexAddr 1 v8 (.int .i64 0) H fun v9 H =>
    W.get v9 H fun v10 H =>
    W.len v10 H fun v11 H =>
    W.bin .eql player_1 (.int .i64 1) H fun v12 H =>
    W.cond v12 H
    (fun H => W.fieldAddr 0 v1 H fun v13 H =>
     W.get v13 H fun v14 H =>
     W.len v14 H fun v15 H =>
     f38.j1 Q mix_2 v1 player_1 v15 H)
    (fun H => f38.j1 Q mix_2 v1 player_1 v11 H)))
theorem f38.enter {Q : Post} {g_0 : Value} {player_1 : Value} {mix_2 : Value} {H : Heap} (h : f38.w Q g_0 player_1 mix_2 H) : Runs Tryz.prog 38 #[g_0, player_1, mix_2] H Q :=
  fn_enter (ann := []) (by kernel_rfl) Tryz.func38 rfl (by kernel_rfl) h (by kernel_rfl)

/- loop.example/g01343/impl.PayoffsAt -/
def f35.w (Q : Post) (g_0 : Value) (x_1 : Value) (y_2 : Value) (H : Heap) : Prop :=
  W.box g_0 26 H fun v1 H =>
  W.new [(.int .i64 0), (.int .i64 0)] 39 H fun v2 H =>
  W.new [(.int .i64 0), (.int .i64 0)] 39 H fun v3 H =>
  W.getN 2 v1 H fun v4 H =>
  W.call Tryz.prog (.func (.func 28) #[] #[]) #[v4] H fun v5 H =>
  W.un .not v5 H fun v6 H =>
  W.cond v6 H
  (fun H => W.build [(.int .i64 0), (.int .i64 0)] [] H fun v7 H =>
   W.build [(.int .i64 0), (.int .i64 0)] [] H fun v8 H =>
   W.putN 2 v2 v7 H fun _ H =>
   W.putN 2 v3 v8 H fun _ H =>
   W.getN 2 v2 H fun v9 H => W.getN 2 v3 H fun v10 H => Q (.tuple #[v9, v10, (.int .i64 1)]) H)
  (fun H => W.getN 2 v1 H fun v11 H =>
   W.call Tryz.prog (.func (.func 48) #[] #[]) #[v11] H fun v12 H =>
   W.extract 0 v12 H fun v13 H =>
   W.extract 1 v12 H fun v14 H =>
   W.call Tryz.prog (.func (.func 65) #[] #[]) #[x_1, v13] H fun v15 H =>
   W.extract 0 v15 H fun v16 H =>
   W.extract 1 v15 H fun v17 H =>
   W.extract 2 v15 H fun v18 H =>
   W.call Tryz.prog (.func (.func 65) #[] #[]) #[y_2, v14] H fun v19 H =>
   W.extract 0 v19 H fun v20 H =>
   W.extract 1 v19 H fun v21 H =>
   W.extract 2 v19 H fun v22 H =>
   W.un .not v18 H fun v23 H =>
   W.guarded v23 false (fun H k => k v22 H) H fun v24 H =>
   W.guarded v23 false (fun H k => W.un .not v24 H k) H fun v25 H =>
   W.pick v23 (.bool true) v25 H fun v26 H =>
   W.cond v26 H
   (fun H => W.build [(.int .i64 0), (.int .i64 0)] [] H fun v27 H =>
    W.build [(.int .i64 0), (.int .i64 0)] [] H fun v28 H =>
    W.putN 2 v2 v27 H fun _ H =>
    W.putN 2 v3 v28 H fun _ H =>
    W.getN 2 v2 H fun v29 H => W.getN 2 v3 H fun v30 H => Q (.tuple #[v29, v30, (.int .i64 2)]) H)
   (fun H => W.bin .gtr v17 (.int .i64 30000) H fun v31 H =>
    W.guarded v31 false (fun H k => k v21 H) H fun v32 H =>
    W.guarded v31 false (fun H k => W.bin .gtr v32 (.int .i64 30000) H k) H fun v33 H =>
    W.pick v31 (.bool true) v33 H fun v34 H =>
    W.cond v34 H
    (fun H => W.build [(.int .i64 0), (.int .i64 0)] [] H fun v35 H =>
     W.build [(.int .i64 0), (.int .i64 0)] [] H fun v36 H =>
     W.putN 2 v2 v35 H fun _ H =>
     W.putN 2 v3 v36 H fun _ H =>
     W.getN 2 v2 H fun v37 H => W.getN 2 v3 H fun v38 H => Q (.tuple #[v37, v38, (.int .i64 3)]) H)
    (fun H => W.fieldAddr 0 v1 H fun v39 H =>
     W.get v39 H fun v40 H =>
     W.call Tryz.prog (.func (.func 100) #[] #[]) #[v40, v16, v20] H fun v41 H =>
     W.bin .mul v17 v21 H fun v42 H =>
     W.call Tryz.prog (.func (.func 99) #[] #[]) #[v41, v42] H fun v43 H =>
     W.extract 0 v43 H fun v44 H =>
     W.extract 1 v43 H fun v45 H =>
     W.new [(.int .i64 0), (.int .i64 0)] 39 H fun v46 H =>
     W.putN 2 v46 v44 H fun _ H =>
     W.bin .neq v45 (.int .i64 0) H fun v47 H =>
     W.cond v47 H
     (fun H => W.build [(.int .i64 0), (.int .i64 0)] [] H fun v48 H =>
      W.build [(.int .i64 0), (.int .i64 0)] [] H fun v49 H =>
      W.putN 2 v2 v48 H fun _ H =>
      W.putN 2 v3 v49 H fun _ H =>
      W.getN 2 v2 H fun v50 H => W.getN 2 v3 H fun v51 H => Q (.tuple #[v50, v51, v45]) H)
     (fun H => W.fieldAddr 1 v1 H fun v52 H =>
      W.get v52 H fun v53 H =>
      W.call Tryz.prog (.func (.func 100) #[] #[]) #[v53, v16, v20] H fun v54 H =>
      W.bin .mul v17 v21 H fun v55 H =>
      W.call Tryz.prog (.func (.func 99) #[] #[]) #[v54, v55] H fun v56 H =>
      W.extract 0 v56 H fun v57 H =>
      W.extract 1 v56 H fun v58 H =>
      W.new [(.int .i64 0), (.int .i64 0)] 39 H fun v59 H =>
      W.putN 2 v59 v57 H fun _ H =>
      W.bin .neq v58 (.int .i64 0) H fun v60 H =>
      W.cond v60 H
      (fun H => W.build [(.int .i64 0), (.int .i64 0)] [] H fun v61 H =>
       W.build [(.int .i64 0), (.int .i64 0)] [] H fun v62 H =>
       W.putN 2 v2 v61 H fun _ H =>
       W.putN 2 v3 v62 H fun _ H =>
       W.getN 2 v2 H fun v63 H => W.getN 2 v3 H fun v64 H => Q (.tuple #[v63, v64, v58]) H)
      (fun H => W.getN 2 v46 H fun v65 H =>
       W.getN 2 v59 H fun v66 H =>
       W.putN 2 v2 v65 H fun _ H =>
       W.chk (fun H k => W.getN 2 v59 H k) v66 H (W.putN 2 v3 v66 H fun _ H =>
       W.getN 2 v2 H fun v67 H => W.getN 2 v3 H fun v68 H => Q (.tuple #[v67, v68, (.int .i64 0)]) H))))))
theorem f35.enter {Q : Post} {g_0 : Value} {x_1 : Value} {y_2 : Value} {H : Heap} (h : f35.w Q g_0 x_1 y_2 H) : Runs Tryz.prog 35 #[g_0, x_1, y_2] H Q :=
  fn_enter (ann := []) (by kernel_rfl) Tryz.func35 rfl (by kernel_rfl) h (by kernel_rfl)

/- loop.example/g01343/spec.PayoffsAt -/
def f36.l2 (Q : Post) (v7 : Value) (v6 : Value) (i_16 : Value) (v1 : Value) (I1 : St [14, 15, 16] → Heap → Prop) (I2 : St [14, 15, 17] → Heap → Prop) (first_14' : Value) (second_15' : Value) (j_17 : Value) (H : Heap) : Prop :=
  W.len v7 H fun v18 H =>
  W.bin .lss j_17 v18 H fun v19 H =>
  W.cond v19 H
  (fun H => W.indexAddr 1 v6 i_16 H fun v20 H =>
   W.get v20 H fun v21 H =>
   W.indexAddr 1 v7 j_17 H fun v22 H =>
   W.get v22 H fun v23 H =>
   W.bin .mul v21 v23 H fun v24 H =>
   W.fieldAddr 0 v1 H fun v25 H =>
   W.get v25 H fun v26 H =>
   W.indexAddr 1 v26 i_16 H fun v27 H =>
   W.get v27 H fun v28 H =>
   W.indexAddr 1 v28 j_17 H fun v29 H =>
   W.get v29 H fun v30 H =>
   W.bin .mul v24 v30 H fun v31 H =>
   W.bin .add first_14' v31 H fun v32 H =>
   W.indexAddr 1 v6 i_16 H fun v33 H =>
   W.get v33 H fun v34 H =>
   W.indexAddr 1 v7 j_17 H fun v35 H =>
   W.get v35 H fun v36 H =>
   W.bin .mul v34 v36 H fun v37 H =>
   W.fieldAddr 1 v1 H fun v38 H =>
   W.get v38 H fun v39 H =>
   W.indexAddr 1 v39 i_16 H fun v40 H =>
   W.get v40 H fun v41 H =>
   W.indexAddr 1 v41 j_17 H fun v42 H =>
   W.get v42 H fun v43 H =>
   W.bin .mul v37 v43 H fun v44 H =>
   W.bin .add second_15' v44 H fun v45 H =>
   W.bin .add j_17 (.int .i64 1) H fun v46 H =>
   I2 (v32, v45, v46, ()) H)
  (fun H => W.bin .add i_16 (.int .i64 1) H fun v47 H =>
   I1 (first_14', second_15', v47, ()) H)
def f36.l1 (Q : Post) (v6 : Value) (v7 : Value) (v1 : Value) (v8 : Value) (v9 : Value) (v2 : Value) (v3 : Value) (I1 : St [14, 15, 16] → Heap → Prop) (first_14 : Value) (second_15 : Value) (i_16 : Value) (H : Heap) : Prop :=
  W.len v6 H fun v16 H =>
  W.bin .lss i_16 v16 H fun v17 H =>
  W.cond v17 H
  (fun H => W.loop (S := St [14, 15, 17]) (fun I2 s H => f36.l2 Q v7 v6 i_16 v1 I1 I2 s.1 s.2.1 s.2.2.1 H) (first_14, second_15, (.int .i64 0), ()) H)
  (fun H => W.bin .mul v8 v9 H fun v48 H =>
   W.call Tryz.prog (.func (.func 102) #[] #[]) #[first_14, v48] H fun v49 H =>
   W.call Tryz.prog (.func (.func 101) #[] #[]) #[v49] H fun v50 H =>
   W.extract 0 v50 H fun v51 H =>
   W.extract 1 v50 H fun v52 H =>
   W.new [(.int .i64 0), (.int .i64 0)] 39 H fun v53 H =>
   W.putN 2 v53 v51 H fun _ H =>
   W.bin .mul v8 v9 H fun v54 H =>
   W.call Tryz.prog (.func (.func 102) #[] #[]) #[second_15, v54] H fun v55 H =>
   W.call Tryz.prog (.func (.func 101) #[] #[]) #[v55] H fun v56 H =>
   W.extract 0 v56 H fun v57 H =>
   W.extract 1 v56 H fun v58 H =>
   W.new [(.int .i64 0), (.int .i64 0)] 39 H fun v59 H =>
   W.putN 2 v59 v57 H fun _ H =>
   W.bin .neq v52 (.int .i64 0) H fun v60 H =>
   W.guarded v60 false (fun H k => k v58 H) H fun v61 H =>
   W.guarded v60 false (fun H k => W.bin .neq v61 (.int .i64 0) H k) H fun v62 H =>
   W.pick v60 (.bool true) v62 H fun v63 H =>
   W.cond v63 H
   (fun H => W.build [(.int .i64 0), (.int .i64 0)] [] H fun v64 H =>
    W.build [(.int .i64 0), (.int .i64 0)] [] H fun v65 H =>
    W.putN 2 v2 v64 H fun _ H =>
    W.putN 2 v3 v65 H fun _ H =>
    W.getN 2 v2 H fun v66 H => W.getN 2 v3 H fun v67 H => Q (.tuple #[v66, v67, (.int .i64 3)]) H)
   (fun H => W.getN 2 v53 H fun v68 H =>
    W.getN 2 v59 H fun v69 H =>
    W.putN 2 v2 v68 H fun _ H =>
    W.chk (fun H k => W.getN 2 v59 H k) v69 H (W.putN 2 v3 v69 H fun _ H =>
    W.getN 2 v2 H fun v70 H => W.getN 2 v3 H fun v71 H => Q (.tuple #[v70, v71, (.int .i64 0)]) H)))
def f36.w (Q : Post) (g_0 : Value) (x_1 : Value) (y_2 : Value) (H : Heap) : Prop :=
  W.box g_0 26 H fun v1 H =>
  W.new [(.int .i64 0), (.int .i64 0)] 39 H fun v2 H =>
  W.new [(.int .i64 0), (.int .i64 0)] 39 H fun v3 H =>
  W.getN 2 v1 H fun v4 H =>
  W.call Tryz.prog (.func (.func 96) #[] #[]) #[v4, x_1, y_2, (.int .i64 30000)] H fun v5 H =>
  W.extract 0 v5 H fun v6 H =>
  W.extract 1 v5 H fun v7 H =>
  W.extract 2 v5 H fun v8 H =>
  W.extract 3 v5 H fun v9 H =>
  W.extract 4 v5 H fun v10 H =>
  W.bin .neq v10 (.int .i64 0) H fun v11 H =>
  W.cond v11 H
  (fun H => W.build [(.int .i64 0), (.int .i64 0)] [] H fun v12 H =>
   W.build [(.int .i64 0), (.int .i64 0)] [] H fun v13 H =>
   W.putN 2 v2 v12 H fun _ H =>
   W.putN 2 v3 v13 H fun _ H =>
   W.getN 2 v2 H fun v14 H => W.getN 2 v3 H fun v15 H => Q (.tuple #[v14, v15, v10]) H)
  (fun H => W.loop (S := St [14, 15, 16]) (fun I1 s H => f36.l1 Q v6 v7 v1 v8 v9 v2 v3 I1 s.1 s.2.1 s.2.2.1 H) ((.int .i64 0), (.int .i64 0), (.int .i64 0), ()) H)
theorem f36.enter {Q : Post} {g_0 : Value} {x_1 : Value} {y_2 : Value} {H : Heap} (h : f36.w Q g_0 x_1 y_2 H) : Runs Tryz.prog 36 #[g_0, x_1, y_2] H Q :=
  fn_enter (ann := [(6, [14, 15, 16]), (9, [14, 15, 17])]) (by kernel_rfl) Tryz.func36 rfl (by kernel_rfl) h (by kernel_rfl)


noncomputable def brRes (g : Game) (p : Int) (xs : List Frac) : List Int × Int := open Classical in
  if IsGm g then (if p = 0 then (match mixN xs (lw g) with | some (m, _) => (bestL (gainsA g m), 0) | none => ([], 2)) else if p = 1 then (match mixN xs g.1.length with | some (m, _) => (bestL (gainsB g m), 0) | none => ([], 2)) else ([], 2)) else ([], 1)

theorem ibr_end {H0 H : Heap} {L : List (Atom H0.next)} {Q : Post} {v : Value} {gains : List Int} {r : Int} (h : Ab.Loc H0 (.grow Rd.int 2 v gains :: L) H) (h5 : gains.length ≤ 1000) (hrm : r ∈ gains) (hmax : ∀ e ∈ gains, e ≤ r) (hQ : ∀ H' u, FreshG Rd.int 2 H0 u (bestL gains) H' → Q (.tuple #[u, .int .i64 0]) H') :
    W.loop (S := St [16, 51]) (fun I1 s H => f32.l1 Q (.int .i64 (gains.length : Nat)) v (.int .i64 r) I1 s.1 s.2.1 H) (.slice none 0 0, .int .i64 0, ()) H := by
  have h : Ab.Loc H0 (.grow Rd.int 2 (.slice none 0 0) (bestTo gains 0) :: .grow Rd.int 2 v gains :: L) H := h.nilG Rd.int 2
  refine W.for_rule gains.length (fun i st H => ∃ u, st = (u, .int .i64 (i : Nat), ()) ∧ Ab.Loc H0 (.grow Rd.int 2 u (bestTo gains i) :: .grow Rd.int 2 v gains :: L) H) ⟨_, rfl, h⟩ ?_
  rintro j st H J2 hj ⟨u, rfl, h⟩ hJ2
  unfold f32.l1
  refine Wi.lssC (fun hlt => Wi.tru ?_) fun hge => Wi.fls ?_
  · have hjg : j < gains.length := by omega
    have hbl := bestTo_len gains j
    have est := bestTo_step gains j
    rw [isBest_iff hjg hrm hmax] at est
    refine Wl.atIntH (h.rd (cs := [v]) (r := RS) (x := gains)) hjg fun _ => Wi.eqlC (fun he => Wi.tru ?_) fun hne => Wi.fls ?_
    · rw [decide_eq_true he, if_pos rfl] at est
      refine Wl.pushP (r := Rd.int) (x := ((j : Nat) : Int)) (i := 0) rfl rfl rfl (fun _ => ⟨rfl, rfl, by unfold I64; omega⟩) h (by omega) fun H u' h => ?_
      unfold f32.j2
      refine Wi.add (by unfold I64; omega) (hJ2 _ _ hjg ⟨u', rfl, ?_⟩)
      rw [est]
      exact h
    · rw [decide_eq_false hne, if_neg (by decide), List.append_nil] at est
      unfold f32.j2
      refine Wi.add (by unfold I64; omega) (hJ2 _ _ hjg ⟨u, rfl, ?_⟩)
      rw [est]
      exact h
  · have hjg : j = gains.length := by omega
    subst hjg
    exact hQ _ u (h.retGG (i := 0) rfl)

theorem fn32 {H0 : Heap} {Q : Post} {cs : List Value} {vm : Value} {g : Game} {p : Int} {xs : List Frac} (hr : Has RGame H0 cs g) (hp : I64 p) (hx : Has RFS H0 [vm] xs) (hw : wGame g ≤ 1048576) (lx : xs.length ≤ 1000)
    (hQ : ∀ H' u, FreshG Rd.int 2 H0 u (brRes g p xs).1 H' → Q (.tuple #[u, .int .i64 (brRes g p xs).2]) H') : Runs Tryz.prog 32 #[.agg cs.toArray, .int .i64 p, vm] H0 Q := by
  classical
  obtain ⟨u1, u2, rfl, r1, r2⟩ := hasGame hr
  have h := ((Loc.start H0).lent hx).lent hr
  have hz : ∀ H c, H0.Le H → brRes g p xs = ([], c) → Q (.tuple #[.slice none 0 0, .int .i64 c]) H := fun H c l e => by
    have := hQ H (.slice none 0 0) (by rw [e]; exact ((Loc.start H0).to l |>.nilG Rd.int 2).retGG (i := 0) rfl)
    rw [e] at this
    exact this
  refine f32.enter ?_
  unfold f32.w
  refine Wl.box (cs := [u1, u2]) h fun H b h => Wl.getA (b := b) h rfl (Wi.call (fn28 (h.rd (cs := [u1, u2]) (x := g)) hw fun H t l ht => ?_))
  have h := h.to l
  cases t with
  | false =>
    simp only [gw]
    exact hz _ _ h.le (by unfold brRes; rw [if_neg (fun q => Bool.noConfusion (ht.2 q))])
  | true =>
  have hg := ht.1 rfl
  have k1 := hg.k1
  have k4 := hg.k4
  have l1 := hg.l1
  have l4 := hg.l4
  simp only [gw]
  refine Wi.call (fn49 (Wi.not ?_))
  cases hin : inR 0 1 p with
  | false =>
    refine Wi.tru (hz _ _ h.le ?_)
    have n0 : p ≠ 0 := fun e => by rw [e] at hin; exact absurd hin (by decide)
    have n1 : p ≠ 1 := fun e => by rw [e] at hin; exact absurd hin (by decide)
    unfold brRes
    rw [if_pos hg, if_neg n0, if_neg n1]
  | true =>
  obtain ⟨p0, p1⟩ := inR_iff.1 hin
  refine Wi.fls (Wl.getA (b := b) h rfl (Wi.call (fn48 (h.rd (cs := [u1, u2]) (x := g)) (by omega) fun H l => ?_)))
  have h := h.to l
  simp only [gw]
  refine Wi.eqlC (fun e => Wi.tru ?_) fun e => Wi.fls ?_
  · subst e
    unfold f32.j1
    refine Wi.call (fn65 (h.rd (cs := [vm]) (r := RFS) (x := xs)) lx (fun e1 H l => ?_) fun a da e1 H ua f => ?_)
    · simp only [gw]
      exact hz _ _ (h.to l).le (by unfold brRes; rw [if_pos hg, if_neg (by decide), if_pos rfl, e1])
    have h := h.addG f
    obtain ⟨al, ab, _⟩ := mixN_len e1
    have hres : brRes g 1 xs = (bestL (gainsB g a), 0) := by unfold brRes; rw [if_pos hg, if_neg (by decide), if_pos rfl, e1]
    simp only [gw]
    refine Wl.getA (b := b) h rfl (Wi.call (fnB67 (h.rd (cs := [u1, u2]) (x := g)) hg (h.rd (cs := [ua]) (r := RS) (x := a)) al ab fun H v f => ?_))
    have h := h.addG f
    have gl : (gainsB g a).length = lw g := by simp [gainsB]
    refine Wi.call (fn94 (h.rd (cs := [v]) (r := RS) (x := gainsB g a)) (by omega) fun r hrm hmax => Wl.lenH (h.rd (cs := [v]) (r := RS) (x := gainsB g a)) ?_)
    refine ibr_end h (by omega) hrm hmax fun H u f => ?_
    have := hQ H u (by rw [hres]; exact f)
    rw [hres] at this
    exact this
  · have e0 : p = 0 := by omega
    subst e0
    unfold f32.j1
    refine Wi.call (fn65 (h.rd (cs := [vm]) (r := RFS) (x := xs)) lx (fun e1 H l => ?_) fun a da e1 H ua f => ?_)
    · simp only [gw]
      exact hz _ _ (h.to l).le (by unfold brRes; rw [if_pos hg, if_pos rfl, e1])
    have h := h.addG f
    obtain ⟨al, ab, _⟩ := mixN_len e1
    have hres : brRes g 0 xs = (bestL (gainsA g a), 0) := by unfold brRes; rw [if_pos hg, if_pos rfl, e1]
    simp only [gw]
    refine Wl.getA (b := b) h rfl (Wi.call (fnA67 (h.rd (cs := [u1, u2]) (x := g)) hg (h.rd (cs := [ua]) (r := RS) (x := a)) al ab fun H v f => ?_))
    have h := h.addG f
    have gl : (gainsA g a).length = g.1.length := by simp [gainsA]
    refine Wi.call (fn94 (h.rd (cs := [v]) (r := RS) (x := gainsA g a)) (by omega) fun r hrm hmax => Wl.lenH (h.rd (cs := [v]) (r := RS) (x := gainsA g a)) ?_)
    refine ibr_end h (by omega) hrm hmax fun H u f => ?_
    have := hQ H u (by rw [hres]; exact f)
    rw [hres] at this
    exact this

theorem fn38 {H0 : Heap} {Q : Post} {cs : List Value} {vm : Value} {g : Game} {p : Int} {xs : List Frac} (hr : Has RGame H0 cs g) (hp : I64 p) (hx : Has RFS H0 [vm] xs) (hw : wGame g ≤ 1048576) (lx : xs.length ≤ 1000)
    (hQ : ∀ H' u, FreshG Rd.int 2 H0 u (brRes g p xs).1 H' → Q (.tuple #[u, .int .i64 (brRes g p xs).2]) H') : Runs Tryz.prog 38 #[.agg cs.toArray, .int .i64 p, vm] H0 Q := by
  classical
  obtain ⟨u1, u2, rfl, r1, r2⟩ := hasGame hr
  have h := (((Loc.start H0).lent hx).lent r1).lent hr
  have hz : ∀ H c, H0.Le H → brRes g p xs = ([], c) → Q (.tuple #[.slice none 0 0, .int .i64 c]) H := fun H c l e => by
    have := hQ H (.slice none 0 0) (by rw [e]; exact ((Loc.start H0).to l |>.nilG Rd.int 2).retGG (i := 0) rfl)
    rw [e] at this
    exact this
  refine f38.enter ?_
  unfold f38.w
  refine Wl.box (cs := [u1, u2]) h fun H b h => Wl.getA (b := b) h rfl (Wi.call (fn57 (h.rd (cs := [u1, u2]) (x := g)) hw fun H t l ht => ?_))
  have h := h.to l
  cases t with
  | false =>
    simp only [gw]
    exact hz _ _ h.le (by unfold brRes; rw [if_neg (fun q => Bool.noConfusion (ht.2 q))])
  | true =>
  have hg := ht.1 rfl
  have k1 := hg.k1
  simp only [gw]
  refine Wi.call (fn59 (Wi.not ?_))
  cases hin : inR 0 1 p with
  | false =>
    refine Wi.tru (hz _ _ h.le ?_)
    have n0 : p ≠ 0 := fun e => by rw [e] at hin; exact absurd hin (by decide)
    have n1 : p ≠ 1 := fun e => by rw [e] at hin; exact absurd hin (by decide)
    unfold brRes
    rw [if_pos hg, if_neg n0, if_neg n1]
  | true =>
  obtain ⟨p0, p1⟩ := inR_iff.1 hin
  refine Wi.fls (Wi.fieldAddr0 (Wl.get (b := b) h rfl (Wl.at1H rfl (h.rd (cs := [u1]) (r := RSS) (x := g.1)) (i := 0) (by omega) fun w hw => Wl.lenH hw ?_)))
  rw [← lw_at (by omega)]
  have far : ∀ {l : List Int} {d : Int} {n : Nat}, mixN xs n = some (l, d) → ¬ 1000000000 < d := fun e => by
    obtain ⟨_, _, _, q⟩ := mixN_len e
    omega
  refine Wi.eqlC (fun e => Wi.tru ?_) fun e => Wi.fls ?_
  · subst e
    refine Wi.fieldAddr0 (Wl.get (b := b) h rfl (Wl.len (v := u1) (xs := g.1) h ?_))
    unfold f38.j1
    refine Wi.call (fn106 (h.rd (cs := [vm]) (r := RFS) (x := xs)) lx (fun e1 H l => ?_) (fun a da e1 hd H l => absurd hd (far e1)) fun a da e1 _ H ua f => ?_)
    · simp only [gw]
      refine Wi.neqC (fun _ => Wi.tru ?_) fun q => absurd q (by decide)
      exact hz _ _ (h.to l).le (by unfold brRes; rw [if_pos hg, if_neg (by decide), if_pos rfl, e1])
    have h := h.addG f
    obtain ⟨al, ab, _⟩ := mixN_len e1
    obtain ⟨_, _, _, ap, _⟩ := mixN_facts e1
    have hres : brRes g 1 xs = (bestL (gainsB g a), 0) := by unfold brRes; rw [if_pos hg, if_neg (by decide), if_pos rfl, e1]
    simp only [gw]
    refine Wi.neqC (fun q => absurd rfl q) fun _ => Wi.fls (Wl.getA (b := b) h rfl (Wi.call (fnB98 (h.rd (cs := [u1, u2]) (x := g)) hg (h.rd (cs := [ua]) (r := RS) (x := a)) al ab ap fun H v f => ?_)))
    have h := h.addG f
    have := hQ H v (by rw [hres]; exact h.retGG (i := 0) rfl)
    rw [hres] at this
    exact this
  · have e0 : p = 0 := by omega
    subst e0
    unfold f38.j1
    refine Wi.call (fn106 (h.rd (cs := [vm]) (r := RFS) (x := xs)) lx (fun e1 H l => ?_) (fun a da e1 hd H l => absurd hd (far e1)) fun a da e1 _ H ua f => ?_)
    · simp only [gw]
      refine Wi.neqC (fun _ => Wi.tru ?_) fun q => absurd q (by decide)
      exact hz _ _ (h.to l).le (by unfold brRes; rw [if_pos hg, if_pos rfl, e1])
    have h := h.addG f
    obtain ⟨al, ab, _⟩ := mixN_len e1
    obtain ⟨_, _, _, ap, _⟩ := mixN_facts e1
    have hres : brRes g 0 xs = (bestL (gainsA g a), 0) := by unfold brRes; rw [if_pos hg, if_pos rfl, e1]
    simp only [gw]
    refine Wi.neqC (fun q => absurd rfl q) fun _ => Wi.fls (Wl.getA (b := b) h rfl (Wi.call (fnA98 (h.rd (cs := [u1, u2]) (x := g)) hg (h.rd (cs := [ua]) (r := RS) (x := a)) al ab ap fun H v f => ?_)))
    have h := h.addG f
    have := hQ H v (by rw [hres]; exact h.retGG (i := 0) rfl)
    rw [hres] at this
    exact this

/-! ### Payoffs -/

theorem told_frac2 {H0 : Heap} {Q : Post} {n d : Int} (hQ : ∀ H', H0.Le H' → Q (.tuple #[.agg (frC (fracT n d).1).toArray, .int .i64 (fracT n d).2]) H') : Runs Tryz.prog 101 #[.agg (frC (frac n d)).toArray] H0 Q := fn101 hQ

noncomputable def paRes (g : Game) (x y : List Frac) : Frac × Frac × Int := open Classical in
  if IsGm g then (match mixN x g.1.length, mixN y (lw g) with
    | some (a, d), some (b, e) => if d ≤ 30000 ∧ e ≤ 30000 then (if (fracT (formV g.1 a b) (d * e)).2 = 0 ∧ (fracT (formV g.2 a b) (d * e)).2 = 0 then ((fracT (formV g.1 a b) (d * e)).1, (fracT (formV g.2 a b) (d * e)).1, 0) else (zFr, zFr, 3)) else (zFr, zFr, 3)
    | _, _ => (zFr, zFr, 2)) else (zFr, zFr, 1)

theorem fracT_two (n d : Int) : (fracT n d).2 = 0 ∨ fracT n d = ((0, 0), 3) := by
  unfold fracT
  split
  · exact .inl rfl
  · exact .inr rfl

/-- What mixes within the limits come to. -/
theorem pay_facts {g : Game} {x y : List Frac} {a b : List Int} {d e : Int} (e1 : mixN x g.1.length = some (a, d)) (e2 : mixN y (lw g) = some (b, e)) (hd : d ≤ 30000) (he : e ≤ 30000) :
    a.length = g.1.length ∧ b.length = lw g ∧ (∀ t ∈ a, t.natAbs ≤ 30000) ∧ (∀ t ∈ b, t.natAbs ≤ 30000) ∧ 1 ≤ d ∧ 1 ≤ e ∧ 1 ≤ d * e ∧ d * e ≤ 900000000 := by
  obtain ⟨al, _, d1, _⟩ := mixN_len e1
  obtain ⟨bl, _, d2, _⟩ := mixN_len e2
  obtain ⟨_, _, _, ap, asum⟩ := mixN_facts e1
  obtain ⟨_, _, _, bp, bs⟩ := mixN_facts e2
  refine ⟨al, bl, fun t ht => ?_, fun t ht => ?_, d1, d2, ?_, ?_⟩
  · have h1 := ap t ht
    have h2 := mem_le_sum ap t ht
    omega
  · have h1 := bp t ht
    have h2 := mem_le_sum bp t ht
    omega
  · have := Int.mul_le_mul d1 d2 (by decide) (by omega)
    omega
  · have := Int.mul_le_mul hd he (by omega) (by decide)
    omega

theorem form_ok {k l : Nat} {m : List (List Int)} {a b : List Int} (h : ∀ r ∈ m, r.length = l ∧ ∀ x ∈ r, 1 ≤ x ∧ x ≤ 20) (hk : m.length = k) (k4 : k ≤ 4) (l4 : l ≤ 4) (ha : ∀ t ∈ a, t.natAbs ≤ 30000) (hb : ∀ t ∈ b, t.natAbs ≤ 30000) : (formV m a b).natAbs ≤ 1000000000000 := by
  unfold formV
  have hd : ∀ i, (dot (m.getD i []) b).natAbs ≤ 2400000 := fun i => by
    by_cases hi : i < m.length
    · rw [getD_row hi]
      have h1 := h _ (List.getElem_mem hi)
      have h2 := dot_abs (A := 20) (fun x hx => by have := h1.2 x hx; omega) hb
      rw [h1.1] at h2
      have h3 : l * (20 * 30000) ≤ 4 * (20 * 30000) := Nat.mul_le_mul_right _ l4
      omega
    · rw [List.getD_eq_getElem?_getD, List.getElem?_eq_none (by omega)]
      simp [dot, sumTo]
  have h1 := sumTo_abs (f := fun i => a.getD i 0 * dot (m.getD i []) b) (n := m.length) fun i _ => mul_abs (getD_abs ha i) (hd i)
  have h2 : m.length * (30000 * 2400000) ≤ 4 * (30000 * 2400000) := Nat.mul_le_mul_right _ (by omega)
  omega

theorem fn35 {H0 : Heap} {Q : Post} {cs : List Value} {vx vy : Value} {g : Game} {x y : List Frac} (hr : Has RGame H0 cs g) (hx : Has RFS H0 [vx] x) (hy : Has RFS H0 [vy] y) (hw : wGame g ≤ 1048576) (lx : x.length ≤ 1000) (ly : y.length ≤ 1000)
    (hQ : ∀ H', H0.Le H' → Q (.tuple #[.agg (frC (paRes g x y).1).toArray, .agg (frC (paRes g x y).2.1).toArray, .int .i64 (paRes g x y).2.2]) H') : Runs Tryz.prog 35 #[.agg cs.toArray, vx, vy] H0 Q := by
  classical
  obtain ⟨u1, u2, rfl, r1, r2⟩ := hasGame hr
  have hz : ∀ H c, H0.Le H → paRes g x y = (zFr, zFr, c) → Q (.tuple #[.agg (frC zFr).toArray, .agg (frC zFr).toArray, .int .i64 c]) H := fun H c l e => by
    have := hQ H l
    rw [e] at this
    exact this
  have h := (((((Loc.start H0).lent hy).lent hx).lent r2).lent r1).lent hr
  refine f35.enter ?_
  unfold f35.w
  refine Wl.box (cs := [u1, u2]) h fun H b h => Wl.new h fun H b2 h => Wl.new h fun H b3 h => Wl.getA (b := b) h rfl (Wi.call (fn28 (h.rd (cs := [u1, u2]) (x := g)) hw fun H t l ht => ?_))
  have h := h.to l
  have bad : ∀ H (c : Int) {M : List (Atom H0.next)}, Ab.Loc H0 (.box b3 [.int .i64 0, .int .i64 0] :: .box b2 [.int .i64 0, .int .i64 0] :: M) H → paRes g x y = (zFr, zFr, c) → W.build [.int .i64 0, .int .i64 0] [] H fun v31 H => W.build [.int .i64 0, .int .i64 0] [] H fun v32 H => W.putN 2 (pt b2 0) v31 H fun _ H => W.putN 2 (pt b3 0) v32 H fun _ H => W.getN 2 (pt b2 0) H fun v33 H => W.getN 2 (pt b3 0) H fun v34 H => Q (.tuple #[v33, v34, .int .i64 c]) H := fun H c M h e =>
    Wi.build (cells := frC zFr) rfl (Wi.build (cells := frC zFr) rfl (Wl.putA (b := b2) h rfl rfl rfl fun H h => Wl.putA (b := b3) h rfl rfl rfl fun H h => Wl.getA (b := b2) h rfl (Wl.getA (b := b3) h rfl (hz _ _ h.le e))))
  cases t with
  | false =>
    simp only [gw]
    exact bad _ _ h (by unfold paRes; rw [if_neg (fun q => Bool.noConfusion (ht.2 q))])
  | true =>
  have hg := ht.1 rfl
  have k1 := hg.k1
  have k4 := hg.k4
  have l1 := hg.l1
  have l4 := hg.l4
  have bl := hg.bl
  simp only [gw]
  refine Wl.getA (b := b) h rfl (Wi.call (fn48 (h.rd (cs := [u1, u2]) (x := g)) (by omega) fun H l => ?_))
  have h := h.to l
  simp only [gw]
  refine Wi.call (fn65 (h.rd (cs := [vx]) (r := RFS) (x := x)) lx (fun e1 H l => ?_) fun a da e1 H ua f => ?_)
  · have h := h.to l
    have hres : paRes g x y = (zFr, zFr, 2) := by unfold paRes; rw [if_pos hg, e1]
    simp only [gw]
    refine Wi.call (fn65 (h.rd (cs := [vy]) (r := RFS) (x := y)) ly (fun e2 H l => ?_) fun a da e2 H ua f => ?_)
    · simp only [gw]
      exact bad _ _ (h.to l) hres
    · simp only [gw]
      exact bad _ _ (h.to f.le) hres
  have h := h.addG f
  simp only [gw]
  refine Wi.call (fn65 (h.rd (cs := [vy]) (r := RFS) (x := y)) ly (fun e2 H l => ?_) fun bb db e2 H ub f => ?_)
  · have hres : paRes g x y = (zFr, zFr, 2) := by unfold paRes; rw [if_pos hg, e1, e2]
    simp only [gw]
    exact bad _ _ (h.to l).tl hres
  have h := h.addG f
  simp only [gw]
  have hlim : ∀ H {M : List (Atom H0.next)}, Ab.Loc H0 (.box b3 [.int .i64 0, .int .i64 0] :: .box b2 [.int .i64 0, .int .i64 0] :: M) H → ¬ (da ≤ 30000 ∧ db ≤ 30000) → W.build [.int .i64 0, .int .i64 0] [] H fun v31 H => W.build [.int .i64 0, .int .i64 0] [] H fun v32 H => W.putN 2 (pt b2 0) v31 H fun _ H => W.putN 2 (pt b3 0) v32 H fun _ H => W.getN 2 (pt b2 0) H fun v33 H => W.getN 2 (pt b3 0) H fun v34 H => Q (.tuple #[v33, v34, .int .i64 3]) H := fun H M h q =>
    bad _ _ h (by unfold paRes; rw [if_pos hg, e1, e2]; exact if_neg q)
  refine Wi.gtrC (fun hgt => ?_) fun hd => ?_
  · simp only [gw]
    exact hlim _ h.tl.tl fun q => by omega
  simp only [gw]
  refine Wi.gtrC (fun hgt => ?_) fun he => ?_
  · simp only [gw]
    exact hlim _ h.tl.tl fun q => by omega
  simp only [gw]
  have hd : da ≤ 30000 := by omega
  have he : db ≤ 30000 := by omega
  obtain ⟨al, bbl, ha, hb, d1, d2, de1, de2⟩ := pay_facts e1 e2 hd he
  have hde : B64 (da * db) := by unfold B64; omega
  have hres : paRes g x y = if (fracT (formV g.1 a bb) (da * db)).2 = 0 ∧ (fracT (formV g.2 a bb) (da * db)).2 = 0 then ((fracT (formV g.1 a bb) (da * db)).1, (fracT (formV g.2 a bb) (da * db)).1, 0) else (zFr, zFr, 3) := by
    unfold paRes
    rw [if_pos hg, e1, e2]
    exact if_pos ⟨hd, he⟩
  have f1 := form_ok hg.a rfl k4 l4 ha hb
  have f2 := form_ok hg.b bl k4 l4 ha hb
  have hM : ∀ (M : List (List Int)) (_ : ∀ r ∈ M, r.length = lw g ∧ ∀ x ∈ r, 1 ≤ x ∧ x ≤ 20), ∀ r ∈ M, (r.length ≤ 4 ∧ ∀ e ∈ r, e.natAbs ≤ 20) ∧ r.length ≤ bb.length := fun M hM r hr => ⟨⟨by rw [(hM r hr).1]; exact l4, fun e he => by have := (hM r hr).2 e he; omega⟩, by rw [(hM r hr).1]; omega⟩
  have n1 : g.1.length * (30000 * (4 * (20 * 30000))) ≤ 4 * (30000 * (4 * (20 * 30000))) := Nat.mul_le_mul_right _ k4
  have n2 : g.2.length * (30000 * (4 * (20 * 30000))) ≤ 4 * (30000 * (4 * (20 * 30000))) := Nat.mul_le_mul_right _ (by omega)
  have hI : I64 (da * db) := by unfold I64; omega
  refine Wi.fieldAddr0 (Wl.get (b := b) h rfl (Wi.call (fn100 (h.rd (cs := [u1]) (r := RSS) (x := g.1)) (h.rd (cs := [ua]) (r := RS) (x := a)) (h.rd (cs := [ub]) (r := RS) (x := bb)) (by omega) (hM _ hg.a) ha hb (by omega) (by omega) (Wi.mul hI (Wi.call (fn99 (by unfold B64; omega) hde (by omega) fun H l => ?_))))))
  have h := h.to l
  simp only [gw]
  refine Wl.new h fun H b46 h => Wl.putA (b := b46) (i := 0) h rfl rfl rfl fun H h => ?_
  have h : Ab.Loc H0 [.box b46 (frC (fracT (formV g.1 a bb) (da * db)).1), .grow Rd.int 2 ub bb, .grow Rd.int 2 ua a, .box b3 [.int .i64 0, .int .i64 0], .box b2 [.int .i64 0, .int .i64 0], .box b [u1, u2], .lent RGame [u1, u2] g, .lent RSS [u1] g.1, .lent RSS [u2] g.2, .lent RFS [vx] x, .lent RFS [vy] y] H := h
  rcases fracT_two (formV g.1 a bb) (da * db) with c1 | c1
  rotate_left
  · rw [c1] at hres ⊢
    refine Wi.neqC (fun _ => Wi.tru ?_) fun q => absurd q (by decide)
    exact bad _ _ h.tl.tl.tl (by rw [hres]; exact if_neg fun q => absurd q.1 (by decide))
  rw [c1]
  refine Wi.neqC (fun q => absurd rfl q) fun _ => Wi.fls ?_
  refine Wi.fieldAddr (Wl.get (b := b) (o := 1) h rfl (Wi.call (fn100 (h.rd (cs := [u2]) (r := RSS) (x := g.2)) (h.rd (cs := [ua]) (r := RS) (x := a)) (h.rd (cs := [ub]) (r := RS) (x := bb)) (by omega) (hM _ hg.b) ha hb (by omega) (by omega) (Wi.mul hI (Wi.call (fn99 (by unfold B64; omega) hde (by omega) fun H l => ?_))))))
  have h := h.to l
  simp only [gw]
  refine Wl.new h fun H b59 h => Wl.putA (b := b59) (i := 0) h rfl rfl rfl fun H h => ?_
  have h : Ab.Loc H0 [.box b59 (frC (fracT (formV g.2 a bb) (da * db)).1), .box b46 (frC (fracT (formV g.1 a bb) (da * db)).1), .grow Rd.int 2 ub bb, .grow Rd.int 2 ua a, .box b3 [.int .i64 0, .int .i64 0], .box b2 [.int .i64 0, .int .i64 0], .box b [u1, u2], .lent RGame [u1, u2] g, .lent RSS [u1] g.1, .lent RSS [u2] g.2, .lent RFS [vx] x, .lent RFS [vy] y] H := h
  rcases fracT_two (formV g.2 a bb) (da * db) with c2 | c2
  rotate_left
  · rw [c2] at hres ⊢
    refine Wi.neqC (fun _ => Wi.tru ?_) fun q => absurd q (by decide)
    exact bad _ _ h.tl.tl.tl.tl (by rw [hres]; exact if_neg fun q => absurd q.2 (by decide))
  rw [c2]
  rw [if_pos ⟨c1, c2⟩] at hres
  refine Wi.neqC (fun q => absurd rfl q) fun _ => Wi.fls ?_
  refine Wl.getA (b := b46) h rfl (Wl.getA (b := b59) h rfl (Wl.putA (b := b2) (i := 5) h rfl rfl rfl fun H h => Wi.chk (Wl.getA (b := b59) h rfl ⟨rfl, rfl⟩) (Wl.putA (b := b3) (i := 4) h rfl rfl rfl fun H h => Wl.getA (b := b2) h rfl (Wl.getA (b := b3) h rfl ?_))))
  have := hQ _ h.le
  rw [hres] at this
  exact this

/-- The reference's sums. -/
theorem pay_sum {k l : Nat} {m : List (List Int)} {a b : List Int} (h : ∀ r ∈ m, r.length = l ∧ ∀ x ∈ r, 1 ≤ x ∧ x ≤ 20) {i : Nat} (hi : i < m.length) : sumTo (fun j => a.getD i 0 * b.getD j 0 * mAt m i j) l = a.getD i 0 * dot (m.getD i []) b := by
  unfold dot
  rw [getD_row hi, (h _ (List.getElem_mem hi)).1, ← sumTo_mul]
  refine sumTo_congr fun j _ => ?_
  simp only [dotF]
  unfold mAt
  rw [getD_row hi, Int.mul_assoc, Int.mul_comm (b.getD j 0)]

theorem pay_abs {l : Nat} {m : List (List Int)} {a b : List Int} (h : ∀ r ∈ m, r.length = l ∧ ∀ x ∈ r, 1 ≤ x ∧ x ≤ 20) (ha : ∀ t ∈ a, t.natAbs ≤ 30000) (hb : ∀ t ∈ b, t.natAbs ≤ 30000) (i j : Nat) : (a.getD i 0 * b.getD j 0 * mAt m i j).natAbs ≤ 30000 * 30000 * 20 := by
  refine mul_abs (mul_abs (getD_abs ha i) (getD_abs hb j)) ?_
  by_cases hi : i < m.length
  · unfold mAt
    rw [getD_row hi]
    exact getD_abs (fun x hx => by have := (h _ (List.getElem_mem hi)).2 x hx; omega) j
  · simp [mAt, List.getD_eq_getElem?_getD, List.getElem?_eq_none (show m.length ≤ i by omega)]

theorem fn36 {H0 : Heap} {Q : Post} {cs : List Value} {vx vy : Value} {g : Game} {x y : List Frac} (hr : Has RGame H0 cs g) (hx : Has RFS H0 [vx] x) (hy : Has RFS H0 [vy] y) (hw : wGame g ≤ 1048576) (lx : x.length ≤ 1000) (ly : y.length ≤ 1000)
    (hQ : ∀ H', H0.Le H' → Q (.tuple #[.agg (frC (paRes g x y).1).toArray, .agg (frC (paRes g x y).2.1).toArray, .int .i64 (paRes g x y).2.2]) H') : Runs Tryz.prog 36 #[.agg cs.toArray, vx, vy] H0 Q := by
  classical
  obtain ⟨u1, u2, rfl, r1, r2⟩ := hasGame hr
  have hz : ∀ H c, H0.Le H → paRes g x y = (zFr, zFr, c) → Q (.tuple #[.agg (frC zFr).toArray, .agg (frC zFr).toArray, .int .i64 c]) H := fun H c l e => by
    have := hQ H l
    rw [e] at this
    exact this
  have h := (((((Loc.start H0).lent hy).lent hx).lent r2).lent r1).lent hr
  refine f36.enter ?_
  unfold f36.w
  refine Wl.box (cs := [u1, u2]) h fun H b h => Wl.new h fun H b2 h => Wl.new h fun H b3 h => ?_
  have bad : ∀ H (c : Int) {M : List (Atom H0.next)}, Ab.Loc H0 (.box b3 [.int .i64 0, .int .i64 0] :: .box b2 [.int .i64 0, .int .i64 0] :: M) H → paRes g x y = (zFr, zFr, c) → W.build [.int .i64 0, .int .i64 0] [] H fun v31 H => W.build [.int .i64 0, .int .i64 0] [] H fun v32 H => W.putN 2 (pt b2 0) v31 H fun _ H => W.putN 2 (pt b3 0) v32 H fun _ H => W.getN 2 (pt b2 0) H fun v33 H => W.getN 2 (pt b3 0) H fun v34 H => Q (.tuple #[v33, v34, .int .i64 c]) H := fun H c M h e =>
    Wi.build (cells := frC zFr) rfl (Wi.build (cells := frC zFr) rfl (Wl.putA (b := b2) h rfl rfl rfl fun H h => Wl.putA (b := b3) h rfl rfl rfl fun H h => Wl.getA (b := b2) h rfl (Wl.getA (b := b3) h rfl (hz _ _ h.le e))))
  refine Wl.getA (b := b) h rfl (Wi.call (fn96 (h.rd (cs := [u1, u2]) (x := g)) (h.rd (cs := [vx]) (r := RFS) (x := x)) (h.rd (cs := [vy]) (r := RFS) (x := y)) hw lx ly (fun hn H l => ?_) (fun hg e H l => ?_) (fun hg a da bb db e1 e2 hd H l => ?_) fun hg a da bb db e1 e2 hd he H ua ub l hua hub => ?_))
  · simp only [gw5]
    refine Wi.neqC (fun _ => Wi.tru ?_) fun q => absurd q (by decide)
    exact bad _ _ (h.to l) (by unfold paRes; rw [if_neg hn])
  · simp only [gw5]
    refine Wi.neqC (fun _ => Wi.tru ?_) fun q => absurd q (by decide)
    refine bad _ _ (h.to l) ?_
    unfold paRes
    rw [if_pos hg]
    rcases e with e | e
    · rw [e]
    · rw [e]
      cases hm : mixN x g.1.length with
      | none => rfl
      | some p => rfl
  · simp only [gw5]
    refine Wi.neqC (fun _ => Wi.tru ?_) fun q => absurd q (by decide)
    refine bad _ _ (h.to l) ?_
    unfold paRes
    rw [if_pos hg, e1, e2]
    exact if_neg fun q => by omega
  have h := h.to l
  have k1 := hg.k1
  have k4 := hg.k4
  have l4 := hg.l4
  have bl := hg.bl
  obtain ⟨al, bbl, ha, hb, d1, d2, de1, de2⟩ := pay_facts e1 e2 hd he
  have hde : B64 (da * db) := by unfold B64; omega
  have hres : paRes g x y = if (fracT (formV g.1 a bb) (da * db)).2 = 0 ∧ (fracT (formV g.2 a bb) (da * db)).2 = 0 then ((fracT (formV g.1 a bb) (da * db)).1, (fracT (formV g.2 a bb) (da * db)).1, 0) else (zFr, zFr, 3) := by
    unfold paRes
    rw [if_pos hg, e1, e2]
    exact if_pos ⟨hd, he⟩
  have f1 := form_ok hg.a rfl k4 l4 ha hb
  have f2 := form_ok hg.b bl k4 l4 ha hb
  have hI : I64 (da * db) := by unfold I64; omega
  simp only [gw5]
  refine Wi.neqC (fun q => absurd rfl q) fun _ => Wi.fls ?_
  have pre : ∀ (m : List (List Int)) (_ : ∀ r ∈ m, r.length = lw g ∧ ∀ x ∈ r, 1 ≤ x ∧ x ≤ 20) i, i ≤ 4 → (sumTo (fun i => a.getD i 0 * dot (m.getD i []) bb) i).natAbs ≤ 1000000000000 := fun m hm i hi => by
    have h1 := sumTo_abs (f := fun i => a.getD i 0 * dot (m.getD i []) bb) (n := i) (B := 30000 * 2400000) fun k _ => mul_abs (getD_abs ha k) (by
      by_cases hi : k < m.length
      · rw [getD_row hi]
        have h1 := hm _ (List.getElem_mem hi)
        have h2 := dot_abs (A := 20) (fun x hx => by have := h1.2 x hx; omega) hb
        rw [h1.1] at h2
        have h3 : lw g * (20 * 30000) ≤ 4 * (20 * 30000) := Nat.mul_le_mul_right _ l4
        omega
      · rw [List.getD_eq_getElem?_getD, List.getElem?_eq_none (by omega)]
        simp [dot, sumTo])
    have h2 : i * (30000 * 2400000) ≤ 4 * (30000 * 2400000) := Nat.mul_le_mul_right _ hi
    omega
  refine W.for_rule a.length (fun i st H' => H' = H ∧ st = (.int .i64 (sumTo (fun i => a.getD i 0 * dot (g.1.getD i []) bb) i), .int .i64 (sumTo (fun i => a.getD i 0 * dot (g.2.getD i []) bb) i), .int .i64 (i : Nat), ())) ⟨rfl, rfl⟩ ?_
  rintro i st H' J hi ⟨rfl, rfl⟩ hJ
  unfold f36.l1
  refine Wl.lenH hua (Wi.lssC (fun hlt => Wi.tru ?_) fun hge => Wi.fls ?_)
  · have hia : i < a.length := by omega
    have hik : i < g.1.length := by omega
    have hib : i < g.2.length := by omega
    have p1 := pre _ hg.a i (by omega)
    have p2 := pre _ hg.b i (by omega)
    refine W.for_rule bb.length (fun j st H2 => H2 = H' ∧ st = (.int .i64 (sumTo (fun i => a.getD i 0 * dot (g.1.getD i []) bb) i + sumTo (fun j => a.getD i 0 * bb.getD j 0 * mAt g.1 i j) j), .int .i64 (sumTo (fun i => a.getD i 0 * dot (g.2.getD i []) bb) i + sumTo (fun j => a.getD i 0 * bb.getD j 0 * mAt g.2 i j) j), .int .i64 (j : Nat), ())) ⟨rfl, by simp only [sumTo, Int.add_zero]; rfl⟩ ?_
    rintro j st H2 J2 hj ⟨rfl, rfl⟩ hJ2
    unfold f36.l2
    refine Wl.lenH hub (Wi.lssC (fun hlt2 => Wi.tru ?_) fun hge2 => Wi.fls ?_)
    · have hjb : j < bb.length := by omega
      have hj1 : j < g.1[i].length := by rw [(hg.a _ (List.getElem_mem hik)).1]; omega
      have hj2 : j < g.2[i].length := by rw [(hg.b _ (List.getElem_mem hib)).1]; omega
      have q1 := sumTo_abs (f := fun j => a.getD i 0 * bb.getD j 0 * mAt g.1 i j) (n := j) fun k _ => pay_abs hg.a ha hb i k
      have q2 := sumTo_abs (f := fun j => a.getD i 0 * bb.getD j 0 * mAt g.2 i j) (n := j) fun k _ => pay_abs hg.b ha hb i k
      have q3 : j * (30000 * 30000 * 20) ≤ 4 * (30000 * 30000 * 20) := Nat.mul_le_mul_right _ (by omega)
      have t1 := pay_abs hg.a ha hb i j
      have t2 := pay_abs hg.b ha hb i j
      have t3 := mul_abs (getD_abs ha i) (getD_abs hb j)
      have w1 : mAt g.1 i j = g.1[i][j] := by unfold mAt; rw [getD_row hik, getD_at hj1]
      have w2 : mAt g.2 i j = g.2[i][j] := by unfold mAt; rw [getD_row hib, getD_at hj2]
      have est1 : sumTo (fun j => a.getD i 0 * bb.getD j 0 * mAt g.1 i j) (j + 1) = sumTo (fun j => a.getD i 0 * bb.getD j 0 * mAt g.1 i j) j + a[i] * bb[j] * g.1[i][j] := by
        rw [← w1, ← getD_at hia, ← getD_at hjb]; rfl
      have est2 : sumTo (fun j => a.getD i 0 * bb.getD j 0 * mAt g.2 i j) (j + 1) = sumTo (fun j => a.getD i 0 * bb.getD j 0 * mAt g.2 i j) j + a[i] * bb[j] * g.2[i][j] := by
        rw [← w2, ← getD_at hia, ← getD_at hjb]; rfl
      rw [w1, getD_at hia, getD_at hjb] at t1
      rw [w2, getD_at hia, getD_at hjb] at t2
      rw [getD_at hia, getD_at hjb] at t3
      refine Wl.atIntH hua hia fun _ => Wl.atIntH hub hjb fun _ => Wi.mul (by unfold I64; omega) (Wi.fieldAddr0 (Wl.get (b := b) h rfl (Wl.at1H rfl (h.rd (cs := [u1]) (r := RSS) (x := g.1)) hik fun w hw => Wl.atIntH hw hj1 fun _ => Wi.mul (by unfold I64; omega) (Wi.add (by unfold I64; omega) ?_))))
      refine Wl.atIntH hua hia fun _ => Wl.atIntH hub hjb fun _ => Wi.mul (by unfold I64; omega) (Wi.fieldAddr (Wl.get (b := b) (o := 1) h rfl (Wl.at1H rfl (h.rd (cs := [u2]) (r := RSS) (x := g.2)) hib fun w hw => Wl.atIntH hw hj2 fun _ => Wi.mul (by unfold I64; omega) (Wi.add (by unfold I64; omega) (Wi.add (by unfold I64; omega) (hJ2 _ _ hjb ⟨rfl, ?_⟩))))))
      rw [est1, est2, ← Int.add_assoc, ← Int.add_assoc]
      rfl
    · have hjb : j = bb.length := by omega
      subst hjb
      rw [bbl, pay_sum (k := g.1.length) hg.a hik, pay_sum (k := g.1.length) hg.b hib]
      exact Wi.add (by unfold I64; omega) (hJ _ _ hia ⟨rfl, rfl⟩)
  · have hia : i = a.length := by omega
    subst hia
    have v1 : sumTo (fun i => a.getD i 0 * dot (g.1.getD i []) bb) a.length = formV g.1 a bb := by unfold formV; rw [al]
    have v2 : sumTo (fun i => a.getD i 0 * dot (g.2.getD i []) bb) a.length = formV g.2 a bb := by unfold formV; rw [al, bl]
    rw [v1, v2]
    refine Wi.mul hI (Wi.call (fn102 (by unfold B64; omega) hde (by omega) fun H l => Wi.call (told_frac2 fun H2 l2 => ?_)))
    have h := h.to (l.trans l2)
    simp only [gw]
    refine Wl.new h fun H b53 h => Wl.putA (b := b53) (i := 0) h rfl rfl rfl fun H h => ?_
    refine Wi.mul hI (Wi.call (fn102 (by unfold B64; omega) hde (by omega) fun H l => Wi.call (told_frac2 fun H2 l2 => ?_)))
    have h := h.to (l.trans l2)
    simp only [gw]
    refine Wl.new h fun H b59 h => Wl.putA (b := b59) (i := 0) h rfl rfl rfl fun H h => ?_
    have h : Ab.Loc H0 [.box b59 (frC (fracT (formV g.2 a bb) (da * db)).1), .box b53 (frC (fracT (formV g.1 a bb) (da * db)).1), .box b3 [.int .i64 0, .int .i64 0], .box b2 [.int .i64 0, .int .i64 0], .box b [u1, u2], .lent RGame [u1, u2] g, .lent RSS [u1] g.1, .lent RSS [u2] g.2, .lent RFS [vx] x, .lent RFS [vy] y] H := h
    rcases fracT_two (formV g.1 a bb) (da * db) with c1 | c1
    rotate_left
    · rw [c1] at hres
      rw [show (fracT (formV g.1 a bb) (da * db)).2 = 3 by rw [c1]]
      refine Wi.neqC (fun _ => ?_) fun q => absurd q (by decide)
      simp only [gw]
      exact bad _ _ h.tl.tl (by rw [hres]; exact if_neg fun q => absurd q.1 (by decide))
    rw [c1]
    refine Wi.neqC (fun q => absurd rfl q) fun _ => ?_
    simp only [gw]
    rcases fracT_two (formV g.2 a bb) (da * db) with c2 | c2
    rotate_left
    · rw [c2] at hres
      rw [show (fracT (formV g.2 a bb) (da * db)).2 = 3 by rw [c2]]
      refine Wi.neqC (fun _ => ?_) fun q => absurd q (by decide)
      simp only [gw]
      exact bad _ _ h.tl.tl (by rw [hres]; exact if_neg fun q => absurd q.2 (by decide))
    rw [c2]
    rw [if_pos ⟨c1, c2⟩] at hres
    refine Wi.neqC (fun q => absurd rfl q) fun _ => ?_
    simp only [gw]
    refine Wl.getA (b := b53) h rfl (Wl.getA (b := b59) h rfl (Wl.putA (b := b2) (i := 3) h rfl rfl rfl fun H h => Wi.chk (Wl.getA (b := b59) h rfl ⟨rfl, rfl⟩) (Wl.putA (b := b3) (i := 2) h rfl rfl rfl fun H h => Wl.getA (b := b2) h rfl (Wl.getA (b := b3) h rfl ?_))))
    have := hQ _ h.le
    rw [hres] at this
    exact this

end Go.Proofs.YtbcfknboheghkaaGreat
