/- The contract of the program's copied. No condition. -/
import Derived.Test.YtgdiebnokgnniaaGreatDoorGAB
import Derived.Test.YtgdiebnokgnniaaGreatDoorGAA
import Derived.Test.YtgdiebnokgnniaaGreatDoorGVV
import Derived.Test.YtgdiebnokgnniaaGreatDoorZabG8
import Derived.Test.YtgdiebnokgnniaaGreatDoorGZP
import Derived.Test.YtgdiebnokgnniaaGreatDoorA1
import Derived.Test.YtgdiebnokgnniaaGreatDoorZabG9
namespace Go.Proofs.YtgdiebnokgnniaaGreatDoor
open Go.Ab

/- (loop.example/g01343/impl.Problem).copied -/
def f64.w (Q : Post) (p_0 : Value) (H : Heap) : Prop :=
  W.box p_0 27 H fun v1 H =>
  W.new [(.slice none 0 0), (.slice none 0 0)] 27 H fun v2 H =>
  W.fieldAddr 0 v1 H fun v3 H =>
  W.get v3 H fun v4 H =>
  W.callQ Tryz.prog (.func (.func 83) #[] #[]) #[v4] H fun v5 H =>
  W.fieldAddr 1 v1 H fun v6 H =>
  W.get v6 H fun v7 H =>
  W.callQ Tryz.prog (.func (.func 112) #[] #[]) #[v7] H fun v8 H =>
  W.build [(.slice none 0 0), (.slice none 0 0)] [(0, 1, v5), (1, 1, v8)] H fun v9 H =>
  W.putN 2 v2 v9 H fun _ H =>
  W.getN 2 v2 H fun v10 H => Q v10 H
theorem f64.enter {Q : Post} {p_0 : Value} {H : Heap} (h : f64.w Q p_0 H) : Runs Tryz.prog 64 #[p_0] H Q :=
  fn_enter (ann := []) (by kernel_rfl) Tryz.func64 rfl (by kernel_rfl) h (by kernel_rfl)


theorem fn64 {H0 : Heap} {Q : Post} {cs : List Value} {p : Prob} (hr : Has RProblem H0 cs p) (hm : okRows p.1) (hq : p.2.length ≤ 1048576) (hQ : ∀ H' w1 w2, Fresh RProblem H0 [w1, w2] p H' → Q (.agg #[w1, w2]) H') :
    Runs Tryz.prog 64 #[.agg cs.toArray] H0 Q := by
  obtain ⟨u1, u2, rfl, r1, r2⟩ := hasProb hr
  refine f64.enter ?_
  unfold f64.w
  have h := ((Loc.start H0).lent r1).lent r2
  refine Wl.box h fun H b h => Wl.new h fun H b2 h => Wi.fieldAddr0 (Wl.get h rfl (Wi.callQ (fn83 h.rd hm fun H w1 f1 => ⟨f1.le, ?_⟩)))
  have h := h.add f1.fresh
  refine Wi.fieldAddr0 (Wl.get h rfl (Wi.callQ (fn112 h.rd (by omega) fun H w2 f2 => ⟨f2.le, ?_⟩)))
  have h := h.add f2.fresh
  have c1 := f1.fresh.read.one
  have c2 := f2.fresh.read.one
  refine Wi.build (cells := [w1, w2]) (by simp [fillA, c1, c2]) (Wl.putA h rfl rfl ?_ fun H h => Wl.getA h rfl (hQ _ _ _ (h.ret2 (i := 1) (j := 0) rfl rfl (by omega))))
  have k1 := f1.fresh.read.cell
  have k2 := f2.fresh.read.cell
  simp only [List.all_cons, List.all_nil, Bool.and_true] at k1 k2 ⊢
  rw [k1, k2]
  rfl

end Go.Proofs.YtgdiebnokgnniaaGreatDoor
/-! The contract of the reference's l01Copy. No condition. -/
namespace Go.Proofs.YtgdiebnokgnniaaGreatDoor
open Go.Ab

/- loop.example/g01343/spec.l01Copy -/
def f66.l1 (Q : Post) (v1 : Value) (v8 : Value) (v2 : Value) (I1 : St [4] → Heap → Prop) (i_4 : Value) (H : Heap) : Prop :=
  W.fieldAddr 0 v1 H fun v9 H =>
  W.get v9 H fun v10 H =>
  W.len v10 H fun v11 H =>
  W.bin .lss i_4 v11 H fun v12 H =>
  W.cond v12 H
  (fun H => W.fieldAddr 0 v8 H fun v13 H =>
   W.get v13 H fun v14 H =>
   W.fieldAddr 0 v1 H fun v15 H =>
   W.get v15 H fun v16 H =>
   W.indexAddr 1 v16 i_4 H fun v17 H =>
   W.get v17 H fun v18 H =>
   W.callQ Tryz.prog (.func (.func 94) #[] #[]) #[v18] H fun v19 H =>
   W.lit 1 [(.slice none 0 0)] 25 [(0, 1, v19)] H fun v20 H =>
   W.append 1 25 v14 v20 H fun v21 H =>
   W.fieldAddr 0 v8 H fun v22 H =>
   W.put v22 v21 H fun _ H =>
   W.bin .add i_4 (.int .i64 1) H fun v23 H =>
   I1 (v23, ()) H)
  (fun H => W.getN 2 v8 H fun v24 H =>
   W.putN 2 v2 v24 H fun _ H =>
   W.getN 2 v2 H fun v25 H => Q v25 H)
def f66.w (Q : Post) (p_0 : Value) (H : Heap) : Prop :=
  W.box p_0 27 H fun v1 H =>
  W.new [(.slice none 0 0), (.slice none 0 0)] 27 H fun v2 H =>
  W.lit 0 [(.slice none 0 0)] 25 [] H fun v3 H =>
  W.fieldAddr 1 v1 H fun v4 H =>
  W.get v4 H fun v5 H =>
  W.call Tryz.prog (.func (.func 94) #[] #[]) #[v5] H fun v6 H =>
  W.build [(.slice none 0 0), (.slice none 0 0)] [(0, 1, v3), (1, 1, v6)] H fun v7 H =>
  W.new [(.slice none 0 0), (.slice none 0 0)] 27 H fun v8 H =>
  W.putN 2 v8 v7 H fun _ H =>
  W.loop (S := St [4]) (fun I1 s H => f66.l1 Q v1 v8 v2 I1 s.1 H) ((.int .i64 0), ()) H
theorem f66.enter {Q : Post} {p_0 : Value} {H : Heap} (h : f66.w Q p_0 H) : Runs Tryz.prog 66 #[p_0] H Q :=
  fn_enter (ann := [(3, [4])]) (by kernel_rfl) Tryz.func66 rfl (by kernel_rfl) h (by kernel_rfl)


theorem fn66 {H0 : Heap} {Q : Post} {cs : List Value} {p : Prob} (hr : Has RProblem H0 cs p) (hm : okRows p.1) (hq : p.2.length ≤ 1048576) (hQ : ∀ H' w1 w2, Fresh RProblem H0 [w1, w2] p H' → Q (.agg #[w1, w2]) H') :
    Runs Tryz.prog 66 #[.agg cs.toArray] H0 Q := by
  obtain ⟨u1, u2, rfl, r1, r2⟩ := hasProb hr
  have := hm.1
  refine f66.enter ?_
  unfold f66.w
  have h := ((Loc.start H0).lent r1).lent r2
  refine Wl.box h fun H b h => Wl.new h fun H b2 h => Wl.lit0 RS rfl h fun H g h => Wi.fieldAddr0 (Wl.get h rfl (Wi.call (fn94 h.rd (by omega) fun H w2 f2 => ?_)))
  have h := h.add f2.fresh
  have c1 := (h.rd (cs := [g])).one
  have c2 := f2.fresh.read.one
  have k2 := f2.fresh.read.cell
  refine Wi.build (cells := [g, w2]) (by simp [fillA, c1, c2]) ?_
  have kall : ∀ (u : Value) (H : Heap), Has RSS H [u] (p.1.take 0) ∨ (∃ i, Has RSS H [u] (p.1.take i)) → [u, w2].all isCell = true := fun u H hu => by
    have k1 : [u].all isCell = true := by
      rcases hu with hu | ⟨i, hu⟩
      · exact hu.cell
      · exact hu.cell
    simp only [List.all_cons, List.all_nil, Bool.and_true] at k1 k2 ⊢
    rw [k1, k2]
    rfl
  refine Wl.new h fun H b3 h => Wl.putA h rfl rfl (kall _ H (.inl h.rd)) fun H h => ?_
  refine W.for_rule p.1.length (fun i s H => ∃ u, s = (.int .i64 (i : Nat), ()) ∧ Ab.Loc H0 [.box b3 [u, w2], .data RS [w2] p.2, .grow RS 25 u (p.1.take i), .box b2 [.slice none 0 0, .slice none 0 0], .box b [u1, u2], .lent RS [u2] p.2, .lent RSS [u1] p.1] H) ⟨_, rfl, h⟩ ?_
  rintro i s H J hi ⟨u, rfl, h⟩ hJ
  refine Wi.fieldAddr0 (Wl.get h rfl (Wl.len h (Wi.lssC (fun hlt => Wi.tru ?_) fun hge => Wi.fls ?_)))
  · have hix : i < p.1.length := by omega
    refine Wi.fieldAddr0 (Wl.get h rfl (Wi.fieldAddr0 (Wl.get h rfl (Wl.at1 rfl h hix fun w hw => Wi.callQ (fn94 hw (by have := hm.2 _ (List.getElem_mem hix); omega) fun H2 u2' f => ⟨f.le, ?_⟩)))))
    refine Wl.pushF rfl h f.fresh f.fresh.read.one (by simp; omega) fun H3 v' h => Wi.fieldAddr0 (Wl.put h (h.rd (cs := [v'])).cell1 (by simp) fun H h => Wi.add (by unfold I64; omega) (hJ _ _ hix ⟨v', rfl, ?_⟩))
    rw [List.take_succ_eq_append_getElem hix]
    exact h
  · have : i = p.1.length := by omega
    subst this
    rw [List.take_length] at h
    have k1 := h.rd (cs := [u])
    refine Wl.getA h rfl (Wl.putA h rfl rfl (kall _ H (.inr ⟨p.1.length, by rw [List.take_length]; exact k1⟩)) fun H h => Wl.getA h rfl (hQ _ _ _ ?_))
    exact (h.asData (i := 2) rfl).ret2 (i := 2) (j := 1) rfl rfl (by omega)

end Go.Proofs.YtgdiebnokgnniaaGreatDoor

/-! Contracts of ScaleRow, the program's and the reference's. No condition. -/
namespace Go.Proofs.YtgdiebnokgnniaaGreatDoor
open Go.Ab

/- loop.example/g01343/impl.ScaleRow -/
def f22.l1 (Q : Post) (v33 : Value) (v22 : Value) (i_1 : Value) (k_2 : Value) (v2 : Value) (I1 : St [43] → Heap → Prop) (x_43 : Value) (H : Heap) : Prop :=
  W.bin .lss x_43 v33 H fun v34 H =>
  W.cond v34 H
  (fun H => W.fieldAddr 0 v22 H fun v35 H =>
   W.get v35 H fun v36 H =>
   W.indexAddr 1 v36 i_1 H fun v37 H =>
   W.get v37 H fun v38 H =>
   W.indexAddr 1 v38 x_43 H fun v39 H =>
   W.get v39 H fun v40 H =>
   W.bin .mul v40 k_2 H fun v41 H =>
   W.indexAddr 1 v38 x_43 H fun v42 H =>
   W.put v42 v41 H fun _ H =>
   W.bin .add x_43 (.int .i64 1) H fun v43 H =>
   I1 (v43, ()) H)
  (fun H => W.getN 2 v22 H fun v44 H =>
   W.call Tryz.prog (.func (.func 69) #[] #[]) #[v44] H fun v45 H =>
   W.extract 0 v45 H fun v46 H =>
   W.extract 1 v45 H fun v47 H =>
   W.putN 2 v2 v46 H fun _ H =>
   W.getN 2 v2 H fun v48 H => Q (.tuple #[v48, v47]) H)
def f22.w (Q : Post) (p_0 : Value) (i_1 : Value) (k_2 : Value) (H : Heap) : Prop :=
  W.box p_0 27 H fun v1 H =>
  W.new [(.slice none 0 0), (.slice none 0 0)] 27 H fun v2 H =>
  W.getN 2 v1 H fun v3 H =>
  W.call Tryz.prog (.func (.func 11) #[] #[]) #[v3] H fun v4 H =>
  W.un .not v4 H fun v5 H =>
  W.cond v5 H
  (fun H => W.build [(.slice none 0 0), (.slice none 0 0)] [] H fun v6 H =>
   W.putN 2 v2 v6 H fun _ H =>
   W.getN 2 v2 H fun v7 H => Q (.tuple #[v7, (.int .i64 1)]) H)
  (fun H => W.fieldAddr 1 v1 H fun v8 H =>
   W.get v8 H fun v9 H =>
   W.len v9 H fun v10 H =>
   W.bin .sub v10 (.int .i64 1) H fun v11 H =>
   W.call Tryz.prog (.func (.func 68) #[] #[]) #[i_1, (.int .i64 0), v11] H fun v12 H =>
   W.un .not v12 H fun v13 H =>
   W.guarded v13 false (fun H k => k k_2 H) H fun v14 H =>
   W.guarded v13 false (fun H k => W.call Tryz.prog (.func (.func 68) #[] #[]) #[v14, (.int .i64 1), (.int .i64 100)] H k) H fun v15 H =>
   W.guarded v13 false (fun H k => W.un .not v15 H k) H fun v16 H =>
   W.pick v13 (.bool true) v16 H fun v17 H =>
   W.cond v17 H
   (fun H => W.build [(.slice none 0 0), (.slice none 0 0)] [] H fun v18 H =>
    W.putN 2 v2 v18 H fun _ H =>
    W.getN 2 v2 H fun v19 H => Q (.tuple #[v19, (.int .i64 2)]) H)
   (fun H => W.getN 2 v1 H fun v20 H =>
    W.call Tryz.prog (.func (.func 64) #[] #[]) #[v20] H fun v21 H =>
    W.new [(.slice none 0 0), (.slice none 0 0)] 27 H fun v22 H =>
    W.putN 2 v22 v21 H fun _ H =>
    W.fieldAddr 1 v22 H fun v23 H =>
    W.get v23 H fun v24 H =>
    W.indexAddr 1 v24 i_1 H fun v25 H =>
    W.get v25 H fun v26 H =>
    W.bin .mul v26 k_2 H fun v27 H =>
    W.indexAddr 1 v24 i_1 H fun v28 H =>
    W.put v28 v27 H fun _ H =>
    W.fieldAddr 0 v22 H fun v29 H =>
    W.get v29 H fun v30 H =>
    W.indexAddr 1 v30 i_1 H fun v31 H =>
    W.get v31 H fun v32 H =>
    W.len v32 H fun v33 H =>
    W.loop (S := St [43]) (fun I1 s H => f22.l1 Q v33 v22 i_1 k_2 v2 I1 s.1 H) ((.int .i64 0), ()) H))
theorem f22.enter {Q : Post} {p_0 : Value} {i_1 : Value} {k_2 : Value} {H : Heap} (h : f22.w Q p_0 i_1 k_2 H) : Runs Tryz.prog 22 #[p_0, i_1, k_2] H Q :=
  fn_enter (ann := [(8, [43])]) (by kernel_rfl) Tryz.func22 rfl (by kernel_rfl) h (by kernel_rfl)

/- loop.example/g01343/impl.limited -/
def f69.w (Q : Post) (p_0 : Value) (H : Heap) : Prop :=
  W.box p_0 27 H fun v1 H =>
  W.new [(.slice none 0 0), (.slice none 0 0)] 27 H fun v2 H =>
  W.getN 2 v1 H fun v3 H =>
  W.call Tryz.prog (.func (.func 11) #[] #[]) #[v3] H fun v4 H =>
  W.un .not v4 H fun v5 H =>
  W.cond v5 H
  (fun H => W.build [(.slice none 0 0), (.slice none 0 0)] [] H fun v6 H =>
   W.putN 2 v2 v6 H fun _ H =>
   W.getN 2 v2 H fun v7 H => Q (.tuple #[v7, (.int .i64 3)]) H)
  (fun H => W.getN 2 v1 H fun v8 H =>
   W.putN 2 v2 v8 H fun _ H =>
   W.getN 2 v2 H fun v9 H => Q (.tuple #[v9, (.int .i64 0)]) H)
theorem f69.enter {Q : Post} {p_0 : Value} {H : Heap} (h : f69.w Q p_0 H) : Runs Tryz.prog 69 #[p_0] H Q :=
  fn_enter (ann := []) (by kernel_rfl) Tryz.func69 rfl (by kernel_rfl) h (by kernel_rfl)

/- loop.example/g01343/spec.ScaleRow -/
def f23.l1 (Q : Post) (v26 : Value) (k_2 : Value) (v22 : Value) (i_1 : Value) (v2 : Value) (I1 : St [10] → Heap → Prop) (j_10 : Value) (H : Heap) : Prop :=
  W.len v26 H fun v27 H =>
  W.bin .lss j_10 v27 H fun v28 H =>
  W.cond v28 H
  (fun H => W.indexAddr 1 v26 j_10 H fun v29 H =>
   W.get v29 H fun v30 H =>
   W.bin .mul k_2 v30 H fun v31 H =>
   W.indexAddr 1 v26 j_10 H fun v32 H =>
   W.put v32 v31 H fun _ H =>
   W.bin .add j_10 (.int .i64 1) H fun v33 H =>
   I1 (v33, ()) H)
  (fun H => W.fieldAddr 1 v22 H fun v34 H =>
   W.get v34 H fun v35 H =>
   W.fieldAddr 1 v22 H fun v36 H =>
   W.get v36 H fun v37 H =>
   W.indexAddr 1 v37 i_1 H fun v38 H =>
   W.get v38 H fun v39 H =>
   W.bin .mul k_2 v39 H fun v40 H =>
   W.indexAddr 1 v35 i_1 H fun v41 H =>
   W.put v41 v40 H fun _ H =>
   W.getN 2 v22 H fun v42 H =>
   W.call Tryz.prog (.func (.func 47) #[] #[]) #[v42] H fun v43 H =>
   W.un .not v43 H fun v44 H =>
   W.cond v44 H
   (fun H => W.build [(.slice none 0 0), (.slice none 0 0)] [] H fun v45 H =>
    W.putN 2 v2 v45 H fun _ H =>
    W.getN 2 v2 H fun v46 H => Q (.tuple #[v46, (.int .i64 3)]) H)
   (fun H => W.getN 2 v22 H fun v47 H =>
    W.putN 2 v2 v47 H fun _ H =>
    W.getN 2 v2 H fun v48 H => Q (.tuple #[v48, (.int .i64 0)]) H))
def f23.w (Q : Post) (p_0 : Value) (i_1 : Value) (k_2 : Value) (H : Heap) : Prop :=
  W.box p_0 27 H fun v1 H =>
  W.new [(.slice none 0 0), (.slice none 0 0)] 27 H fun v2 H =>
  W.getN 2 v1 H fun v3 H =>
  W.call Tryz.prog (.func (.func 47) #[] #[]) #[v3] H fun v4 H =>
  W.un .not v4 H fun v5 H =>
  W.cond v5 H
  (fun H => W.build [(.slice none 0 0), (.slice none 0 0)] [] H fun v6 H =>
   W.putN 2 v2 v6 H fun _ H =>
   W.getN 2 v2 H fun v7 H => Q (.tuple #[v7, (.int .i64 1)]) H)
  (fun H => W.fieldAddr 1 v1 H fun v8 H =>
   W.get v8 H fun v9 H =>
   W.len v9 H fun v10 H =>
   W.bin .sub v10 (.int .i64 1) H fun v11 H =>
   W.call Tryz.prog (.func (.func 70) #[] #[]) #[i_1, (.int .i64 0), v11] H fun v12 H =>
   W.un .not v12 H fun v13 H =>
   W.guarded v13 false (fun H k => k k_2 H) H fun v14 H =>
   W.guarded v13 false (fun H k => W.call Tryz.prog (.func (.func 70) #[] #[]) #[v14, (.int .i64 1), (.int .i64 100)] H k) H fun v15 H =>
   W.guarded v13 false (fun H k => W.un .not v15 H k) H fun v16 H =>
   W.pick v13 (.bool true) v16 H fun v17 H =>
   W.cond v17 H
   (fun H => W.build [(.slice none 0 0), (.slice none 0 0)] [] H fun v18 H =>
    W.putN 2 v2 v18 H fun _ H =>
    W.getN 2 v2 H fun v19 H => Q (.tuple #[v19, (.int .i64 2)]) H)
   (fun H => W.getN 2 v1 H fun v20 H =>
    W.call Tryz.prog (.func (.func 66) #[] #[]) #[v20] H fun v21 H =>
    W.new [(.slice none 0 0), (.slice none 0 0)] 27 H fun v22 H =>
    W.putN 2 v22 v21 H fun _ H =>
    W.fieldAddr 0 v22 H fun v23 H =>
    W.get v23 H fun v24 H =>
    W.indexAddr 1 v24 i_1 H fun v25 H =>
    W.get v25 H fun v26 H =>
    W.loop (S := St [10]) (fun I1 s H => f23.l1 Q v26 k_2 v22 i_1 v2 I1 s.1 H) ((.int .i64 0), ()) H))
theorem f23.enter {Q : Post} {p_0 : Value} {i_1 : Value} {k_2 : Value} {H : Heap} (h : f23.w Q p_0 i_1 k_2 H) : Runs Tryz.prog 23 #[p_0, i_1, k_2] H Q :=
  fn_enter (ann := [(8, [10])]) (by kernel_rfl) Tryz.func23 rfl (by kernel_rfl) h (by kernel_rfl)


/-- A row whose first x numbers are scaled. -/
def sTo (k : Int) (row : List Int) (x : Nat) : List Int := (row.take x).map (· * k) ++ row.drop x

theorem sTo_length (k : Int) (row : List Int) (x : Nat) : (sTo k row x).length = row.length := by
  simp [sTo]
  omega
theorem sTo_zero (k : Int) (row : List Int) : sTo k row 0 = row := by simp [sTo]
theorem sTo_all (k : Int) (row : List Int) : sTo k row row.length = row.map (· * k) := by simp [sTo]
theorem sTo_get {k : Int} {row : List Int} {x : Nat} (h : x < row.length) : (sTo k row x)[x]'(by rw [sTo_length]; exact h) = row[x] := by
  have h1 : ((row.take x).map (· * k)).length = x := by simp; omega
  have h2 : x < ((row.take x).map (· * k) ++ row.drop x).length := by simp; omega
  have : ((row.take x).map (· * k) ++ row.drop x)[x]'h2 = row[x] := by
    rw [List.getElem_append_right (by omega)]
    simp
    congr 1
    omega
  exact this
theorem sTo_succ {k : Int} {row : List Int} {x : Nat} (h : x < row.length) : (sTo k row x).set x (row[x] * k) = sTo k row (x + 1) := by
  have h1 : ((row.take x).map (· * k)).length = x := by simp; omega
  unfold sTo
  rw [List.set_append_right _ _ (by omega), h1, Nat.sub_self, List.drop_eq_getElem_cons h, List.set_cons_zero, List.take_succ_eq_append_getElem h, List.map_append, List.append_assoc]
  rfl

def scl (p : Prob) (i : Nat) (k : Int) : Prob := (p.1.set i ((p.1.getD i []).map (· * k)), p.2.set i (p.2.getD i 0 * k))

def scRes (p : Prob) (i k : Int) : Prob × Int :=
  if isProb p = true then (if inR 0 (p.2.length - 1) i = true ∧ inR 1 100 k = true then (if isProb (scl p i.toNat k) = true then (scl p i.toNat k, 0) else (([], []), 3)) else (([], []), 2)) else (([], []), 1)

theorem mul_in {a k : Int} (ha : -100 ≤ a ∧ a ≤ 100) (hk : 1 ≤ k ∧ k ≤ 100) : I64 (a * k) ∧ I64 (k * a) := by
  have h : (a * k).natAbs ≤ 100 * 100 := by rw [Int.natAbs_mul]; exact Nat.mul_le_mul (by omega) (by omega)
  rw [Int.mul_comm k a]
  unfold I64
  omega

theorem fn69 {H0 : Heap} {Q : Post} {cs : List Value} {p : Prob} (hr : Has RProblem H0 cs p) (h1 : isProb p = true → ∀ H', H0.Le H' → Q (.tuple #[.agg cs.toArray, .int .i64 0]) H')
    (h2 : ¬ isProb p = true → ∀ H', H0.Le H' → Q (.tuple #[.agg #[.slice none 0 0, .slice none 0 0], .int .i64 3]) H') : Runs Tryz.prog 69 #[.agg cs.toArray] H0 Q := by
  obtain ⟨u1, u2, rfl, r1, r2⟩ := hasProb hr
  refine f69.enter ?_
  unfold f69.w
  have kc := hr.cell
  have h := (Loc.start H0).lent hr
  refine Wl.box h fun H b h => Wl.new h fun H b2 h => Wl.getA (b := b) h rfl ?_
  obtain ⟨_, q⟩ := h.rd (cs := [u1, u2])
  refine Wi.call (fn11 q fun H hle => ?_)
  have h := h.to hle
  cases hb : isProb p with
  | false =>
    simp only [gw]
    exact Wi.build (cells := [.slice none 0 0, .slice none 0 0]) rfl (Wl.putA (b := b2) (i := 0) h rfl rfl rfl fun H h => Wl.getA (b := b2) h rfl (h2 (by rw [hb]; decide) _ h.le))
  | true =>
    simp only [gw]
    exact Wl.getA (b := b) h rfl (Wl.putA (b := b2) (i := 0) h rfl rfl kc fun H h => Wl.getA (b := b2) h rfl (h1 hb _ h.le))

theorem fn22 {H0 : Heap} {Q : Post} {cs : List Value} {p : Prob} {i k : Int} (hr : Has RProblem H0 cs p)
    (hQ : ∀ H' w1 w2, Fresh RProblem H0 [w1, w2] (scRes p i k).1 H' → Q (.tuple #[.agg #[w1, w2], .int .i64 (scRes p i k).2]) H') : Runs Tryz.prog 22 #[.agg cs.toArray, .int .i64 i, .int .i64 k] H0 Q := by
  obtain ⟨u1, u2, rfl, r1, r2⟩ := hasProb hr
  have bad : ∀ H c, H0.Le H → scRes p i k = (([], []), c) → Q (.tuple #[.agg #[.slice none 0 0, .slice none 0 0], .int .i64 c]) H := fun H c l e => by
    have := hQ H (.slice none 0 0) (.slice none 0 0) (by rw [e]; exact fresh_nil2 (r := RS) (s := Rd.int) l)
    rw [e] at this
    exact this
  refine f22.enter ?_
  unfold f22.w
  have h := (((Loc.start H0).lent r1).lent r2).lent hr
  refine Wl.box h fun H b h => Wl.new h fun H b2 h => Wl.getA h rfl ?_
  obtain ⟨_, q⟩ := h.rd (cs := [u1, u2])
  refine Wi.call (fn11 q fun H hle => ?_)
  have h := h.to hle
  cases hb : isProb p with
  | false =>
    simp only [gw]
    exact Wi.build (cells := [.slice none 0 0, .slice none 0 0]) rfl (Wl.putA (b := b2) h rfl rfl rfl fun H h => Wl.getA (b := b2) h rfl (bad _ _ h.le (by unfold scRes; rw [if_neg (by rw [hb]; decide)])))
  | true =>
  obtain ⟨ok1, ok2, ok3, ok4, ok5, ok6⟩ := isProb_rows hb
  simp only [gw]
  have nope : ∀ H, Ab.Loc H0 [.box b2 [.slice none 0 0, .slice none 0 0], .box b [u1, u2], .lent RProblem [u1, u2] p, .lent RS [u2] p.2, .lent RSS [u1] p.1] H → ¬ (inR 0 ((p.2.length : Nat) - 1) i = true ∧ inR 1 100 k = true) →
      W.build [.slice none 0 0, .slice none 0 0] [] H fun v18 H => W.putN 2 (pt b2 0) v18 H fun _ H => W.getN 2 (pt b2 0) H fun v19 H => Q (.tuple #[v19, .int .i64 2]) H := fun H h g =>
    Wi.build (cells := [.slice none 0 0, .slice none 0 0]) rfl (Wl.putA (b := b2) h rfl rfl rfl fun H h => Wl.getA (b := b2) h rfl (bad _ _ h.le (by unfold scRes; rw [if_pos hb, if_neg g])))
  refine Wi.fieldAddr (Wl.get (b := b) h rfl (Wl.len (v := u2) (xs := p.2) h (Wi.sub (by unfold I64; omega) (Wi.call (fn68 ?_)))))
  cases hi : inR 0 ((p.2.length : Nat) - 1) i with
  | false =>
    simp only [gw]
    exact nope _ h (fun g => by rw [hi] at g; cases g.1)
  | true =>
  simp only [gw]
  refine Wi.call (fn68 ?_)
  cases hk : inR 1 100 k with
  | false =>
    simp only [gw]
    exact nope _ h (fun g => by rw [hk] at g; cases g.2)
  | true =>
  simp only [gw]
  have hi2 := inR_iff.1 hi
  have hk2 := inR_iff.1 hk
  obtain ⟨a, rfl⟩ : ∃ a : Nat, i = (a : Int) := ⟨i.toNat, by omega⟩
  have ha1 : a < p.1.length := by omega
  have ha2 : a < p.2.length := by omega
  refine Wl.getA (b := b) h rfl (Wi.call (fn64 (h.rd (cs := [u1, u2])) ⟨by omega, fun r hr => by have := (ok5 r hr).1; omega⟩ (by omega) fun H w1 w2 f => ?_))
  have kc := f.read.cell
  have h := h.add2 (c1 := [w1]) (c2 := [w2]) rfl f
  refine Wl.new h fun H b3 h => Wl.putA h rfl rfl kc fun H h => ?_
  obtain ⟨us, hus, h⟩ := h.heads (i := 1) rfl rfl
  have h : Ab.Loc H0 [.box b3 [w1, w2], .rows RS w1 us p.1, .data RS [w2] p.2, .box b2 [.slice none 0 0, .slice none 0 0], .box b [u1, u2], .lent RProblem [u1, u2] p, .lent RS [u2] p.2, .lent RSS [u1] p.1] H := h
  have hm2 := (mul_in (ok6 _ (List.getElem_mem ha2)) hk2).1
  refine Wi.fieldAddr (Wl.get (b := b3) h rfl (Wl.atInt (v := w2) (xs := p.2) h ha2 fun _ => Wi.mul hm2 (Wl.setInt (v := w2) (j := 2) h ha2 hm2 fun H h => ?_)))
  have hrow := ok5 _ (List.getElem_mem ha1)
  refine Wi.fieldAddr0 (Wl.get (b := b3) h rfl (Wl.atRow rfl h ha1 fun u hu hur => Wl.lenH hur ?_))
  have hst0 : p.1.set a (sTo k p.1[a] 0) = p.1 := by rw [sTo_zero]; exact List.set_getElem_self _
  refine W.for_rule p.1[a].length (fun x s H => s = (.int .i64 (x : Nat), ()) ∧ Ab.Loc H0 [.box b3 [w1, w2], .rows RS w1 us (p.1.set a (sTo k p.1[a] x)), .data RS [w2] (p.2.set a (p.2[a] * k)), .box b2 [.slice none 0 0, .slice none 0 0], .box b [u1, u2], .lent RProblem [u1, u2] p, .lent RS [u2] p.2, .lent RSS [u1] p.1] H) ⟨rfl, by rw [hst0]; exact h⟩ ?_
  rintro x s H J hx ⟨rfl, h⟩ hJ
  refine Wi.lssC (fun hlt => Wi.tru ?_) fun hge => Wi.fls ?_
  · have hxl : x < p.1[a].length := by omega
    have ha3 : a < (p.1.set a (sTo k p.1[a] x)).length := by rw [List.length_set]; exact ha1
    have eS : (p.1.set a (sTo k p.1[a] x))[a] = sTo k p.1[a] x := by simp
    have hx1 := hrow.2 _ (List.getElem_mem hxl)
    have hm1 := (mul_in (a := p.1[a][x]) ⟨by omega, by omega⟩ hk2).1
    refine Wi.fieldAddr0 (Wl.get (b := b3) h rfl (Wl.atRow rfl h ha3 fun u hu hur => Wl.atIntH hur (by rw [eS, sTo_length]; exact hxl) fun _ => ?_))
    have e3 : (p.1.set a (sTo k p.1[a] x))[a][x]'(by rw [eS, sTo_length]; exact hxl) = p.1[a][x] := by
      simp only [eS]
      exact sTo_get hxl
    rw [e3]
    refine Wi.mul hm1 (Wl.rowSet h (j := 1) rfl hu ha3 (by rw [eS, sTo_length]; exact hxl) hm1 fun H h => Wi.add (by unfold I64; omega) (hJ _ _ hxl ⟨rfl, ?_⟩))
    rw [eS, List.set_set, sTo_succ hxl] at h
    exact h
  · have : x = p.1[a].length := by omega
    subst this
    rw [sTo_all] at h
    have h := (h.unrows (i := 1) rfl).pair (i := 1) (j := 2) rfl rfl (by decide)
    have e8 : (p.1.set a (p.1[a].map (· * k)), p.2.set a (p.2[a] * k)) = scl p a k := by
      simp [scl, List.getD_eq_getElem?_getD, List.getElem?_eq_getElem ha1, List.getElem?_eq_getElem ha2]
    rw [e8] at h
    have h : Ab.Loc H0 [.box b3 [w1, w2], .data RProblem [w1, w2] (scl p a k), .emp, .box b2 [.slice none 0 0, .slice none 0 0], .box b [u1, u2], .lent RProblem [u1, u2] p, .lent RS [u2] p.2, .lent RSS [u1] p.1] H := h
    refine Wl.getA (b := b3) h rfl (Wi.call (fn69 (h.rd (cs := [w1, w2])) (fun hp H l => ?_) fun hp H l => ?_))
    · have h := h.to l
      have e : scRes p a k = (scl p a k, 0) := by unfold scRes; rw [if_pos hb, if_pos ⟨hi, hk⟩, Int.toNat_natCast, if_pos hp]
      simp only [gw]
      refine Wl.putA (b := b2) (i := 3) h rfl rfl kc fun H h => Wl.getA (b := b2) h rfl ?_
      have := hQ H w1 w2 (by rw [e]; exact h.ret (i := 1) rfl)
      rw [e] at this
      exact this
    · have h := h.to l
      simp only [gw]
      exact Wl.putA (b := b2) (i := 3) h rfl rfl rfl fun H h => Wl.getA (b := b2) h rfl (bad _ _ h.le (by unfold scRes; rw [if_pos hb, if_pos ⟨hi, hk⟩, Int.toNat_natCast, if_neg hp]))

theorem fn23 {H0 : Heap} {Q : Post} {cs : List Value} {p : Prob} {i k : Int} (hr : Has RProblem H0 cs p)
    (hQ : ∀ H' w1 w2, Fresh RProblem H0 [w1, w2] (scRes p i k).1 H' → Q (.tuple #[.agg #[w1, w2], .int .i64 (scRes p i k).2]) H') : Runs Tryz.prog 23 #[.agg cs.toArray, .int .i64 i, .int .i64 k] H0 Q := by
  obtain ⟨u1, u2, rfl, r1, r2⟩ := hasProb hr
  have bad : ∀ H c, H0.Le H → scRes p i k = (([], []), c) → Q (.tuple #[.agg #[.slice none 0 0, .slice none 0 0], .int .i64 c]) H := fun H c l e => by
    have := hQ H (.slice none 0 0) (.slice none 0 0) (by rw [e]; exact fresh_nil2 (r := RS) (s := Rd.int) l)
    rw [e] at this
    exact this
  refine f23.enter ?_
  unfold f23.w
  have h := (((Loc.start H0).lent r1).lent r2).lent hr
  refine Wl.box h fun H b h => Wl.new h fun H b2 h => Wl.getA h rfl ?_
  obtain ⟨_, q⟩ := h.rd (cs := [u1, u2])
  refine Wi.call (fn47 q fun H hle => ?_)
  have h := h.to hle
  cases hb : isProb p with
  | false =>
    simp only [gw]
    exact Wi.build (cells := [.slice none 0 0, .slice none 0 0]) rfl (Wl.putA (b := b2) h rfl rfl rfl fun H h => Wl.getA (b := b2) h rfl (bad _ _ h.le (by unfold scRes; rw [if_neg (by rw [hb]; decide)])))
  | true =>
  obtain ⟨ok1, ok2, ok3, ok4, ok5, ok6⟩ := isProb_rows hb
  simp only [gw]
  have nope : ∀ H, Ab.Loc H0 [.box b2 [.slice none 0 0, .slice none 0 0], .box b [u1, u2], .lent RProblem [u1, u2] p, .lent RS [u2] p.2, .lent RSS [u1] p.1] H → ¬ (inR 0 ((p.2.length : Nat) - 1) i = true ∧ inR 1 100 k = true) →
      W.build [.slice none 0 0, .slice none 0 0] [] H fun v18 H => W.putN 2 (pt b2 0) v18 H fun _ H => W.getN 2 (pt b2 0) H fun v19 H => Q (.tuple #[v19, .int .i64 2]) H := fun H h g =>
    Wi.build (cells := [.slice none 0 0, .slice none 0 0]) rfl (Wl.putA (b := b2) h rfl rfl rfl fun H h => Wl.getA (b := b2) h rfl (bad _ _ h.le (by unfold scRes; rw [if_pos hb, if_neg g])))
  refine Wi.fieldAddr (Wl.get (b := b) h rfl (Wl.len (v := u2) (xs := p.2) h (Wi.sub (by unfold I64; omega) (Wi.call (fn70 ?_)))))
  cases hi : inR 0 ((p.2.length : Nat) - 1) i with
  | false =>
    simp only [gw]
    exact nope _ h (fun g => by rw [hi] at g; cases g.1)
  | true =>
  simp only [gw]
  refine Wi.call (fn70 ?_)
  cases hk : inR 1 100 k with
  | false =>
    simp only [gw]
    exact nope _ h (fun g => by rw [hk] at g; cases g.2)
  | true =>
  simp only [gw]
  have hi2 := inR_iff.1 hi
  have hk2 := inR_iff.1 hk
  obtain ⟨a, rfl⟩ : ∃ a : Nat, i = (a : Int) := ⟨i.toNat, by omega⟩
  have ha1 : a < p.1.length := by omega
  have ha2 : a < p.2.length := by omega
  refine Wl.getA (b := b) h rfl (Wi.call (fn66 (h.rd (cs := [u1, u2])) ⟨by omega, fun r hr => by have := (ok5 r hr).1; omega⟩ (by omega) fun H w1 w2 f => ?_))
  have kc := f.read.cell
  have h := h.add2 (c1 := [w1]) (c2 := [w2]) rfl f
  refine Wl.new h fun H b3 h => Wl.putA h rfl rfl kc fun H h => ?_
  obtain ⟨us, hus, h⟩ := h.heads (i := 1) rfl rfl
  have h : Ab.Loc H0 [.box b3 [w1, w2], .rows RS w1 us p.1, .data RS [w2] p.2, .box b2 [.slice none 0 0, .slice none 0 0], .box b [u1, u2], .lent RProblem [u1, u2] p, .lent RS [u2] p.2, .lent RSS [u1] p.1] H := h
  have hm2 := mul_in (ok6 _ (List.getElem_mem ha2)) hk2
  have hrow := ok5 _ (List.getElem_mem ha1)
  refine Wi.fieldAddr0 (Wl.get (b := b3) h rfl (Wl.atRow rfl h ha1 fun u hu _ => ?_))
  have hst0 : p.1.set a (sTo k p.1[a] 0) = p.1 := by rw [sTo_zero]; exact List.set_getElem_self _
  refine W.for_rule p.1[a].length (fun x s H => s = (.int .i64 (x : Nat), ()) ∧ Ab.Loc H0 [.box b3 [w1, w2], .rows RS w1 us (p.1.set a (sTo k p.1[a] x)), .data RS [w2] p.2, .box b2 [.slice none 0 0, .slice none 0 0], .box b [u1, u2], .lent RProblem [u1, u2] p, .lent RS [u2] p.2, .lent RSS [u1] p.1] H) ⟨rfl, by rw [hst0]; exact h⟩ ?_
  rintro x s H J hx ⟨rfl, h⟩ hJ
  have ha3 : a < (p.1.set a (sTo k p.1[a] x)).length := by rw [List.length_set]; exact ha1
  have eS : (p.1.set a (sTo k p.1[a] x))[a] = sTo k p.1[a] x := by simp
  have hur : Has RS H [u] (p.1.set a (sTo k p.1[a] x))[a] := by
    obtain ⟨bs, q, _⟩ := h.mem (a := .rows RS w1 us (p.1.set a (sTo k p.1[a] x))) (by simp)
    obtain ⟨u', fi, g1, _, g5, _⟩ := rows_elem rfl q ha3
    rw [hu] at g1
    cases g1
    exact ⟨_, g5⟩
  refine Wl.lenH hur ?_
  rw [show (p.1.set a (sTo k p.1[a] x))[a].length = p.1[a].length by rw [eS, sTo_length]]
  refine Wi.lssC (fun hlt => Wi.tru ?_) fun hge => Wi.fls ?_
  · have hxl : x < p.1[a].length := by omega
    have hx1 := hrow.2 _ (List.getElem_mem hxl)
    have hm1 := (mul_in (a := p.1[a][x]) ⟨by omega, by omega⟩ hk2)
    refine Wl.atIntH hur (by rw [eS, sTo_length]; exact hxl) fun _ => ?_
    have e3 : (p.1.set a (sTo k p.1[a] x))[a][x]'(by rw [eS, sTo_length]; exact hxl) = p.1[a][x] := by
      simp only [eS]
      exact sTo_get hxl
    rw [e3]
    refine Wi.mul hm1.2 ?_
    rw [Int.mul_comm k]
    refine Wl.rowSet h (j := 1) rfl hu ha3 (by rw [eS, sTo_length]; exact hxl) hm1.1 fun H h => Wi.add (by unfold I64; omega) (hJ _ _ hxl ⟨rfl, ?_⟩)
    rw [eS, List.set_set, sTo_succ hxl] at h
    exact h
  · have : x = p.1[a].length := by omega
    subst this
    rw [sTo_all] at h
    refine Wi.fieldAddr (Wl.get (b := b3) h rfl (Wi.fieldAddr (Wl.get (b := b3) h rfl (Wl.atInt (v := w2) (xs := p.2) h ha2 fun _ => Wi.mul hm2.2 ?_))))
    rw [Int.mul_comm k]
    refine Wl.setInt (v := w2) (j := 2) h ha2 hm2.1 fun H h => ?_
    have h := (h.unrows (i := 1) rfl).pair (i := 1) (j := 2) rfl rfl (by decide)
    have e8 : (p.1.set a (p.1[a].map (· * k)), p.2.set a (p.2[a] * k)) = scl p a k := by
      simp [scl, List.getD_eq_getElem?_getD, List.getElem?_eq_getElem ha1, List.getElem?_eq_getElem ha2]
    rw [e8] at h
    have h : Ab.Loc H0 [.box b3 [w1, w2], .data RProblem [w1, w2] (scl p a k), .emp, .box b2 [.slice none 0 0, .slice none 0 0], .box b [u1, u2], .lent RProblem [u1, u2] p, .lent RS [u2] p.2, .lent RSS [u1] p.1] H := h
    refine Wl.getA (b := b3) h rfl ?_
    obtain ⟨_, q⟩ := h.rd (cs := [w1, w2])
    refine Wi.call (fn47 q fun H l => ?_)
    have h := h.to l
    cases hp : isProb (scl p a k) with
    | true =>
      have e : scRes p a k = (scl p a k, 0) := by unfold scRes; rw [if_pos hb, if_pos ⟨hi, hk⟩, Int.toNat_natCast, if_pos hp]
      simp only [gw]
      refine Wl.getA (b := b3) h rfl (Wl.putA (b := b2) (i := 3) h rfl rfl kc fun H h => Wl.getA (b := b2) h rfl ?_)
      have := hQ H w1 w2 (by rw [e]; exact h.ret (i := 1) rfl)
      rw [e] at this
      exact this
    | false =>
      simp only [gw]
      exact Wi.build (cells := [.slice none 0 0, .slice none 0 0]) rfl (Wl.putA (b := b2) (i := 3) h rfl rfl rfl fun H h => Wl.getA (b := b2) h rfl (bad _ _ h.le (by unfold scRes; rw [if_pos hb, if_pos ⟨hi, hk⟩, Int.toNat_natCast, if_neg (by rw [hp]; decide)])))

end Go.Proofs.YtgdiebnokgnniaaGreatDoor

/-! Sources of drawn numbers: a code of bytes, a place in it, a number that runs on. No program here. -/
namespace Go.Ab

def Rd.u8 : Rd Int where
  n := 1
  rel := fun _ bs cs x => bs = [] ∧ cs = [.int .u8 x] ∧ 0 ≤ x ∧ x < 256
  len := fun h => by rw [h.2.1]; rfl
  cell := fun h => by rw [h.2.1]; rfl
  low := fun h b hb => by rw [h.1] at hb; cases hb
  frame := fun h _ _ => h
instance : Plain Rd.u8 := ⟨fun ⟨h1, h2, h3⟩ => ⟨h1, fun _ => ⟨rfl, h2, h3⟩⟩⟩

section
variable {H : Heap} {k : Post}

theorem Wi.mulU {a b : Int} (h : ∀ c, k (.int .u64 c) H) : W.bin .mul (.int .u64 a) (.int .u64 b) H k := by
  simp only [W.bin, binEval, intEval, if_true]; exact h _
theorem Wi.addU {a b : Int} (h : ∀ c, k (.int .u64 c) H) : W.bin .add (.int .u64 a) (.int .u64 b) H k := by
  simp only [W.bin, binEval, intEval, if_true]; exact h _
theorem Wi.shrU {a b : Int} (hb : 0 ≤ b) (h : ∀ c, k (.int .u64 c) H) : W.bin .shr (.int .u64 a) (.int .u64 b) H k := by
  simp only [W.bin, binEval]
  rw [if_neg (by omega)]
  exact h _
theorem Wi.andU {a : Int} {m : Nat} (hm : m < 2 ^ 64) (h : ∀ c : Nat, c ≤ m → k (.int .u64 (c : Int)) H) : W.bin .and (.int .u64 a) (.int .u64 (m : Nat)) H k := by
  simp only [W.bin, binEval, intEval, if_true]
  have h1 : (BitVec.ofInt IntKind.u64.bits (m : Int)).toNat = m := by
    show (BitVec.ofInt 64 (m : Int)).toNat = m
    rw [BitVec.ofInt_natCast, BitVec.toNat_ofNat]
    omega
  have h2 : (BitVec.ofInt IntKind.u64.bits a &&& BitVec.ofInt IntKind.u64.bits (m : Int)).toNat ≤ m := by
    rw [BitVec.toNat_and, h1]
    exact Nat.and_le_right
  generalize (BitVec.ofInt IntKind.u64.bits a &&& BitVec.ofInt IntKind.u64.bits (m : Int)).toNat = c at *
  have e : IntKind.u64.wrap (c : Int) = c := by
    simp only [IntKind.wrap, IntKind.signed, IntKind.bits]
    simp
    omega
  rw [e]
  exact h c h2
theorem Wi.convU {x : Int} {κ : IntKind} (h : ∀ c, k (.int .u64 c) H) : W.conv .u64 (.int κ x) H k := h _
theorem Wi.convI {x : Int} {κ : IntKind} (hx : I64 x) (h : k (.int .i64 x) H) : W.conv .i64 (.int κ x) H k := by
  show k (.int .i64 (IntKind.i64.wrap x)) H
  rw [wrap_id hx]
  exact h
theorem Wi.nilP {b o : Nat} (h : k (pt b o) H) : W.nilCheck (pt b o) H k := h
theorem Wi.remI {a b : Int} (hb : b ≠ 0) (h : k (.int .i64 (a.tmod b)) H) : W.bin .rem (.int .i64 a) (.int .i64 b) H k := by
  simpa [W.bin, binEval, intEval, hb] using h
end

/-- A source: its variable, its code's bytes. -/
def Atom.src {n : Nat} (b : Nat) (vc : Value) (code : List Int) : Atom n where
  P := fun H bs => bs = [b] ∧ b < H.next ∧ (∃ (a : Nat) (h : Int) (ty : TypeId) (e : Nat), H.blk b = some ⟨[vc, .int .i64 (a : Int), .int .u64 h], ty, e, false⟩ ∧ a ≤ code.length) ∧ ∃ bs', (Rd.slice Rd.u8).rel H bs' [vc] code ∧ ∀ c ∈ bs', c < n
  low := by rintro H bs ⟨rfl, h, _⟩ c hc; simp at hc; omega
  frame := by
    rintro H H' bs ⟨rfl, h, ⟨a, hh, ty, e, hb, ha⟩, bs', hr, hl⟩ _ hn hs
    exact ⟨rfl, by omega, ⟨a, hh, ty, e, by rw [hs b (.inr (by simp))]; exact hb, ha⟩, bs', Rd.frame _ hr hn fun c hc => hs c (.inl (hl c hc)), hl⟩

section
variable {H0 H : Heap} {L : List (Atom H0.next)}

theorem set_same {α : Type} {l : List α} {i : Nat} {a : α} (h : l[i]? = some a) : l.set i a = l := by
  obtain ⟨hlt, rfl⟩ := List.getElem?_eq_some_iff.1 h
  exact List.set_getElem_self hlt

/-- What a source has, and how it goes on. -/
theorem Loc.src (h : Loc H0 L H) {i b : Nat} {vc : Value} {code : List Int} (hi : L[i]? = some (.src b vc code)) : ∃ (a : Nat) (hh : Int) (ty : TypeId) (e : Nat), H.blk b = some ⟨[vc, .int .i64 (a : Int), .int .u64 hh], ty, e, false⟩ ∧ a ≤ code.length ∧ Has (Rd.slice Rd.u8) H [vc] code ∧ H0.next ≤ b ∧
    ∀ H', H.next ≤ H'.next → (∀ c, c < H.next → c ≠ b → H'.blk c = H.blk c) → (∃ (a : Nat) (hh : Int) (ty : TypeId) (e : Nat), H'.blk b = some ⟨[vc, .int .i64 (a : Int), .int .u64 hh], ty, e, false⟩ ∧ a ≤ code.length) → Loc H0 L H' := by
  obtain ⟨bs, ⟨rfl, hb, ⟨a, hh, ty, e, hk, ha⟩, bs', hr, hl⟩, hlow, up⟩ := h.upd hi
  have hb0 : H0.next ≤ b := hlow b (by simp)
  refine ⟨a, hh, ty, e, hk, ha, ⟨bs', hr⟩, hb0, fun H' hn hs hb' => ?_⟩
  have := up H' (.src b vc code) [b] hn (fun c hc hcb => hs c hc (by simpa using hcb)) ⟨rfl, by omega, hb', bs', Rd.frame _ hr hn (fun c hc => hs c (Rd.low _ hr c hc) (fun e => by have := hl c hc; omega)), hl⟩ fun c hc => .inl hc
  rwa [set_same hi] at this

/-- A list of numbers written out. -/
theorem Wl.litN {K : Post} (xs : List Int) {n : Nat} {ty : TypeId} {parts : List (Nat × Nat × Value)} (hn : n = xs.length) (hs : xs.length < 9223372036854775808) (hI : ∀ x ∈ xs, I64 x) (hf : fillA (reps n [.int .i64 0]) parts = some (xs.map fun x => .int .i64 x)) (h : Loc H0 L H)
    (k : ∀ H' v, Loc H0 (.data (Rd.slice Rd.int) [v] xs :: L) H' → K v H') : W.lit n [.int .i64 0] ty parts H K := by
  subst hn
  have hcell : (xs.map fun x => (.int .i64 x : Value)).all isCell = true := by simp [isCell]
  refine Wi.lit hf fun H1 l1 n1 k1 => k H1 _ (h.cons l1 (bs := [H.next]) (grow_data (r := Rd.int) (ty := ty) (.inr ⟨H.next, 2 * xs.length, _, fun _ => [], rfl, by omega, by simp, by simp, ?_, ⟨by omega, k1, by omega, hs, by simp [Rd.int], fun i hi => ?_⟩, rfl, rfl, by simp [Rd.int], hcell⟩)) fun b hb => by simp at hb; omega)
  · intro c hc kc hk
    simp at hc
    subst hc
    rw [k1] at hk
    cases hk
    rfl
  · refine ⟨rfl, ?_, hI _ (List.getElem_mem hi)⟩
    show ((xs.map fun x => (.int .i64 x : Value)).drop (0 + i * 1)).take 1 = _
    rw [Nat.zero_add, Nat.mul_one, List.drop_eq_getElem_cons (by simpa using hi)]
    simp

/-- One thing is put first. -/
theorem Loc.front (h : Loc H0 L H) {a : Atom H0.next} (i : Nat) (hi : L[i]? = some a) : Loc H0 (a :: L.eraseIdx i) H := by
  obtain ⟨le, F, h1, h2⟩ := h
  let f : Nat → Nat := fun j => match j with | 0 => i | k + 1 => if k < i then k else k + 1
  have e : ∀ (j : Nat) (c : Atom H0.next), (a :: L.eraseIdx i)[j]? = some c → L[f j]? = some c := fun j c hj => by
    cases j with
    | zero => simp only [List.getElem?_cons_zero] at hj; rw [← hj]; exact hi
    | succ k =>
      rw [List.getElem?_cons_succ, List.getElem?_eraseIdx] at hj
      simp only [f]
      split at hj
      · rename_i g; rw [if_pos g]; exact hj
      · rename_i g; rw [if_neg g]; exact hj
  refine ⟨le, fun j => F (f j), fun j c hj => h1 _ c (e j c hj), fun j k c d hjk hj hk => h2 _ _ c d ?_ (e j c hj) (e k d hk)⟩
  cases j <;> cases k <;> simp only [f] <;> (try split) <;> (try split) <;> omega

/-- What a call made is held beside what was. -/
theorem Loc.join {H' : Heap} {M : List (Atom H.next)} {M' : List (Atom H0.next)} (h : Loc H0 L H) (k : Loc H M H') (e : ∀ (i : Nat) (a' : Atom H0.next), M'[i]? = some a' → ∃ a : Atom H.next, M[i]? = some a ∧ ∀ bs, a.P H' bs → a'.P H' bs) : Loc H0 (M' ++ L) H' := by
  obtain ⟨le2, G, g1, g2⟩ := k
  obtain ⟨le, F, h1, h2⟩ := h.to le2
  obtain ⟨le0, F0, k1, k2⟩ := h
  have l0 : ∀ (i : Nat) (a : Atom H0.next), L[i]? = some a → a.P H' (F0 i) ∧ ∀ c ∈ F0 i, H0.next ≤ c ∧ c < H.next := fun i a hi => by
    obtain ⟨p, q⟩ := k1 i a hi
    exact ⟨a.frame p le0.next le2.next fun c hc => le2.blk c (hc.elim (fun g => Nat.lt_of_lt_of_le g le0.next) fun g => a.low p c g), fun c hc => ⟨q c hc, a.low p c hc⟩⟩
  have at1 : ∀ (i : Nat) (a : Atom H0.next), (M' ++ L)[i]? = some a → (i < M'.length ∧ M'[i]? = some a) ∨ (M'.length ≤ i ∧ L[i - M'.length]? = some a) := fun i a hi => by
    rcases Nat.lt_or_ge i M'.length with g | g
    · rw [List.getElem?_append_left g] at hi; exact .inl ⟨g, hi⟩
    · rw [List.getElem?_append_right g] at hi; exact .inr ⟨g, hi⟩
  refine ⟨le, fun i => if i < M'.length then G i else F0 (i - M'.length), fun i a hi => ?_, fun i j a c hij hi hj d hd hd2 => ?_⟩
  · dsimp only
    rcases at1 i a hi with ⟨g, hm⟩ | ⟨g, hm⟩
    · obtain ⟨a0, q1, q2⟩ := e i a hm
      obtain ⟨p1, p2⟩ := g1 i a0 q1
      rw [if_pos g]
      exact ⟨q2 _ p1, fun c hc => Nat.le_trans le0.next (p2 c hc)⟩
    · rw [if_neg (by omega)]
      obtain ⟨p1, p2⟩ := l0 _ a hm
      exact ⟨p1, fun c hc => (p2 c hc).1⟩
  · dsimp only at hd hd2
    rcases at1 i a hi with ⟨g, hm⟩ | ⟨g, hm⟩ <;> rcases at1 j c hj with ⟨g', hm'⟩ | ⟨g', hm'⟩
    · rw [if_pos g] at hd
      rw [if_pos g'] at hd2
      obtain ⟨a0, q1, _⟩ := e i a hm
      obtain ⟨c0, q3, _⟩ := e j c hm'
      exact g2 i j a0 c0 hij q1 q3 d hd hd2
    · rw [if_pos g] at hd
      rw [if_neg (by omega)] at hd2
      obtain ⟨a0, q1, _⟩ := e i a hm
      have := (g1 i a0 q1).2 d hd
      have := ((l0 _ c hm').2 d hd2).2
      omega
    · rw [if_neg (by omega)] at hd
      rw [if_pos g'] at hd2
      obtain ⟨c0, q1, _⟩ := e j c hm'
      have := (g1 j c0 q1).2 d hd2
      have := ((l0 _ a hm).2 d hd).2
      omega
    · rw [if_neg (by omega)] at hd
      rw [if_neg (by omega)] at hd2
      exact k2 _ _ a c (by omega) hm hm' d hd hd2

end
end Go.Ab

/-! Draws: sources, numbers, matrices. No condition. -/
namespace Go.Proofs.YtgdiebnokgnniaaGreatDoor
open Go.Ab

/- loop.example/g01343/spec.l01From -/
def f57.l1 (Q : Post) (code_0 : Value) (v5 : Value) (I1 : St [4] → Heap → Prop) (i_4 : Value) (H : Heap) : Prop :=
  W.len code_0 H fun v6 H =>
  W.bin .lss i_4 v6 H fun v7 H =>
  W.guarded v7 true (fun H k => k i_4 H) H fun v8 H =>
  W.guarded v7 true (fun H k => W.bin .lss v8 (.int .i64 4096) H k) H fun v9 H =>
  W.pick v7 v9 (.bool false) H fun v10 H =>
  W.cond v10 H
  (fun H => W.nilCheck v5 H fun v11 H =>
   W.fieldAddr 2 v11 H fun v12 H =>
   W.get v12 H fun v13 H =>
   W.bin .mul v13 (.int .u64 1099511628211) H fun v14 H =>
   W.indexAddr 1 code_0 i_4 H fun v15 H =>
   W.get v15 H fun v16 H =>
   W.conv .u64 v16 H fun v17 H =>
   W.bin .add v14 v17 H fun v18 H =>
   W.bin .add v18 (.int .u64 167) H fun v19 H =>
   W.nilCheck v5 H fun v20 H =>
   W.fieldAddr 2 v20 H fun v21 H =>
   W.put v21 v19 H fun _ H =>
   W.bin .add i_4 (.int .i64 1) H fun v22 H =>
   I1 (v22, ()) H)
  (fun H => Q v5 H)
def f57.w (Q : Post) (code_0 : Value) (H : Heap) : Prop :=
  W.len code_0 H fun v1 H =>
  W.conv .u64 v1 H fun v2 H =>
  W.bin .add (.int .u64 13431) v2 H fun v3 H =>
  W.build [(.slice none 0 0), (.int .i64 0), (.int .u64 0)] [(0, 1, code_0), (2, 1, v3)] H fun v4 H =>
  W.box v4 131 H fun v5 H =>
  W.loop (S := St [4]) (fun I1 s H => f57.l1 Q code_0 v5 I1 s.1 H) ((.int .i64 0), ()) H
theorem f57.enter {Q : Post} {code_0 : Value} {H : Heap} (h : f57.w Q code_0 H) : Runs Tryz.prog 57 #[code_0] H Q :=
  fn_enter (ann := [(3, [4])]) (by kernel_rfl) Tryz.func57 rfl (by kernel_rfl) h (by kernel_rfl)

/- loop.example/g01343/spec.l01Next -/
def f60.j1 (Q : Post) (n_1 : Value) (x_5 : Value) (H : Heap) : Prop :=
  W.bin .rem x_5 n_1 H fun v39 H =>
  Q v39 H
def f60.w (Q : Post) (s_0 : Value) (n_1 : Value) (H : Heap) : Prop :=
  W.bin .lss n_1 (.int .i64 1) H fun v1 H =>
  W.cond v1 H
  (fun H => Q (.int .i64 0) H)
  (fun H => W.nilCheck s_0 H fun v2 H =>
   W.fieldAddr 2 v2 H fun v3 H =>
   W.get v3 H fun v4 H =>
   W.bin .mul v4 (.int .u64 6364136223846793005) H fun v5 H =>
   W.bin .add v5 (.int .u64 1442695040888963407) H fun v6 H =>
   W.nilCheck s_0 H fun v7 H =>
   W.fieldAddr 2 v7 H fun v8 H =>
   W.put v8 v6 H fun _ H =>
   W.nilCheck s_0 H fun v9 H =>
   W.fieldAddr 2 v9 H fun v10 H =>
   W.get v10 H fun v11 H =>
   W.bin .shr v11 (.int .u64 31) H fun v12 H =>
   W.bin .and v12 (.int .u64 1073741823) H fun v13 H =>
   W.conv .i64 v13 H fun v14 H =>
   W.nilCheck s_0 H fun v15 H =>
   W.fieldAddr 1 v15 H fun v16 H =>
   W.get v16 H fun v17 H =>
   W.nilCheck s_0 H fun v18 H =>
   W.fieldAddr 0 v18 H fun v19 H =>
   W.get v19 H fun v20 H =>
   W.len v20 H fun v21 H =>
   W.bin .lss v17 v21 H fun v22 H =>
   W.cond v22 H
   (fun H => W.nilCheck s_0 H fun v23 H =>
    W.fieldAddr 0 v23 H fun v24 H =>
    W.get v24 H fun v25 H =>
    W.nilCheck s_0 H fun v26 H =>
    W.fieldAddr 1 v26 H fun v27 H =>
    W.get v27 H fun v28 H =>
    W.indexAddr 1 v25 v28 H fun v29 H =>
    W.get v29 H fun v30 H =>
    W.conv .i64 v30 H fun v31 H =>
    W.bin .add v14 v31 H fun v32 H =>
    W.nilCheck s_0 H fun v33 H =>
    W.fieldAddr 1 v33 H fun v34 H =>
    W.get v34 H fun v35 H =>
    W.bin .add v35 (.int .i64 1) H fun v36 H =>
    W.nilCheck s_0 H fun v37 H =>
    W.fieldAddr 1 v37 H fun v38 H =>
    W.put v38 v36 H fun _ H =>
    f60.j1 Q n_1 v32 H)
   (fun H => f60.j1 Q n_1 v14 H))
theorem f60.enter {Q : Post} {s_0 : Value} {n_1 : Value} {H : Heap} (h : f60.w Q s_0 n_1 H) : Runs Tryz.prog 60 #[s_0, n_1] H Q :=
  fn_enter (ann := []) (by kernel_rfl) Tryz.func60 rfl (by kernel_rfl) h (by kernel_rfl)

/- loop.example/g01343/spec.l01Pick -/
def f61.w (Q : Post) (s_0 : Value) (list_1 : Value) (H : Heap) : Prop :=
  W.len list_1 H fun v1 H =>
  W.call Tryz.prog (.func (.func 60) #[] #[]) #[s_0, v1] H fun v2 H =>
  W.indexAddr 1 list_1 v2 H fun v3 H =>
  W.get v3 H fun v4 H =>
  Q v4 H
theorem f61.enter {Q : Post} {s_0 : Value} {list_1 : Value} {H : Heap} (h : f61.w Q s_0 list_1 H) : Runs Tryz.prog 61 #[s_0, list_1] H Q :=
  fn_enter (ann := []) (by kernel_rfl) Tryz.func61 rfl (by kernel_rfl) h (by kernel_rfl)

/- loop.example/g01343/spec.l01DrawPart -/
def f113.w (Q : Post) (s_0 : Value) (most_1 : Value) (H : Heap) : Prop :=
  W.bin .mul (.int .i64 2) most_1 H fun v1 H =>
  W.bin .add v1 (.int .i64 1) H fun v2 H =>
  W.call Tryz.prog (.func (.func 60) #[] #[]) #[s_0, v2] H fun v3 H =>
  W.bin .sub v3 most_1 H fun v4 H =>
  Q v4 H
theorem f113.enter {Q : Post} {s_0 : Value} {most_1 : Value} {H : Heap} (h : f113.w Q s_0 most_1 H) : Runs Tryz.prog 113 #[s_0, most_1] H Q :=
  fn_enter (ann := []) (by kernel_rfl) Tryz.func113 rfl (by kernel_rfl) h (by kernel_rfl)

/- loop.example/g01343/spec.l01DrawM -/
def f133.l2 (Q : Post) (n_1 : Value) (s_0 : Value) (most_2 : Value) (out_7 : Value) (i_8 : Value) (I1 : St [7, 8] → Heap → Prop) (I2 : St [9, 10] → Heap → Prop) (row_9 : Value) (k_10 : Value) (H : Heap) : Prop :=
  W.bin .lss k_10 n_1 H fun v4 H =>
  W.cond v4 H
  (fun H => W.call Tryz.prog (.func (.func 113) #[] #[]) #[s_0, most_2] H fun v5 H =>
   W.lit 3 [(.int .i64 0)] 2 [(0, 1, (.int .i64 0)), (1, 1, (.int .i64 1)), (2, 1, (.int .i64 1))] H fun v6 H =>
   W.call Tryz.prog (.func (.func 61) #[] #[]) #[s_0, v6] H fun v7 H =>
   W.bin .mul v5 v7 H fun v8 H =>
   W.lit 1 [(.int .i64 0)] 2 [(0, 1, v8)] H fun v9 H =>
   W.append 1 2 row_9 v9 H fun v10 H =>
   W.bin .add k_10 (.int .i64 1) H fun v11 H =>
   I2 (v10, v11, ()) H)
  (fun H => W.lit 1 [(.slice none 0 0)] 25 [(0, 1, row_9)] H fun v12 H =>
   W.append 1 25 out_7 v12 H fun v13 H =>
   W.bin .add i_8 (.int .i64 1) H fun v14 H =>
   I1 (v13, v14, ()) H)
def f133.l1 (Q : Post) (n_1 : Value) (s_0 : Value) (most_2 : Value) (I1 : St [7, 8] → Heap → Prop) (out_7 : Value) (i_8 : Value) (H : Heap) : Prop :=
  W.bin .lss i_8 n_1 H fun v2 H =>
  W.cond v2 H
  (fun H => W.lit 0 [(.int .i64 0)] 2 [] H fun v3 H =>
   W.loop (S := St [9, 10]) (fun I2 s H => f133.l2 Q n_1 s_0 most_2 out_7 i_8 I1 I2 s.1 s.2.1 H) (v3, (.int .i64 0), ()) H)
  (fun H => Q out_7 H)
def f133.w (Q : Post) (s_0 : Value) (n_1 : Value) (most_2 : Value) (H : Heap) : Prop :=
  W.lit 0 [(.slice none 0 0)] 25 [] H fun v1 H =>
  W.loop (S := St [7, 8]) (fun I1 s H => f133.l1 Q n_1 s_0 most_2 I1 s.1 s.2.1 H) (v1, (.int .i64 0), ()) H
theorem f133.enter {Q : Post} {s_0 : Value} {n_1 : Value} {most_2 : Value} {H : Heap} (h : f133.w Q s_0 n_1 most_2 H) : Runs Tryz.prog 133 #[s_0, n_1, most_2] H Q :=
  fn_enter (ann := [(3, [7, 8]), (7, [9, 10])]) (by kernel_rfl) Tryz.func133 rfl (by kernel_rfl) h (by kernel_rfl)

/- loop.example/g01343/spec.l01DrawP -/
def f134.l2 (Q : Post) (n_1 : Value) (v4 : Value) (s_0 : Value) (i_6 : Value) (I1 : St [6] → Heap → Prop) (I2 : St [8, 9] → Heap → Prop) (sum_8 : Value) (k_9 : Value) (H : Heap) : Prop :=
  W.bin .lss k_9 n_1 H fun v6 H =>
  W.cond v6 H
  (fun H => W.indexAddr 1 v4 k_9 H fun v7 H =>
   W.get v7 H fun v8 H =>
   W.indexAddr 1 v4 k_9 H fun v9 H =>
   W.get v9 H fun v10 H =>
   W.un .neg v10 H fun v11 H =>
   W.max2 v8 v11 H fun v12 H =>
   W.bin .add sum_8 v12 H fun v13 H =>
   W.bin .add k_9 (.int .i64 1) H fun v14 H =>
   I2 (v13, v14, ()) H)
  (fun H => W.call Tryz.prog (.func (.func 60) #[] #[]) #[s_0, (.int .i64 3)] H fun v15 H =>
   W.bin .add sum_8 v15 H fun v16 H =>
   W.indexAddr 1 v4 i_6 H fun v17 H =>
   W.put v17 v16 H fun _ H =>
   W.bin .add i_6 (.int .i64 1) H fun v18 H =>
   I1 (v18, ()) H)
def f134.l1 (Q : Post) (n_1 : Value) (v1 : Value) (s_0 : Value) (I1 : St [6] → Heap → Prop) (i_6 : Value) (H : Heap) : Prop :=
  W.bin .lss i_6 n_1 H fun v2 H =>
  W.cond v2 H
  (fun H => W.indexAddr 1 v1 i_6 H fun v3 H =>
   W.get v3 H fun v4 H =>
   W.indexAddr 1 v4 i_6 H fun v5 H =>
   W.put v5 (.int .i64 0) H fun _ H =>
   W.loop (S := St [8, 9]) (fun I2 s H => f134.l2 Q n_1 v4 s_0 i_6 I1 I2 s.1 s.2.1 H) ((.int .i64 1), (.int .i64 0), ()) H)
  (fun H => Q v1 H)
def f134.w (Q : Post) (s_0 : Value) (n_1 : Value) (H : Heap) : Prop :=
  W.call Tryz.prog (.func (.func 133) #[] #[]) #[s_0, n_1, (.int .i64 3)] H fun v1 H =>
  W.loop (S := St [6]) (fun I1 s H => f134.l1 Q n_1 v1 s_0 I1 s.1 H) ((.int .i64 0), ()) H
theorem f134.enter {Q : Post} {s_0 : Value} {n_1 : Value} {H : Heap} (h : f134.w Q s_0 n_1 H) : Runs Tryz.prog 134 #[s_0, n_1] H Q :=
  fn_enter (ann := [(3, [6]), (8, [8, 9])]) (by kernel_rfl) Tryz.func134 rfl (by kernel_rfl) h (by kernel_rfl)


abbrev RBytes : Rd (List Int) := Rd.slice Rd.u8

section
variable {H0 H : Heap} {L : List (Atom H0.next)} {Q : Post} {b i : Nat} {vc : Value} {code : List Int}

theorem fn60 {n : Int} (h : Ab.Loc H0 L H) (hi : L[i]? = some (.src b vc code)) (hQ : ∀ H' (x : Int), Ab.Loc H0 L H' → 0 ≤ x ∧ x < 1073742080 → (1 ≤ n → x < n) → Q (.int .i64 x) H') : Runs Tryz.prog 60 #[pt b 0, .int .i64 n] H Q := by
  refine f60.enter ?_
  unfold f60.w
  refine Wi.lssC (fun h1 => Wi.tru (hQ _ 0 h ⟨by decide, by decide⟩ fun g => by omega)) fun h1 => Wi.fls ?_
  obtain ⟨a, hh, ty, e, hk, ha, hc, hb0, up⟩ := h.src hi
  refine Wi.nilP (Wi.fieldAddr (Wi.get hk rfl (Wi.mulU fun c1 => Wi.addU fun c2 => Wi.nilP (Wi.fieldAddr (Wi.put hk rfl rfl (by simp) fun H1 w1 => ?_)))))
  have k1 : H1.blk b = some ⟨[vc, .int .i64 (a : Int), .int .u64 c2], ty, e, false⟩ := w1.here
  refine Wi.nilP (Wi.fieldAddr (Wi.get k1 rfl (Wi.shrU (by decide) fun c3 => Wi.andU (m := 1073741823) (by decide) fun m hm => Wi.convI (by unfold I64; omega) ?_)))
  refine Wi.nilP (Wi.fieldAddr (Wi.get k1 rfl (Wi.nilP (Wi.fieldAddr (Wi.get k1 rfl ?_)))))
  have h1' : Ab.Loc H0 L H1 := up H1 (by rw [w1.next]; exact Nat.le_refl _) (fun c _ hcb => w1.off c hcb) ⟨a, c2, ty, e, k1, ha⟩
  have hc1 : Has RBytes H1 [vc] code := (h1'.src hi).elim fun _ g => g.elim fun _ g => g.elim fun _ g => g.elim fun _ g => g.2.2.1
  have hsm := hc1.small
  have fin : ∀ H2 (x : Int), Ab.Loc H0 L H2 → 0 ≤ x → x < 1073742080 → f60.j1 Q (.int .i64 n) (.int .i64 x) H2 := fun H2 x h2 g1 g2 => by
    unfold f60.j1
    have e1 := Int.tmod_nonneg n g1
    have e2 : x.tmod n ≤ x := by
      have e : x.tmod n = ((x.toNat % n.toNat : Nat) : Int) := by
        rw [Int.ofNat_tmod, show ((x.toNat : Nat) : Int) = x by omega, show ((n.toNat : Nat) : Int) = n by omega]
      have := Nat.mod_le x.toNat n.toNat
      omega
    have e3 : x.tmod n < n := Int.tmod_lt_of_pos x (by omega)
    exact Wi.remI (by omega) (hQ _ _ h2 ⟨e1, by omega⟩ fun _ => e3)
  refine Wl.lenH hc1 (Wi.lssC (fun hlt => Wi.tru ?_) fun hge => Wi.fls (fin _ _ h1' (by omega) (by omega)))
  have hac : a < code.length := by omega
  refine Wi.nilP (Wi.fieldAddr (Wi.get k1 rfl (Wi.nilP (Wi.fieldAddr (Wi.get k1 rfl ?_)))))
  refine Wl.at1H (r := Rd.u8) rfl hc1 hac fun u hu => ?_
  obtain ⟨_, hu⟩ := hu
  obtain ⟨_, hu, hx1, hx2⟩ := hu
  simp only [List.cons.injEq, and_true] at hu
  subst hu
  refine Wi.convI (by unfold I64; omega) (Wi.add (by unfold I64; omega) (Wi.nilP (Wi.fieldAddr (Wi.get k1 rfl (Wi.add (by unfold I64; omega) (Wi.nilP (Wi.fieldAddr (Wi.put k1 rfl rfl (by simp) fun H2 w2 => ?_))))))))
  have k2 : H2.blk b = some ⟨[vc, .int .i64 ((a : Int) + 1), .int .u64 c2], ty, e, false⟩ := w2.here
  refine fin _ _ (up H2 (by rw [w2.next, w1.next]; exact Nat.le_refl _) (fun c _ hcb => (w2.off c hcb).trans (w1.off c hcb)) ⟨a + 1, c2, ty, e, by rw [k2]; rfl, hac⟩) (by omega) (by omega)

theorem fn61 {vl : Value} {l : List Int} (h : Ab.Loc H0 L H) (hi : L[i]? = some (.src b vc code)) (hl : ∀ H, Ab.Loc H0 L H → Has RS H [vl] l) (h0 : 0 < l.length) (hQ : ∀ H' (x : Int), Ab.Loc H0 L H' → x ∈ l → Q (.int .i64 x) H') : Runs Tryz.prog 61 #[pt b 0, vl] H Q := by
  refine f61.enter (Wl.lenH (hl H h) (Wi.call (fn60 h hi fun H x h hx hn => ?_)))
  have hlt := hn (by omega)
  obtain ⟨j, rfl⟩ : ∃ j : Nat, x = (j : Int) := ⟨x.toNat, by omega⟩
  exact Wl.atIntH (hl H h) (i := j) (by omega) fun _ => hQ _ _ h (List.getElem_mem _)

theorem fn113 {most : Int} (h : Ab.Loc H0 L H) (hi : L[i]? = some (.src b vc code)) (hm : 0 ≤ most ∧ most ≤ 100) (hQ : ∀ H' (x : Int), Ab.Loc H0 L H' → x.natAbs ≤ most.toNat → Q (.int .i64 x) H') : Runs Tryz.prog 113 #[pt b 0, .int .i64 most] H Q := by
  refine f113.enter (Wi.mul (by unfold I64; omega) (Wi.add (by unfold I64; omega) (Wi.call (fn60 h hi fun H x h hx hn => ?_))))
  have := hn (by omega)
  exact Wi.sub (by unfold I64; omega) (hQ _ _ h (by omega))

/-- Rows of so many numbers, bounded. -/
def Small (n m : Nat) (xs : List (List Int)) : Prop := ∀ r ∈ xs, r.length = n ∧ ∀ x ∈ r, x.natAbs ≤ m

theorem fn133 {n : Nat} {most : Int} (h : Ab.Loc H0 L H) (hi : L[i]? = some (.src b vc code)) (hn : n ≤ 5) (hm : 0 ≤ most ∧ most ≤ 100) (hQ : ∀ H' u (m : List (List Int)), Ab.Loc H0 (.data RSS [u] m :: L) H' → m.length = n → Small n most.toNat m → Q u H') :
    Runs Tryz.prog 133 #[pt b 0, .int .i64 (n : Nat), .int .i64 most] H Q := by
  refine f133.enter ?_
  unfold f133.w
  refine Wl.lit0 (ty := 25) RS rfl h fun H u h => ?_
  refine W.for_rule n (fun x st H => ∃ u m, st = (u, .int .i64 (x : Nat), ()) ∧ m.length = x ∧ Small n most.toNat m ∧ Ab.Loc H0 (.grow RS 25 u m :: L) H) ⟨u, [], rfl, rfl, (fun r hr => by cases hr), h⟩ ?_
  rintro x st H J hx ⟨u, m, rfl, hml, hsm, h⟩ hJ
  refine Wi.lssC (fun hlt => Wi.tru ?_) fun hge => Wi.fls ?_
  · have hxn : x < n := by omega
    refine Wl.lit0 (ty := 2) Rd.int rfl h fun H w h => ?_
    refine W.for_rule n (fun y st H => ∃ w r, st = (w, .int .i64 (y : Nat), ()) ∧ r.length = y ∧ (∀ z ∈ r, z.natAbs ≤ most.toNat) ∧ Ab.Loc H0 (.grow Rd.int 2 w r :: .grow RS 25 u m :: L) H) ⟨w, [], rfl, rfl, (fun r hr => by cases hr), h⟩ ?_
    rintro y st H J2 hy ⟨w, r, rfl, hrl, hrs, h⟩ hJ2
    refine Wi.lssC (fun hlt2 => Wi.tru ?_) fun hge2 => Wi.fls ?_
    · have hyn : y < n := by omega
      refine Wi.call (fn113 (i := i + 2) h (by simpa using hi) hm fun H z h hz => ?_)
      refine Wl.litN [0, 1, 1] rfl (by decide) (by simp [I64]) rfl h fun H vl h => Wi.call (fn61 (i := i + 3) h (by simpa using hi) (fun H h => h.rd (cs := [vl])) (by decide) fun H t h ht => ?_)
      have ht : t = 0 ∨ t = 1 := by simp at ht; omega
      have hzt : (z * t).natAbs ≤ most.toNat := by rcases ht with rfl | rfl <;> simp <;> omega
      refine Wi.mul (by unfold I64; omega) (Wl.pushP (r := Rd.int) (x := z * t) (i := 1) rfl rfl rfl (fun _ => ⟨rfl, rfl, by unfold I64; omega⟩) h (by omega) fun H w' h => Wi.add (by unfold I64; omega) (hJ2 _ _ hyn ⟨w', r ++ [z * t], rfl, by simp; omega, fun q hq => ?_, h.tl⟩))
      rcases List.mem_append.1 hq with hq | hq
      · exact hrs q hq
      · rw [List.mem_singleton] at hq; rw [hq]; exact hzt
    · have hyn : y = n := by omega
      have h := h.asData (i := 0) rfl
      have hcu := (h.rd (cs := [w]) (r := RS)).one
      refine Wl.pushO (r := RS) (u := w) (x := r) (i := 1) (j := 0) (L2 := fun v' => .data RS [w] r :: .grow RS 25 v' (m ++ [r]) :: L) (L3 := fun v' => .emp :: .grow RS 25 v' (m ++ [r]) :: L) rfl h (by decide) hcu (by omega) fun H u' h => Wi.add (by unfold I64; omega) (hJ _ _ hxn ⟨u', m ++ [r], rfl, by simp; omega, fun q hq => ?_, h.tl⟩)
      rcases List.mem_append.1 hq with hq | hq
      · exact hsm q hq
      · rw [List.mem_singleton] at hq; rw [hq]; exact ⟨by omega, hrs⟩
  · exact hQ _ _ _ (h.asData (i := 0) rfl) (by omega) hsm

theorem fn134 {n : Nat} (h : Ab.Loc H0 L H) (hi : L[i]? = some (.src b vc code)) (hn : n ≤ 5) (hQ : ∀ H' u (m : List (List Int)), Ab.Loc H0 (.data RSS [u] m :: L) H' → m.length = n → Small n 20 m → Q u H') :
    Runs Tryz.prog 134 #[pt b 0, .int .i64 (n : Nat)] H Q := by
  refine f134.enter ?_
  unfold f134.w
  refine Wi.call (fn133 h hi hn ⟨by decide, by decide⟩ fun H u m h hml hsm => ?_)
  obtain ⟨us, hus, h⟩ := h.heads (i := 0) rfl rfl
  refine W.for_rule n (fun x st H => ∃ m, st = (.int .i64 (x : Nat), ()) ∧ m.length = n ∧ (∀ a (ha : a < m.length), m[a].length = n ∧ ∀ z ∈ m[a], z.natAbs ≤ 3 ∨ a < x ∧ z.natAbs ≤ 20) ∧ Ab.Loc H0 (.rows RS u us m :: L) H) ⟨m, rfl, hml, fun a ha => ⟨(hsm _ (List.getElem_mem ha)).1, fun z hz => .inl ((hsm _ (List.getElem_mem ha)).2 z hz)⟩, h⟩ ?_
  rintro x st H J hx ⟨m, rfl, hml, hb, h⟩ hJ
  refine Wi.lssC (fun hlt => Wi.tru ?_) fun hge => Wi.fls ?_
  · have hxn : x < n := by omega
    have hxm : x < m.length := by omega
    obtain ⟨hl, hz⟩ := hb x hxm
    have hz3 : ∀ z ∈ m[x], z.natAbs ≤ 3 := fun z hz' => (hz z hz').elim id fun g => absurd g.1 (by omega)
    refine Wl.atRow rfl h hxm fun w hw _ => ?_
    refine Wl.rowSet h (j := 0) rfl hw hxm (by omega) (by unfold I64; omega) fun H h => ?_
    have h : Ab.Loc H0 (.rows RS u us (m.set x (m[x].set x 0)) :: L) H := h
    generalize hm1 : m.set x (m[x].set x 0) = m1 at h
    have hx1 : x < m1.length := by rw [← hm1, List.length_set]; exact hxm
    have e1 : m1[x] = m[x].set x 0 := by simp [← hm1]
    have hz1 : ∀ z ∈ m1[x], z.natAbs ≤ 3 := fun z hz' => by
      rw [e1] at hz'
      rcases List.mem_or_eq_of_mem_set hz' with g | g
      · exact hz3 z g
      · rw [g]; decide
    have hl1 : m1[x].length = n := by rw [e1, List.length_set]; exact hl
    refine W.for_rule n (fun y st H => ∃ sum : Int, st = (.int .i64 sum, .int .i64 (y : Nat), ()) ∧ (1 ≤ sum ∧ sum ≤ 1 + 3 * y) ∧ Ab.Loc H0 (.rows RS u us m1 :: L) H) ⟨1, rfl, ⟨by decide, by decide⟩, h⟩ ?_
    rintro y st H J2 hy ⟨sum, rfl, hs, h⟩ hJ2
    have hr := h.row rfl (j := 0) rfl hw hx1
    refine Wi.lssC (fun hlt2 => Wi.tru ?_) fun hge2 => Wi.fls ?_
    · have hyn : y < n := by omega
      have hyl : y < m1[x].length := by omega
      have hzy := hz1 _ (List.getElem_mem hyl)
      refine Wl.atIntH hr hyl fun _ => Wl.atIntH hr hyl fun _ => Wi.neg (by unfold I64; omega) (Wi.max2 (c := ((m1[x][y]).natAbs : Int)) (by split <;> omega) (Wi.add (by unfold I64; omega) (Wi.add (by unfold I64; omega) (hJ2 _ _ hyn ⟨_, rfl, ⟨by omega, by omega⟩, h⟩))))
    · refine Wi.call (fn60 (i := i + 1) h (by simpa using hi) fun H z h hzz hz3 => ?_)
      have := hz3 (by decide)
      refine Wi.add (by unfold I64; omega) (Wl.rowSet h (j := 0) rfl hw hx1 (by omega) (by unfold I64; omega) fun H h => Wi.add (by unfold I64; omega) (hJ _ _ hxn ⟨m1.set x (m1[x].set x (sum + z)), rfl, by rw [List.length_set, ← hm1, List.length_set]; exact hml, fun a ha => ?_, h⟩))
      by_cases e : a = x
      · subst e
        simp only [List.getElem_set_self, List.length_set]
        refine ⟨hl1, fun q hq => ?_⟩
        rcases List.mem_or_eq_of_mem_set hq with g | g
        · exact .inl (hz1 q g)
        · exact .inr ⟨by omega, by omega⟩
      · have ha' : a < m.length := by rw [List.length_set, ← hm1, List.length_set] at ha; exact ha
        have : (m1.set x (m1[x].set x (sum + z)))[a] = m[a] := by
          rw [List.getElem_set_ne (fun g => e g.symm)]
          simp only [← hm1]
          rw [List.getElem_set_ne (fun g => e g.symm)]
        rw [this]
        obtain ⟨g1, g2⟩ := hb a ha'
        exact ⟨g1, fun q hq => (g2 q hq).imp id fun g => ⟨by omega, g.2⟩⟩
  · have h := h.unrows (i := 0) rfl
    refine hQ _ _ _ h hml fun r hr => ?_
    obtain ⟨a, ha, rfl⟩ := List.mem_iff_getElem.1 hr
    obtain ⟨g1, g2⟩ := hb a ha
    exact ⟨g1, fun q hq => (g2 q hq).elim (fun g => by omega) fun g => g.2⟩

end

theorem fn57 {H0 H : Heap} {L : List (Atom H0.next)} {Q : Post} {vc : Value} {code : List Int} (hc0 : Has RBytes H0 [vc] code) (h : Ab.Loc H0 L H) (hQ : ∀ H' b, Ab.Loc H0 (.src b vc code :: L) H' → Q (pt b 0) H') : Runs Tryz.prog 57 #[vc] H Q := by
  have hc := hc0.le h.le
  have hsm := hc.small
  refine f57.enter ?_
  unfold f57.w
  refine Wl.lenH hc (Wi.convU fun c1 => Wi.addU fun c2 => Wi.build (cells := [vc, .int .i64 0, .int .u64 c2]) (by have e : cellsA (.int .u64 c2) = some [.int .u64 c2] := rfl; simp [fillA, hc.one, e]) ?_)
  refine Wl.box h fun H b h => ?_
  have h : Ab.Loc H0 (.src b vc code :: L) H := h.as (i := 0) rfl fun bs hb => by
    obtain ⟨h1, h2, ty, e, h3⟩ := hb
    obtain ⟨bs2, hr2⟩ := hc0
    exact ⟨bs, ⟨h1, h2, ⟨0, c2, ty, e, h3, Nat.zero_le _⟩, bs2, Rd.le _ hr2 h.le, fun c hc => Rd.low _ hr2 c hc⟩, fun c hc => hc⟩
  refine W.for_rule code.length (fun x st H => st = (.int .i64 (x : Nat), ()) ∧ Ab.Loc H0 (.src b vc code :: L) H) ⟨rfl, h⟩ ?_
  rintro x st H J hx ⟨rfl, h⟩ hJ
  obtain ⟨a, hh, ty, e, hk, ha, hcH, hb0, up⟩ := h.src (i := 0) rfl
  refine Wl.lenH hcH (Wi.lssC (fun hlt => ?_) fun hge => ?_)
  · simp only [gw]
    generalize (4096 : Int) = top
    refine Wi.lssC (fun h4 => ?_) fun h4 => ?_
    · simp only [gw]
      have hxc : x < code.length := by omega
      refine Wi.nilP (Wi.fieldAddr (Wi.get hk rfl (Wi.mulU fun c3 => Wl.at1H (r := Rd.u8) rfl hcH hxc fun u hu => ?_)))
      obtain ⟨_, hu⟩ := hu
      obtain ⟨_, hu, _, _⟩ := hu
      simp only [List.cons.injEq, and_true] at hu
      subst hu
      refine Wi.convU fun c4 => Wi.addU fun c5 => Wi.addU fun c6 => Wi.nilP (Wi.fieldAddr (Wi.put hk rfl rfl (by simp) fun H1 w1 => Wi.add (by unfold I64; omega) (hJ _ _ hxc ⟨rfl, ?_⟩)))
      exact up H1 (by rw [w1.next]; exact Nat.le_refl _) (fun c _ hcb => w1.off c hcb) ⟨a, c6, ty, e, w1.here, ha⟩
    · simp only [gw]
      exact hQ _ _ h
  · simp only [gw]
    exact hQ _ _ h

end Go.Proofs.YtgdiebnokgnniaaGreatDoor

/-! Draws: problems. No condition. -/
namespace Go.Proofs.YtgdiebnokgnniaaGreatDoor
open Go.Ab

/- loop.example/g01343/spec.l01DrawOf -/
def f110.l1 (Q : Post) (n_1 : Value) (v7 : Value) (s_0 : Value) (v13 : Value) (v1 : Value) (I1 : St [10] → Heap → Prop) (i_10 : Value) (H : Heap) : Prop :=
  W.bin .lss i_10 n_1 H fun v14 H =>
  W.cond v14 H
  (fun H => W.fieldAddr 1 v7 H fun v15 H =>
   W.get v15 H fun v16 H =>
   W.call Tryz.prog (.func (.func 113) #[] #[]) #[s_0, v13] H fun v17 H =>
   W.chk (fun H k => W.get v15 H k) v16 H (W.lit 1 [(.int .i64 0)] 2 [(0, 1, v17)] H fun v18 H =>
   W.append 1 2 v16 v18 H fun v19 H =>
   W.fieldAddr 1 v7 H fun v20 H =>
   W.put v20 v19 H fun _ H =>
   W.bin .add i_10 (.int .i64 1) H fun v21 H =>
   I1 (v21, ()) H))
  (fun H => W.getN 2 v7 H fun v22 H =>
   W.putN 2 v1 v22 H fun _ H =>
   W.getN 2 v1 H fun v23 H => Q v23 H)
def f110.j1 (Q : Post) (s_0 : Value) (n_1 : Value) (v7 : Value) (v1 : Value) (H : Heap) : Prop :=
  W.lit 5 [(.int .i64 0)] 2 [(0, 1, (.int .i64 1)), (1, 1, (.int .i64 2)), (2, 1, (.int .i64 5)), (3, 1, (.int .i64 20)), (4, 1, (.int .i64 100))] H fun v12 H =>
  W.call Tryz.prog (.func (.func 61) #[] #[]) #[s_0, v12] H fun v13 H =>
  W.loop (S := St [10]) (fun I1 s H => f110.l1 Q n_1 v7 s_0 v13 v1 I1 s.1 H) ((.int .i64 0), ()) H
def f110.l3 (Q : Post) (i_6 : Value) (v7 : Value) (v29 : Value) (I2 : St [6] → Heap → Prop) (I3 : St [8] → Heap → Prop) (k_8 : Value) (H : Heap) : Prop :=
  W.bin .lss k_8 i_6 H fun v30 H =>
  W.cond v30 H
  (fun H => W.fieldAddr 0 v7 H fun v31 H =>
   W.get v31 H fun v32 H =>
   W.indexAddr 1 v32 k_8 H fun v33 H =>
   W.get v33 H fun v34 H =>
   W.indexAddr 1 v34 i_6 H fun v35 H =>
   W.get v35 H fun v36 H =>
   W.indexAddr 1 v29 k_8 H fun v37 H =>
   W.put v37 v36 H fun _ H =>
   W.bin .add k_8 (.int .i64 1) H fun v38 H =>
   I3 (v38, ()) H)
  (fun H => W.bin .add i_6 (.int .i64 1) H fun v39 H =>
   I2 (v39, ()) H)
def f110.j2 (Q : Post) (s_0 : Value) (n_1 : Value) (v7 : Value) (v1 : Value) (H : Heap) : Prop :=
  f110.j1 Q s_0 n_1 v7 v1 H
def f110.l2 (Q : Post) (n_1 : Value) (v7 : Value) (s_0 : Value) (v1 : Value) (I2 : St [6] → Heap → Prop) (i_6 : Value) (H : Heap) : Prop :=
  W.bin .lss i_6 n_1 H fun v25 H =>
  W.cond v25 H
  (fun H => W.fieldAddr 0 v7 H fun v26 H =>
   W.get v26 H fun v27 H =>
   W.indexAddr 1 v27 i_6 H fun v28 H =>
   W.get v28 H fun v29 H =>
   W.loop (S := St [8]) (fun I3 s H => f110.l3 Q i_6 v7 v29 I2 I3 s.1 H) ((.int .i64 0), ()) H)
  (fun H => f110.j2 Q s_0 n_1 v7 v1 H)
def f110.w (Q : Post) (s_0 : Value) (n_1 : Value) (H : Heap) : Prop :=
  W.new [(.slice none 0 0), (.slice none 0 0)] 27 H fun v1 H =>
  W.lit 5 [(.int .i64 0)] 2 [(0, 1, (.int .i64 1)), (1, 1, (.int .i64 2)), (2, 1, (.int .i64 3)), (3, 1, (.int .i64 9)), (4, 1, (.int .i64 20))] H fun v2 H =>
  W.call Tryz.prog (.func (.func 61) #[] #[]) #[s_0, v2] H fun v3 H =>
  W.call Tryz.prog (.func (.func 133) #[] #[]) #[s_0, n_1, v3] H fun v4 H =>
  W.lit 0 [(.int .i64 0)] 2 [] H fun v5 H =>
  W.build [(.slice none 0 0), (.slice none 0 0)] [(0, 1, v4), (1, 1, v5)] H fun v6 H =>
  W.new [(.slice none 0 0), (.slice none 0 0)] 27 H fun v7 H =>
  W.putN 2 v7 v6 H fun _ H =>
  W.call Tryz.prog (.func (.func 60) #[] #[]) #[s_0, (.int .i64 4)] H fun v8 H =>
  W.bin .eql v8 (.int .i64 0) H fun v9 H =>
  W.cond v9 H
  (fun H => W.call Tryz.prog (.func (.func 134) #[] #[]) #[s_0, n_1] H fun v10 H =>
   W.fieldAddr 0 v7 H fun v11 H =>
   W.put v11 v10 H fun _ H =>
   f110.j1 Q s_0 n_1 v7 v1 H)
  (fun H => W.bin .eql v8 (.int .i64 1) H fun v24 H =>
   W.cond v24 H
   (fun H => W.loop (S := St [6]) (fun I2 s H => f110.l2 Q n_1 v7 s_0 v1 I2 s.1 H) ((.int .i64 0), ()) H)
   (fun H => f110.j2 Q s_0 n_1 v7 v1 H))
theorem f110.enter {Q : Post} {s_0 : Value} {n_1 : Value} {H : Heap} (h : f110.w Q s_0 n_1 H) : Runs Tryz.prog 110 #[s_0, n_1] H Q :=
  fn_enter (ann := [(16, [10]), (1000018, []), (7, [6]), (11, [8])]) (by kernel_rfl) Tryz.func110 rfl (by kernel_rfl) h (by kernel_rfl)

/- loop.example/g01343/spec.l01Draw -/
def f58.w (Q : Post) (s_0 : Value) (H : Heap) : Prop :=
  W.new [(.slice none 0 0), (.slice none 0 0)] 27 H fun v1 H =>
  W.lit 8 [(.int .i64 0)] 2 [(0, 1, (.int .i64 1)), (1, 1, (.int .i64 2)), (2, 1, (.int .i64 2)), (3, 1, (.int .i64 3)), (4, 1, (.int .i64 3)), (5, 1, (.int .i64 3)), (6, 1, (.int .i64 4)), (7, 1, (.int .i64 5))] H fun v2 H =>
  W.call Tryz.prog (.func (.func 61) #[] #[]) #[s_0, v2] H fun v3 H =>
  W.call Tryz.prog (.func (.func 110) #[] #[]) #[s_0, v3] H fun v4 H =>
  W.putN 2 v1 v4 H fun _ H =>
  W.getN 2 v1 H fun v5 H => Q v5 H
theorem f58.enter {Q : Post} {s_0 : Value} {H : Heap} (h : f58.w Q s_0 H) : Runs Tryz.prog 58 #[s_0] H Q :=
  fn_enter (ann := []) (by kernel_rfl) Tryz.func58 rfl (by kernel_rfl) h (by kernel_rfl)

/- loop.example/g01343/spec.l01Bad -/
def f62.w (Q : Post) (s_0 : Value) (p_1 : Value) (H : Heap) : Prop :=
  W.box p_1 27 H fun v1 H =>
  W.new [(.slice none 0 0), (.slice none 0 0)] 27 H fun v2 H =>
  W.call Tryz.prog (.func (.func 60) #[] #[]) #[s_0, (.int .i64 50)] H fun v3 H =>
  W.bin .eql v3 (.int .i64 0) H fun v4 H =>
  W.cond v4 H
  (fun H => W.build [(.slice none 0 0), (.slice none 0 0)] [] H fun v5 H =>
   W.putN 2 v2 v5 H fun _ H =>
   W.getN 2 v2 H fun v6 H => Q v6 H)
  (fun H => W.bin .eql v3 (.int .i64 1) H fun v7 H =>
   W.cond v7 H
   (fun H => W.getN 2 v1 H fun v8 H =>
    W.call Tryz.prog (.func (.func 66) #[] #[]) #[v8] H fun v9 H =>
    W.new [(.slice none 0 0), (.slice none 0 0)] 27 H fun v10 H =>
    W.putN 2 v10 v9 H fun _ H =>
    W.fieldAddr 0 v10 H fun v11 H =>
    W.get v11 H fun v12 H =>
    W.fieldAddr 0 v10 H fun v13 H =>
    W.get v13 H fun v14 H =>
    W.len v14 H fun v15 H =>
    W.call Tryz.prog (.func (.func 60) #[] #[]) #[s_0, v15] H fun v16 H =>
    W.chk (fun H k => W.get v11 H k) v12 H (W.indexAddr 1 v12 v16 H fun v17 H =>
    W.get v17 H fun v18 H =>
    W.lit 3 [(.int .i64 0)] 2 [(0, 1, (.int .i64 21)), (1, 1, (.int .i64 (-21))), (2, 1, (.int .i64 1099511627776))] H fun v19 H =>
    W.call Tryz.prog (.func (.func 61) #[] #[]) #[s_0, v19] H fun v20 H =>
    W.indexAddr 1 v18 (.int .i64 0) H fun v21 H =>
    W.put v21 v20 H fun _ H =>
    W.getN 2 v10 H fun v22 H =>
    W.putN 2 v2 v22 H fun _ H =>
    W.getN 2 v2 H fun v23 H => Q v23 H))
   (fun H => W.bin .eql v3 (.int .i64 2) H fun v24 H =>
    W.cond v24 H
    (fun H => W.getN 2 v1 H fun v25 H =>
     W.call Tryz.prog (.func (.func 66) #[] #[]) #[v25] H fun v26 H =>
     W.new [(.slice none 0 0), (.slice none 0 0)] 27 H fun v27 H =>
     W.putN 2 v27 v26 H fun _ H =>
     W.fieldAddr 1 v27 H fun v28 H =>
     W.get v28 H fun v29 H =>
     W.lit 2 [(.int .i64 0)] 2 [(0, 1, (.int .i64 101)), (1, 1, (.int .i64 (-101)))] H fun v30 H =>
     W.call Tryz.prog (.func (.func 61) #[] #[]) #[s_0, v30] H fun v31 H =>
     W.chk (fun H k => W.get v28 H k) v29 H (W.indexAddr 1 v29 (.int .i64 0) H fun v32 H =>
     W.put v32 v31 H fun _ H =>
     W.getN 2 v27 H fun v33 H =>
     W.putN 2 v2 v33 H fun _ H =>
     W.getN 2 v2 H fun v34 H => Q v34 H))
    (fun H => W.bin .eql v3 (.int .i64 3) H fun v35 H =>
     W.cond v35 H
     (fun H => W.getN 2 v1 H fun v36 H =>
      W.call Tryz.prog (.func (.func 66) #[] #[]) #[v36] H fun v37 H =>
      W.new [(.slice none 0 0), (.slice none 0 0)] 27 H fun v38 H =>
      W.putN 2 v38 v37 H fun _ H =>
      W.fieldAddr 1 v38 H fun v39 H =>
      W.get v39 H fun v40 H =>
      W.lit 1 [(.int .i64 0)] 2 [(0, 1, (.int .i64 0))] H fun v41 H =>
      W.append 1 2 v40 v41 H fun v42 H =>
      W.fieldAddr 1 v38 H fun v43 H =>
      W.put v43 v42 H fun _ H =>
      W.getN 2 v38 H fun v44 H =>
      W.putN 2 v2 v44 H fun _ H =>
      W.getN 2 v2 H fun v45 H => Q v45 H)
     (fun H => W.getN 2 v1 H fun v46 H =>
      W.putN 2 v2 v46 H fun _ H =>
      W.getN 2 v2 H fun v47 H => Q v47 H))))
theorem f62.enter {Q : Post} {s_0 : Value} {p_1 : Value} {H : Heap} (h : f62.w Q s_0 p_1 H) : Runs Tryz.prog 62 #[s_0, p_1] H Q :=
  fn_enter (ann := [(1000006, []), (1000011, [])]) (by kernel_rfl) Tryz.func62 rfl (by kernel_rfl) h (by kernel_rfl)


/-- A problem of a size that is not too large. -/
def SmallP (p : Prob) : Prop := p.1.length ≤ 6 ∧ (∀ r ∈ p.1, r.length ≤ 6) ∧ p.2.length ≤ 6

theorem fnJ66 {H0 : Heap} {Q : Post} {cs : List Value} {p : Prob} (hr : Has RProblem H0 cs p) (hm : okRows p.1) (hq : p.2.length ≤ 1048576) (hQ : ∀ H' w1 w2, Ab.Loc H0 [.grow Rd.int 2 w2 p.2, .data RSS [w1] p.1] H' → Q (.agg #[w1, w2]) H') :
    Runs Tryz.prog 66 #[.agg cs.toArray] H0 Q := by
  obtain ⟨u1, u2, rfl, r1, r2⟩ := hasProb hr
  have := hm.1
  refine f66.enter ?_
  unfold f66.w
  have h := ((Loc.start H0).lent r1).lent r2
  refine Wl.box h fun H b h => Wl.new h fun H b2 h => Wl.lit0 RS rfl h fun H g h => Wi.fieldAddr0 (Wl.get h rfl (Wi.call (fn94 h.rd (by omega) fun H w2 f2 => ?_)))
  have h := h.addG f2
  have c1 := (h.rd (cs := [g])).one
  have c2 := f2.fresh.read.one
  have k2 := f2.fresh.read.cell
  refine Wi.build (cells := [g, w2]) (by simp [fillA, c1, c2]) ?_
  have kall : ∀ (u : Value) (H : Heap), Has RSS H [u] (p.1.take 0) ∨ (∃ i, Has RSS H [u] (p.1.take i)) → [u, w2].all isCell = true := fun u H hu => by
    have k1 : [u].all isCell = true := by
      rcases hu with hu | ⟨i, hu⟩
      · exact hu.cell
      · exact hu.cell
    simp only [List.all_cons, List.all_nil, Bool.and_true] at k1 k2 ⊢
    rw [k1, k2]
    rfl
  refine Wl.new h fun H b3 h => Wl.putA h rfl rfl (kall _ H (.inl h.rd)) fun H h => ?_
  refine W.for_rule p.1.length (fun i s H => ∃ u, s = (.int .i64 (i : Nat), ()) ∧ Ab.Loc H0 [.box b3 [u, w2], .grow Rd.int 2 w2 p.2, .grow RS 25 u (p.1.take i), .box b2 [.slice none 0 0, .slice none 0 0], .box b [u1, u2], .lent RS [u2] p.2, .lent RSS [u1] p.1] H) ⟨_, rfl, h⟩ ?_
  rintro i s H J hi ⟨u, rfl, h⟩ hJ
  refine Wi.fieldAddr0 (Wl.get h rfl (Wl.len h (Wi.lssC (fun hlt => Wi.tru ?_) fun hge => Wi.fls ?_)))
  · have hix : i < p.1.length := by omega
    refine Wi.fieldAddr0 (Wl.get h rfl (Wi.fieldAddr0 (Wl.get h rfl (Wl.at1 rfl h hix fun w hw => Wi.callQ (fn94 hw (by have := hm.2 _ (List.getElem_mem hix); omega) fun H2 u2' f => ⟨f.le, ?_⟩)))))
    refine Wl.pushF rfl h f.fresh f.fresh.read.one (by simp; omega) fun H3 v' h => Wi.fieldAddr0 (Wl.put h (h.rd (cs := [v'])).cell1 (by simp) fun H h => Wi.add (by unfold I64; omega) (hJ _ _ hix ⟨v', rfl, ?_⟩))
    rw [List.take_succ_eq_append_getElem hix]
    exact h
  · have : i = p.1.length := by omega
    subst this
    rw [List.take_length] at h
    have k1 := h.rd (cs := [u])
    refine Wl.getA h rfl (Wl.putA h rfl rfl (kall _ H (.inr ⟨p.1.length, by rw [List.take_length]; exact k1⟩)) fun H h => Wl.getA h rfl (hQ _ _ _ ?_))
    exact ((h.asData (i := 2) rfl).cut 0).first 2

section
variable {H0 H : Heap} {L : List (Atom H0.next)} {Q : Post} {b i : Nat} {vc : Value} {code : List Int}


/-- What is drawn: a problem of the size n. -/
def IsN (n : Nat) (p : Prob) : Prop := p.1.length = n ∧ (∀ r ∈ p.1, r.length = n) ∧ p.2.length = n

/-- Numbers that are small. -/
def IsB (p : Prob) : Prop := (∀ r ∈ p.1, ∀ x ∈ r, x.natAbs ≤ 20) ∧ ∀ x ∈ p.2, x.natAbs ≤ 100

theorem drawOf_end {n b7 b1 : Nat} {u q : Value} {m : List (List Int)} (h : Ab.Loc H0 (.data RSS [u] m :: .grow Rd.int 2 q [] :: .box b7 [u, q] :: .box b1 [.slice none 0 0, .slice none 0 0] :: L) H) (hi : L[i]? = some (.src b vc code)) (hn : n ≤ 5) (hml : m.length = n) (hsm : Small n 20 m)
    (hQ : ∀ H' u1 u2 p, Ab.Loc H0 (.data RProblem [u1, u2] p :: L) H' → IsN n p → IsB p → Q (.agg #[u1, u2]) H') : f110.j1 Q (pt b 0) (.int .i64 (n : Nat)) (pt b7 0) (pt b1 0) H := by
  unfold f110.j1
  refine Wl.litN [1, 2, 5, 20, 100] rfl (by decide) (by simp [I64]) rfl h fun H vl h => Wi.call (fn61 (i := i + 5) h (by simpa using hi) (fun H h => h.rd (cs := [vl])) (by decide) fun H t h ht => ?_)
  have ht : 0 ≤ t ∧ t ≤ 100 := by simp at ht; omega
  have h := h.tl
  refine W.for_rule n (fun x st H => ∃ q ql, st = (.int .i64 (x : Nat), ()) ∧ ql.length = x ∧ (∀ z ∈ ql, z.natAbs ≤ 100) ∧ Ab.Loc H0 (.data RSS [u] m :: .grow Rd.int 2 q ql :: .box b7 [u, q] :: .box b1 [.slice none 0 0, .slice none 0 0] :: L) H) ⟨q, [], rfl, rfl, (fun z hz => by cases hz), h⟩ ?_
  rintro x st H J hx ⟨q, ql, rfl, hql, hqb, h⟩ hJ
  refine Wi.lssC (fun hlt => Wi.tru ?_) fun hge => Wi.fls ?_
  · have hxn : x < n := by omega
    refine Wi.fieldAddr (Wl.get h rfl (Wi.call (fn113 (i := i + 4) h (by simpa using hi) ht fun H z h hz => ?_)))
    refine Wi.chk (Wl.get h rfl ⟨rfl, rfl⟩) (Wl.pushP (r := Rd.int) (x := z) (i := 1) rfl rfl rfl (fun _ => ⟨rfl, rfl, by unfold I64; omega⟩) h (by omega) fun H q' h => ?_)
    have h : Ab.Loc H0 (.data RSS [u] m :: .grow Rd.int 2 q' (ql ++ [z]) :: .box b7 [u, q] :: .box b1 [.slice none 0 0, .slice none 0 0] :: L) H := h
    have k2 := (h.rd (cs := [q']) (r := RS)).cell1
    refine Wi.fieldAddr (Wl.put (b := b7) (o := 1) (i := 2) h k2 (by simp) fun H h => Wi.add (by unfold I64; omega) (hJ _ _ hxn ⟨q', ql ++ [z], rfl, by simp; omega, (fun w hw => by
      rcases List.mem_append.1 hw with hw | hw
      · exact hqb w hw
      · rw [List.mem_singleton] at hw; rw [hw]; omega), h⟩))
  · have k1 := (h.rd (cs := [u]) (r := RSS)).cell1
    have k2 := (h.rd (cs := [q]) (r := RS)).cell1
    have kc : [u, q].all isCell = true := by simp [k1, k2]
    refine Wl.getA (b := b7) h rfl (Wl.putA (b := b1) (i := 3) h rfl rfl kc fun H h => Wl.getA (b := b1) h rfl ?_)
    have h := (h.asData (i := 1) rfl).pair (i := 0) (j := 1) rfl rfl (by decide)
    exact hQ _ _ _ (m, ql) (((h.cut 1).cut 1).cut 1) ⟨hml, fun r hr => (hsm r hr).1, show ql.length = n by omega⟩ ⟨fun r hr x hx => by have := (hsm r hr).2 x hx; omega, hqb⟩

theorem fnB110 {n : Nat} (h : Ab.Loc H0 L H) (hi : L[i]? = some (.src b vc code)) (hn : n ≤ 5) (hQ : ∀ H' u1 u2 p, Ab.Loc H0 (.data RProblem [u1, u2] p :: L) H' → IsN n p → IsB p → Q (.agg #[u1, u2]) H') :
    Runs Tryz.prog 110 #[pt b 0, .int .i64 (n : Nat)] H Q := by
  refine f110.enter ?_
  unfold f110.w
  refine Wl.new h fun H b1 h => Wl.litN [1, 2, 3, 9, 20] rfl (by decide) (by simp [I64]) rfl h fun H vl h => Wi.call (fn61 (i := i + 2) h (by simpa using hi) (fun H h => h.rd (cs := [vl])) (by decide) fun H t h ht => ?_)
  have ht : 0 ≤ t ∧ t ≤ 20 := by simp at ht; omega
  have h := h.tl
  refine Wi.call (fn133 (i := i + 1) h (by simpa using hi) hn ⟨ht.1, by omega⟩ fun H u m h hml hsm => ?_)
  have hsm : Small n 20 m := fun r hr => ⟨(hsm r hr).1, fun z hz => by have := (hsm r hr).2 z hz; omega⟩
  refine Wl.lit0 (ty := 2) Rd.int rfl h fun H q h => ?_
  have c1 := (h.rd (cs := [u]) (r := RSS)).one
  have c2 := (h.rd (cs := [q]) (r := RS)).one
  have k1 := (h.rd (cs := [u]) (r := RSS)).cell1
  have k2 := (h.rd (cs := [q]) (r := RS)).cell1
  have kc : [u, q].all isCell = true := by simp [k1, k2]
  refine Wi.build (cells := [u, q]) (by simp [fillA, c1, c2]) (Wl.new h fun H b7 h => Wl.putA h rfl rfl kc fun H h => ?_)
  refine Wi.call (fn60 (i := i + 4) h (by simpa using hi) fun H x h hx hx4 => ?_)
  have go : ∀ H u q m, Ab.Loc H0 (.data RSS [u] m :: .grow Rd.int 2 q [] :: .box b7 [u, q] :: .box b1 [.slice none 0 0, .slice none 0 0] :: L) H → m.length = n → Small n 20 m → f110.j1 Q (pt b 0) (.int .i64 (n : Nat)) (pt b7 0) (pt b1 0) H := fun H u q m h hml hsm => drawOf_end h hi hn hml hsm hQ
  refine Wi.eqlC (fun _ => Wi.tru ?_) fun _ => Wi.fls ?_
  · refine Wi.call (fn134 (i := i + 4) h (by simpa using hi) hn fun H u2 m2 h hml2 hsm2 => ?_)
    have k3 := (h.rd (cs := [u2]) (r := RSS)).cell1
    refine Wi.fieldAddr (Wl.put (b := b7) (o := 0) (i := 1) h k3 (by simp) fun H h => ?_)
    have h : Ab.Loc H0 (.data RSS [u2] m2 :: .box b7 [u2, q] :: .grow Rd.int 2 q [] :: .data RSS [u] m :: .box b1 [.slice none 0 0, .slice none 0 0] :: L) H := h
    exact go _ u2 q m2 (((h.cut 3).front 2 rfl).front 1 rfl) hml2 hsm2
  · have h := (h.front 1 rfl).front 2 rfl
    have h : Ab.Loc H0 (.data RSS [u] m :: .grow Rd.int 2 q [] :: .box b7 [u, q] :: .box b1 [.slice none 0 0, .slice none 0 0] :: L) H := h
    refine Wi.eqlC (fun _ => Wi.tru ?_) fun _ => Wi.fls ?_
    · obtain ⟨us, hus, h⟩ := h.heads (i := 0) rfl rfl
      refine W.for_rule n (fun x st H => ∃ m, st = (.int .i64 (x : Nat), ()) ∧ m.length = n ∧ Small n 20 m ∧ Ab.Loc H0 (.rows RS u us m :: .grow Rd.int 2 q [] :: .box b7 [u, q] :: .box b1 [.slice none 0 0, .slice none 0 0] :: L) H) ⟨m, rfl, hml, hsm, h⟩ ?_
      rintro x st H J hxx ⟨m, rfl, hml, hsm, h⟩ hJ
      refine Wi.lssC (fun hlt => Wi.tru ?_) fun hge => Wi.fls ?_
      · have hxn : x < n := by omega
        refine Wi.fieldAddr (Wl.get (b := b7) (o := 0) h rfl (Wl.atRow rfl h (a := x) (by omega) fun w hw _ => ?_))
        refine W.for_rule x (fun y st H => ∃ m, st = (.int .i64 (y : Nat), ()) ∧ m.length = n ∧ Small n 20 m ∧ Ab.Loc H0 (.rows RS u us m :: .grow Rd.int 2 q [] :: .box b7 [u, q] :: .box b1 [.slice none 0 0, .slice none 0 0] :: L) H) ⟨m, rfl, hml, hsm, h⟩ ?_
        rintro y st H J2 hyy ⟨m, rfl, hml, hsm, h⟩ hJ2
        refine Wi.lssC (fun hlt2 => Wi.tru ?_) fun hge2 => Wi.fls ?_
        · have hyx : y < x := by omega
          have hym : y < m.length := by omega
          have hxm : x < m.length := by omega
          have g1 := hsm _ (List.getElem_mem hym)
          have g2 := hsm _ (List.getElem_mem hxm)
          refine Wi.fieldAddr (Wl.get (b := b7) (o := 0) h rfl (Wl.atRow rfl h (a := y) hym fun w2 _ hr2 => Wl.atIntH hr2 (i := x) (by omega) fun hI => ?_))
          have hz := g1.2 _ (List.getElem_mem (show x < m[y].length by omega))
          refine Wl.rowSet h (j := 0) rfl hw hxm (by omega) hI fun H h => Wi.add (by unfold I64; omega) (hJ2 _ _ hyx ⟨m.set x (m[x].set y m[y][x]), rfl, by rw [List.length_set]; exact hml, fun r hr => ?_, h⟩)
          rcases List.mem_or_eq_of_mem_set hr with g | g
          · exact hsm r g
          · rw [g, List.length_set]
            refine ⟨g2.1, fun q hq => ?_⟩
            rcases List.mem_or_eq_of_mem_set hq with g | g
            · exact g2.2 q g
            · rw [g]; exact hz
        · exact Wi.add (by unfold I64; omega) (hJ _ _ hxn ⟨m, rfl, hml, hsm, h⟩)
      · unfold f110.j2
        exact go _ u q m (h.unrows (i := 0) rfl) hml hsm
    · unfold f110.j2
      exact go _ u q m h hml hsm

theorem fnB58 (h : Ab.Loc H0 L H) (hi : L[i]? = some (.src b vc code)) (hQ : ∀ H' u1 u2 p n, Ab.Loc H0 (.data RProblem [u1, u2] p :: L) H' → 1 ≤ n ∧ n ≤ 5 → IsN n p → IsB p → Q (.agg #[u1, u2]) H') : Runs Tryz.prog 58 #[pt b 0] H Q := by
  refine f58.enter ?_
  unfold f58.w
  refine Wl.new h fun H b1 h => Wl.litN [1, 2, 2, 3, 3, 3, 4, 5] rfl (by decide) (by simp [I64]) rfl h fun H vl h => Wi.call (fn61 (i := i + 2) h (by simpa using hi) (fun H h => h.rd (cs := [vl])) (by decide) fun H t h ht => ?_)
  have ht : 1 ≤ t ∧ t ≤ 5 := by simp at ht; omega
  obtain ⟨n, rfl⟩ : ∃ n : Nat, t = (n : Int) := ⟨t.toNat, by omega⟩
  refine Wi.call (fnB110 (i := i + 1) h.tl (by simpa using hi) (by omega) fun H u1 u2 p h hp hb => ?_)
  have kc := (h.rd (cs := [u1, u2]) (r := RProblem)).cell
  refine Wl.putA (b := b1) (i := 1) h rfl rfl kc fun H h => Wl.getA (b := b1) h rfl ?_
  exact hQ _ u1 u2 p n (h.cut 1) ⟨by omega, by omega⟩ hp hb

theorem fn58 (h : Ab.Loc H0 L H) (hi : L[i]? = some (.src b vc code)) (hQ : ∀ H' u1 u2 p n, Ab.Loc H0 (.data RProblem [u1, u2] p :: L) H' → 1 ≤ n ∧ n ≤ 5 → IsN n p → Q (.agg #[u1, u2]) H') : Runs Tryz.prog 58 #[pt b 0] H Q :=
  fnB58 h hi fun H' u1 u2 p n h hn hp _ => hQ H' u1 u2 p n h hn hp

theorem nilP (h : Ab.Loc H0 L H) : Ab.Loc H0 (.data RProblem [.slice none 0 0, .slice none 0 0] ([], []) :: L) H := h.add (fresh_nil2 (.refl _))

theorem fn62 {u1 u2 : Value} {p : Prob} {n : Nat} (h : Ab.Loc H0 (.data RProblem [u1, u2] p :: L) H) (hi : L[i]? = some (.src b vc code)) (hn : 1 ≤ n ∧ n ≤ 5) (hp : IsN n p) (hQ : ∀ H' u1 u2 p, Ab.Loc H0 (.data RProblem [u1, u2] p :: L) H' → SmallP p → Q (.agg #[u1, u2]) H') :
    Runs Tryz.prog 62 #[pt b 0, .agg #[u1, u2]] H Q := by
  obtain ⟨p1, p2, p3⟩ := hp
  have hok : okRows p.1 := ⟨by omega, fun r hr => by have := p2 r hr; omega⟩
  refine f62.enter ?_
  unfold f62.w
  refine Wl.box h fun H bp h => Wl.new h fun H b2 h => Wi.call (fn60 (i := i + 3) h (by simpa using hi) fun H x h hx _ => ?_)
  have h : Ab.Loc H0 (.box b2 [.slice none 0 0, .slice none 0 0] :: .box bp [u1, u2] :: .data RProblem [u1, u2] p :: L) H := h
  refine Wi.eqlC (fun _ => Wi.tru ?_) fun _ => Wi.fls ?_
  · refine Wi.build (cells := [.slice none 0 0, .slice none 0 0]) rfl (Wl.putA (b := b2) (i := 0) h rfl rfl rfl fun H h => Wl.getA (b := b2) h rfl ?_)
    have h : Ab.Loc H0 (.box b2 [.slice none 0 0, .slice none 0 0] :: .box bp [u1, u2] :: .data RProblem [u1, u2] p :: L) H := h
    exact hQ _ _ _ ([], []) (nilP (((h.cut 0).cut 0).cut 0)) ⟨by simp, by simp, by simp⟩
  refine Wi.eqlC (fun _ => Wi.tru ?_) fun _ => Wi.fls ?_
  · refine Wl.getA (b := bp) h rfl (Wi.call (fnJ66 (h.rd (cs := [u1, u2])) hok (by omega) fun H w1 w2 k => ?_))
    have h : Ab.Loc H0 (.grow Rd.int 2 w2 p.2 :: .data RSS [w1] p.1 :: .box b2 [.slice none 0 0, .slice none 0 0] :: .box bp [u1, u2] :: .data RProblem [u1, u2] p :: L) H := h.join (M' := [.grow Rd.int 2 w2 p.2, .data RSS [w1] p.1]) k fun j a hj => by
      match j, hj with
      | 0, hj => simp at hj; subst hj; exact ⟨_, rfl, fun bs h => h⟩
      | 1, hj => simp at hj; subst hj; exact ⟨_, rfl, fun bs h => h⟩
      | j + 2, hj => simp at hj
    have k1 := (h.rd (cs := [w1]) (r := RSS)).cell1
    have k2 := (h.rd (cs := [w2]) (r := RS)).cell1
    have kc : [w1, w2].all isCell = true := by simp [k1, k2]
    refine Wl.new h fun H b3 h => Wl.putA h rfl rfl kc fun H h => Wi.fieldAddr (Wl.get (b := b3) (o := 0) h rfl (Wi.fieldAddr (Wl.get (b := b3) (o := 0) h rfl (Wl.len (v := w1) (xs := p.1) h ?_))))
    refine Wi.call (fn60 (i := i + 6) h (by simpa using hi) fun H y h hy hyn => ?_)
    have hlt := hyn (by omega)
    obtain ⟨y, rfl⟩ : ∃ k : Nat, y = (k : Int) := ⟨y.toNat, by omega⟩
    have hyl : y < p.1.length := by omega
    refine Wi.chk (Wl.get (b := b3) (o := 0) h rfl ⟨rfl, rfl⟩) ?_
    have h : Ab.Loc H0 (.box b3 [w1, w2] :: .grow Rd.int 2 w2 p.2 :: .data RSS [w1] p.1 :: .box b2 [.slice none 0 0, .slice none 0 0] :: .box bp [u1, u2] :: .data RProblem [u1, u2] p :: L) H := h
    obtain ⟨us, hus, h⟩ := h.heads (i := 2) rfl rfl
    refine Wl.atRow rfl h (a := y) hyl fun w hw _ => ?_
    refine Wl.litN [21, -21, 1099511627776] rfl (by decide) (by simp [I64]) rfl h fun H vl h => Wi.call (fn61 (i := i + 7) h (by simpa using hi) (fun H h => h.rd (cs := [vl])) (by decide) fun H t h ht => ?_)
    have ht : I64 t := by simp at ht; unfold I64; omega
    have hr1 := p2 _ (List.getElem_mem hyl)
    refine Wl.rowSet h (j := 3) rfl hw hyl (i := 0) (by omega) ht fun H h => ?_
    have h := h.tl.unrows (i := 2) rfl
    have h : Ab.Loc H0 (.box b3 [w1, w2] :: .grow Rd.int 2 w2 p.2 :: .data RSS [w1] (p.1.set y (p.1[y].set 0 t)) :: .box b2 [.slice none 0 0, .slice none 0 0] :: .box bp [u1, u2] :: .data RProblem [u1, u2] p :: L) H := h
    refine Wl.getA (b := b3) h rfl (Wl.putA (b := b2) (i := 3) h rfl rfl kc fun H h => Wl.getA (b := b2) h rfl ?_)
    have h := (h.asData (i := 1) rfl).pair (i := 2) (j := 1) rfl rfl (by decide)
    have h : Ab.Loc H0 (.box b3 [w1, w2] :: .emp :: .data RProblem [w1, w2] (p.1.set y (p.1[y].set 0 t), p.2) :: .box b2 [w1, w2] :: .box bp [u1, u2] :: .data RProblem [u1, u2] p :: L) H := h
    refine hQ _ _ _ _ (((((h.cut 0).cut 0).cut 1).cut 1).cut 1) ⟨by simp; omega, fun r hr => ?_, by simp; omega⟩
    rcases List.mem_or_eq_of_mem_set hr with g | g
    · have := p2 r g; omega
    · rw [g, List.length_set]; omega
  refine Wi.eqlC (fun _ => Wi.tru ?_) fun _ => Wi.fls ?_
  · refine Wl.getA (b := bp) h rfl (Wi.call (fnJ66 (h.rd (cs := [u1, u2])) hok (by omega) fun H w1 w2 k => ?_))
    have h : Ab.Loc H0 (.grow Rd.int 2 w2 p.2 :: .data RSS [w1] p.1 :: .box b2 [.slice none 0 0, .slice none 0 0] :: .box bp [u1, u2] :: .data RProblem [u1, u2] p :: L) H := h.join (M' := [.grow Rd.int 2 w2 p.2, .data RSS [w1] p.1]) k fun j a hj => by
      match j, hj with
      | 0, hj => simp at hj; subst hj; exact ⟨_, rfl, fun bs h => h⟩
      | 1, hj => simp at hj; subst hj; exact ⟨_, rfl, fun bs h => h⟩
      | j + 2, hj => simp at hj
    have k1 := (h.rd (cs := [w1]) (r := RSS)).cell1
    have k2 := (h.rd (cs := [w2]) (r := RS)).cell1
    have kc : [w1, w2].all isCell = true := by simp [k1, k2]
    have h := h.asData (i := 0) rfl
    refine Wl.new h fun H b3 h => Wl.putA h rfl rfl kc fun H h => Wi.fieldAddr (Wl.get (b := b3) (o := 1) h rfl ?_)
    refine Wl.litN [101, -101] rfl (by decide) (by simp [I64]) rfl h fun H vl h => Wi.call (fn61 (i := i + 7) h (by simpa using hi) (fun H h => h.rd (cs := [vl])) (by decide) fun H t h ht => ?_)
    have ht : I64 t := by simp at ht; unfold I64; omega
    refine Wi.chk (Wl.get (b := b3) (o := 1) h rfl ⟨rfl, rfl⟩) (Wl.setInt (v := w2) (j := 2) h (i := 0) (by omega) ht fun H h => ?_)
    have h : Ab.Loc H0 (.data RS [vl] [101, -101] :: .box b3 [w1, w2] :: .data RS [w2] (p.2.set 0 t) :: .data RSS [w1] p.1 :: .box b2 [.slice none 0 0, .slice none 0 0] :: .box bp [u1, u2] :: .data RProblem [u1, u2] p :: L) H := h
    refine Wl.getA (b := b3) h rfl (Wl.putA (b := b2) (i := 4) h rfl rfl kc fun H h => Wl.getA (b := b2) h rfl ?_)
    have h := h.pair (i := 3) (j := 2) rfl rfl (by decide)
    have h : Ab.Loc H0 (.data RS [vl] [101, -101] :: .box b3 [w1, w2] :: .emp :: .data RProblem [w1, w2] (p.1, p.2.set 0 t) :: .box b2 [w1, w2] :: .box bp [u1, u2] :: .data RProblem [u1, u2] p :: L) H := h
    exact hQ _ _ _ _ ((((((h.cut 0).cut 0).cut 0).cut 1).cut 1).cut 1) ⟨by simp; omega, fun r hr => by have := p2 r hr; omega, by simp; omega⟩
  refine Wi.eqlC (fun _ => Wi.tru ?_) fun _ => Wi.fls ?_
  · refine Wl.getA (b := bp) h rfl (Wi.call (fnJ66 (h.rd (cs := [u1, u2])) hok (by omega) fun H w1 w2 k => ?_))
    have h : Ab.Loc H0 (.grow Rd.int 2 w2 p.2 :: .data RSS [w1] p.1 :: .box b2 [.slice none 0 0, .slice none 0 0] :: .box bp [u1, u2] :: .data RProblem [u1, u2] p :: L) H := h.join (M' := [.grow Rd.int 2 w2 p.2, .data RSS [w1] p.1]) k fun j a hj => by
      match j, hj with
      | 0, hj => simp at hj; subst hj; exact ⟨_, rfl, fun bs h => h⟩
      | 1, hj => simp at hj; subst hj; exact ⟨_, rfl, fun bs h => h⟩
      | j + 2, hj => simp at hj
    have k1 := (h.rd (cs := [w1]) (r := RSS)).cell1
    have k2 := (h.rd (cs := [w2]) (r := RS)).cell1
    have kc : [w1, w2].all isCell = true := by simp [k1, k2]
    refine Wl.new h fun H b3 h => Wl.putA h rfl rfl kc fun H h => Wi.fieldAddr (Wl.get (b := b3) (o := 1) h rfl ?_)
    refine Wl.pushP (r := Rd.int) (x := (0 : Int)) (i := 1) rfl rfl rfl (fun _ => ⟨rfl, rfl, by unfold I64; omega⟩) h (by omega) fun H w2' h => ?_
    have h : Ab.Loc H0 (.box b3 [w1, w2] :: .grow Rd.int 2 w2' (p.2 ++ [0]) :: .data RSS [w1] p.1 :: .box b2 [.slice none 0 0, .slice none 0 0] :: .box bp [u1, u2] :: .data RProblem [u1, u2] p :: L) H := h
    have k3 := (h.rd (cs := [w2']) (r := RS)).cell1
    have kc2 : [w1, w2'].all isCell = true := by simp [k1, k3]
    refine Wi.fieldAddr (Wl.put (b := b3) (o := 1) (i := 0) h k3 (by simp) fun H h => ?_)
    have h : Ab.Loc H0 (.box b3 [w1, w2'] :: .grow Rd.int 2 w2' (p.2 ++ [0]) :: .data RSS [w1] p.1 :: .box b2 [.slice none 0 0, .slice none 0 0] :: .box bp [u1, u2] :: .data RProblem [u1, u2] p :: L) H := h
    refine Wl.getA (b := b3) h rfl (Wl.putA (b := b2) (i := 3) h rfl rfl kc2 fun H h => Wl.getA (b := b2) h rfl ?_)
    have h := (h.asData (i := 1) rfl).pair (i := 2) (j := 1) rfl rfl (by decide)
    have h : Ab.Loc H0 (.box b3 [w1, w2'] :: .emp :: .data RProblem [w1, w2'] (p.1, p.2 ++ [0]) :: .box b2 [w1, w2'] :: .box bp [u1, u2] :: .data RProblem [u1, u2] p :: L) H := h
    exact hQ _ _ _ _ (((((h.cut 0).cut 0).cut 1).cut 1).cut 1) ⟨by simp; omega, fun r hr => by have := p2 r hr; omega, by simp; omega⟩
  · have kc := (h.rd (cs := [u1, u2]) (r := RProblem)).cell
    refine Wl.getA (b := bp) h rfl (Wl.putA (b := b2) (i := 0) h rfl rfl kc fun H h => Wl.getA (b := b2) h rfl ?_)
    have h : Ab.Loc H0 (.box b2 [u1, u2] :: .box bp [u1, u2] :: .data RProblem [u1, u2] p :: L) H := h
    exact hQ _ _ _ _ ((h.cut 0).cut 0) ⟨by omega, fun r hr => by have := p2 r hr; omega, by omega⟩


end

end Go.Proofs.YtgdiebnokgnniaaGreatDoor

/-! Small problems are small. No condition. -/
namespace Go.Proofs.YtgdiebnokgnniaaGreatDoor
open Go.Ab

theorem SmallP.w {p : Prob} (h : SmallP p) : wProblem p ≤ 1048576 := by
  obtain ⟨h1, h2, h3⟩ := h
  have := szl_le (w := List.length) (c := 6) p.1 h2
  simp only [szp, wl]
  omega

end Go.Proofs.YtgdiebnokgnniaaGreatDoor

/-! Draws: sets, orders, rows to be scaled. No condition. -/
namespace Go.Proofs.YtgdiebnokgnniaaGreatDoor
open Go.Ab

/- loop.example/g01343/spec.l01Near -/
def f67.w (Q : Post) (s_0 : Value) (most_1 : Value) (H : Heap) : Prop :=
  W.call Tryz.prog (.func (.func 60) #[] #[]) #[s_0, (.int .i64 14)] H fun v1 H =>
  W.bin .eql v1 (.int .i64 0) H fun v2 H =>
  W.cond v2 H
  (fun H => W.bin .add most_1 (.int .i64 1) H fun v3 H =>
   W.lit 4 [(.int .i64 0)] 2 [(0, 1, (.int .i64 (-1))), (1, 1, v3), (2, 1, (.int .i64 1099511627776)), (3, 1, (.int .i64 (-4611686018427387904)))] H fun v4 H =>
   W.call Tryz.prog (.func (.func 61) #[] #[]) #[s_0, v4] H fun v5 H =>
   Q v5 H)
  (fun H => W.bin .add most_1 (.int .i64 1) H fun v6 H =>
   W.call Tryz.prog (.func (.func 60) #[] #[]) #[s_0, v6] H fun v7 H =>
   Q v7 H)
theorem f67.enter {Q : Post} {s_0 : Value} {most_1 : Value} {H : Heap} (h : f67.w Q s_0 most_1 H) : Runs Tryz.prog 67 #[s_0, most_1] H Q :=
  fn_enter (ann := []) (by kernel_rfl) Tryz.func67 rfl (by kernel_rfl) h (by kernel_rfl)

/- loop.example/g01343/spec.l01With -/
def f34.w (Q : Post) (code_0 : Value) (H : Heap) : Prop :=
  W.new [(.slice none 0 0), (.slice none 0 0)] 27 H fun v1 H =>
  W.call Tryz.prog (.func (.func 57) #[] #[]) #[code_0] H fun v2 H =>
  W.call Tryz.prog (.func (.func 58) #[] #[]) #[v2] H fun v3 H =>
  W.new [(.slice none 0 0), (.slice none 0 0)] 27 H fun v4 H =>
  W.putN 2 v4 v3 H fun _ H =>
  W.fieldAddr 1 v4 H fun v5 H =>
  W.get v5 H fun v6 H =>
  W.len v6 H fun v7 H =>
  W.conv .u64 v7 H fun v8 H =>
  W.bin .shl (.int .i64 1) v8 H fun v9 H =>
  W.bin .sub v9 (.int .i64 1) H fun v10 H =>
  W.call Tryz.prog (.func (.func 67) #[] #[]) #[v2, v10] H fun v11 H =>
  W.getN 2 v4 H fun v12 H =>
  W.call Tryz.prog (.func (.func 62) #[] #[]) #[v2, v12] H fun v13 H =>
  W.putN 2 v1 v13 H fun _ H =>
  W.getN 2 v1 H fun v14 H => Q (.tuple #[v14, v11]) H
theorem f34.enter {Q : Post} {code_0 : Value} {H : Heap} (h : f34.w Q code_0 H) : Runs Tryz.prog 34 #[code_0] H Q :=
  fn_enter (ann := []) (by kernel_rfl) Tryz.func34 rfl (by kernel_rfl) h (by kernel_rfl)

/- loop.example/g01343/spec.DrawPointOf -/
def f5.w (Q : Post) (code_0 : Value) (H : Heap) : Prop :=
  W.new [(.slice none 0 0), (.slice none 0 0)] 27 H fun v1 H =>
  W.call Tryz.prog (.func (.func 34) #[] #[]) #[code_0] H fun v2 H =>
  W.extract 0 v2 H fun v3 H =>
  W.extract 1 v2 H fun v4 H =>
  W.new [(.slice none 0 0), (.slice none 0 0)] 27 H fun v5 H =>
  W.putN 2 v5 v3 H fun _ H =>
  W.getN 2 v5 H fun v6 H =>
  W.putN 2 v1 v6 H fun _ H =>
  W.getN 2 v1 H fun v7 H => Q (.tuple #[v7, v4]) H
theorem f5.enter {Q : Post} {code_0 : Value} {H : Heap} (h : f5.w Q code_0 H) : Runs Tryz.prog 5 #[code_0] H Q :=
  fn_enter (ann := []) (by kernel_rfl) Tryz.func5 rfl (by kernel_rfl) h (by kernel_rfl)

/- loop.example/g01343/spec.DrawColumnsOf -/
def f28.w (Q : Post) (code_0 : Value) (H : Heap) : Prop :=
  W.new [(.slice none 0 0), (.slice none 0 0)] 27 H fun v1 H =>
  W.call Tryz.prog (.func (.func 34) #[] #[]) #[code_0] H fun v2 H =>
  W.extract 0 v2 H fun v3 H =>
  W.extract 1 v2 H fun v4 H =>
  W.new [(.slice none 0 0), (.slice none 0 0)] 27 H fun v5 H =>
  W.putN 2 v5 v3 H fun _ H =>
  W.getN 2 v5 H fun v6 H =>
  W.putN 2 v1 v6 H fun _ H =>
  W.getN 2 v1 H fun v7 H => Q (.tuple #[v7, v4]) H
theorem f28.enter {Q : Post} {code_0 : Value} {H : Heap} (h : f28.w Q code_0 H) : Runs Tryz.prog 28 #[code_0] H Q :=
  fn_enter (ann := []) (by kernel_rfl) Tryz.func28 rfl (by kernel_rfl) h (by kernel_rfl)

/- loop.example/g01343/spec.DrawScaleRow -/
def f21.w (Q : Post) (code_0 : Value) (H : Heap) : Prop :=
  W.new [(.slice none 0 0), (.slice none 0 0)] 27 H fun v1 H =>
  W.call Tryz.prog (.func (.func 57) #[] #[]) #[code_0] H fun v2 H =>
  W.call Tryz.prog (.func (.func 58) #[] #[]) #[v2] H fun v3 H =>
  W.new [(.slice none 0 0), (.slice none 0 0)] 27 H fun v4 H =>
  W.putN 2 v4 v3 H fun _ H =>
  W.fieldAddr 1 v4 H fun v5 H =>
  W.get v5 H fun v6 H =>
  W.len v6 H fun v7 H =>
  W.bin .sub v7 (.int .i64 1) H fun v8 H =>
  W.call Tryz.prog (.func (.func 67) #[] #[]) #[v2, v8] H fun v9 H =>
  W.getN 2 v4 H fun v10 H =>
  W.call Tryz.prog (.func (.func 62) #[] #[]) #[v2, v10] H fun v11 H =>
  W.lit 8 [(.int .i64 0)] 2 [(0, 1, (.int .i64 1)), (1, 1, (.int .i64 2)), (2, 1, (.int .i64 3)), (3, 1, (.int .i64 5)), (4, 1, (.int .i64 10)), (5, 1, (.int .i64 100)), (6, 1, (.int .i64 0)), (7, 1, (.int .i64 101))] H fun v12 H =>
  W.call Tryz.prog (.func (.func 61) #[] #[]) #[v2, v12] H fun v13 H =>
  W.putN 2 v1 v11 H fun _ H =>
  W.getN 2 v1 H fun v14 H => Q (.tuple #[v14, v9, v13]) H
theorem f21.enter {Q : Post} {code_0 : Value} {H : Heap} (h : f21.w Q code_0 H) : Runs Tryz.prog 21 #[code_0] H Q :=
  fn_enter (ann := []) (by kernel_rfl) Tryz.func21 rfl (by kernel_rfl) h (by kernel_rfl)

/- loop.example/g01343/spec.l01DrawOrder -/
def f59.l1 (Q : Post) (n_1 : Value) (s_0 : Value) (I1 : St [5, 6] → Heap → Prop) (out_5 : Value) (i_6 : Value) (H : Heap) : Prop :=
  W.bin .lss i_6 n_1 H fun v2 H =>
  W.cond v2 H
  (fun H => W.bin .add i_6 (.int .i64 1) H fun v3 H =>
   W.call Tryz.prog (.func (.func 60) #[] #[]) #[s_0, v3] H fun v4 H =>
   W.slice 1 out_5 none (some v4) H fun v5 H =>
   W.callQ Tryz.prog (.func (.func 94) #[] #[]) #[v5] H fun v6 H =>
   W.lit 1 [(.int .i64 0)] 2 [(0, 1, i_6)] H fun v7 H =>
   (fun Hk6 => W.append 1 2 v6 v7 H fun v8 H =>
   W.slice 1 out_5 (some v4) none H fun v9 H =>
   W.chk (fun H k => W.slice 1 out_5 (some v4) none H k) v9 Hk6 (W.append 1 2 v8 v9 H fun v10 H =>
   W.bin .add i_6 (.int .i64 1) H fun v11 H =>
   I1 (v10, v11, ()) H)) H)
  (fun H => Q out_5 H)
def f59.w (Q : Post) (s_0 : Value) (n_1 : Value) (H : Heap) : Prop :=
  W.lit 0 [(.int .i64 0)] 2 [] H fun v1 H =>
  W.loop (S := St [5, 6]) (fun I1 s H => f59.l1 Q n_1 s_0 I1 s.1 s.2.1 H) (v1, (.int .i64 0), ()) H
theorem f59.enter {Q : Post} {s_0 : Value} {n_1 : Value} {H : Heap} (h : f59.w Q s_0 n_1 H) : Runs Tryz.prog 59 #[s_0, n_1] H Q :=
  fn_enter (ann := [(3, [5, 6])]) (by kernel_rfl) Tryz.func59 rfl (by kernel_rfl) h (by kernel_rfl)

/- loop.example/g01343/spec.DrawRenumberProblem -/
def f18.j1 (Q : Post) (v4 : Value) (v2 : Value) (v1 : Value) (list_6 : Value) (H : Heap) : Prop :=
  W.getN 2 v4 H fun v13 H =>
  W.call Tryz.prog (.func (.func 62) #[] #[]) #[v2, v13] H fun v14 H =>
  W.putN 2 v1 v14 H fun _ H =>
  W.getN 2 v1 H fun v15 H => Q (.tuple #[v15, list_6]) H
def f18.j2 (Q : Post) (v4 : Value) (v2 : Value) (v1 : Value) (v8 : Value) (H : Heap) : Prop :=
  f18.j1 Q v4 v2 v1 v8 H
def f18.w (Q : Post) (code_0 : Value) (H : Heap) : Prop :=
  W.new [(.slice none 0 0), (.slice none 0 0)] 27 H fun v1 H =>
  W.call Tryz.prog (.func (.func 57) #[] #[]) #[code_0] H fun v2 H =>
  W.call Tryz.prog (.func (.func 58) #[] #[]) #[v2] H fun v3 H =>
  W.new [(.slice none 0 0), (.slice none 0 0)] 27 H fun v4 H =>
  W.putN 2 v4 v3 H fun _ H =>
  W.fieldAddr 1 v4 H fun v5 H =>
  W.get v5 H fun v6 H =>
  W.len v6 H fun v7 H =>
  W.call Tryz.prog (.func (.func 59) #[] #[]) #[v2, v7] H fun v8 H =>
  W.call Tryz.prog (.func (.func 60) #[] #[]) #[v2, (.int .i64 16)] H fun v9 H =>
  W.bin .eql v9 (.int .i64 0) H fun v10 H =>
  W.cond v10 H
  (fun H => W.lit 1 [(.int .i64 0)] 2 [(0, 1, (.int .i64 0))] H fun v11 H =>
   W.append 1 2 v8 v11 H fun v12 H =>
   f18.j1 Q v4 v2 v1 v12 H)
  (fun H => W.bin .eql v9 (.int .i64 1) H fun v16 H =>
   W.cond v16 H
   (fun H => W.len v8 H fun v17 H =>
    W.bin .sub v17 (.int .i64 1) H fun v18 H =>
    W.indexAddr 1 v8 v18 H fun v19 H =>
    W.get v19 H fun v20 H =>
    W.lit 3 [(.int .i64 0)] 2 [(0, 1, (.int .i64 (-1))), (1, 1, (.int .i64 5)), (2, 1, v20)] H fun v21 H =>
    W.call Tryz.prog (.func (.func 61) #[] #[]) #[v2, v21] H fun v22 H =>
    W.indexAddr 1 v8 (.int .i64 0) H fun v23 H =>
    W.put v23 v22 H fun _ H =>
    f18.j2 Q v4 v2 v1 v8 H)
   (fun H => f18.j2 Q v4 v2 v1 v8 H))
theorem f18.enter {Q : Post} {code_0 : Value} {H : Heap} (h : f18.w Q code_0 H) : Runs Tryz.prog 18 #[code_0] H Q :=
  fn_enter (ann := []) (by kernel_rfl) Tryz.func18 rfl (by kernel_rfl) h (by kernel_rfl)


/-- Two heaps that both know a slice cut it alike. -/
theorem W.slice_two {sz : Nat} {x : Value} {lo hi : Option Value} {H1 H2 : Heap} {K1 K2 K : Post} (h1 : W.slice sz x lo hi H1 K1) (h2 : W.slice sz x lo hi H2 K2)
    (k : ∀ w, K2 w H2 → W.slice sz x lo hi H1 (fun v' H' => v' = w ∧ H' = H1) → K w H2) : W.slice sz x lo hi H2 K := by
  unfold W.slice at h1 h2 k ⊢
  split at h1
  · rename_i base n e
    split at h1
    · rename_i l hh hl hhi
      simp only [hl, hhi] at h2 k ⊢
      obtain ⟨a1, a2, a3, h1⟩ := h1
      obtain ⟨_, _, _, h2⟩ := h2
      refine ⟨a1, a2, a3, ?_⟩
      split at h1
      · exact k _ h2 ⟨a1, a2, a3, rfl, trivial⟩
      · rename_i a
        by_cases g1 : l.toNat = e / 2
        · simp only [if_pos g1] at h1 h2 k ⊢
          by_cases g2 : e % 2 = 0
          · simp only [if_pos g2] at h1 h2 k ⊢
            exact k _ h2 ⟨a1, a2, a3, rfl, trivial⟩
          · simp only [if_neg g2] at h1 h2 k ⊢
            exact k _ h2 ⟨a1, a2, a3, rfl, trivial⟩
        · simp only [if_neg g1] at h1 h2 k ⊢
          by_cases g2 : l.toNat = 0
          · simp only [if_pos g2] at h1 h2 k ⊢
            exact k _ h2 ⟨a1, a2, a3, rfl, trivial⟩
          · simp only [if_neg g2] at h1 h2 k ⊢
            exact ⟨h2.1, k _ h2.2 ⟨a1, a2, a3, h1.1, rfl, trivial⟩⟩
    · exact h1.elim
  · exact h1.elim

theorem Wl.cutHi2 {α : Type} {r : Rd α} {ty : TypeId} {m : Nat} {H1 H2 : Heap} {K : Post} (hm : r.n = m) {v : Value} {xs : List α} {k : Nat} {κ : IntKind} (h1 : Has (Rd.gslice r ty) H1 [v] xs) (h2 : Has (Rd.gslice r ty) H2 [v] xs) (hk : k ≤ xs.length)
    (c : ∀ w, Has (Rd.slice r) H2 [w] (xs.drop k) → W.slice m v (some (.int κ k)) none H1 (fun v' H' => v' = w ∧ H' = H1) → K w H2) : W.slice m v (some (.int κ k)) none H2 K :=
  W.slice_two (K1 := fun _ _ => True) (K2 := fun w H => Has (Rd.slice r) H [w] (xs.drop k)) (Wl.cutHiG hm h1 hk fun _ _ => trivial) (Wl.cutHiG hm h2 hk fun _ g => g) c

theorem IsN.pb {n : Nat} {p : Prob} (h : IsN n p) (b : IsB p) (hn : 1 ≤ n ∧ n ≤ 5) : PB n p := by
  obtain ⟨h1, h2, h3⟩ := h
  refine ⟨⟨h1, h2⟩, h3, by omega, hn.2, fun r c => ?_, b.2⟩
  simp only [mAt, List.getD_eq_getElem?_getD]
  cases e1 : p.1[r]? with
  | none => simp
  | some row =>
    simp only [Option.getD_some]
    cases e2 : row[c]? with
    | none => simp
    | some x =>
      simp only [Option.getD_some]
      exact b.1 row (List.mem_of_getElem? e1) x (List.mem_of_getElem? e2)

section
variable {H0 H : Heap} {L : List (Atom H0.next)} {Q : Post} {b i : Nat} {vc : Value} {code : List Int}

theorem fnN67 {m : Int} (h : Ab.Loc H0 L H) (hi : L[i]? = some (.src b vc code)) (hm : -1 ≤ m ∧ m ≤ 100) (hQ : ∀ H' (x : Int), Ab.Loc H0 L H' → I64 x → Q (.int .i64 x) H') : Runs Tryz.prog 67 #[pt b 0, .int .i64 m] H Q := by
  refine f67.enter ?_
  unfold f67.w
  refine Wi.call (fn60 (i := i) h hi fun H x h hx _ => Wi.eqlC (fun _ => Wi.tru ?_) fun _ => Wi.fls ?_)
  · refine Wi.add (by unfold I64; omega) (Wl.litN [-1, m + 1, 1099511627776, -4611686018427387904] rfl (by simp) (fun x hx => by
      simp only [List.mem_cons, List.not_mem_nil, or_false] at hx
      unfold I64
      omega) rfl h fun H vl h => Wi.call (fn61 (i := i + 1) h (by simpa using hi) (fun H h => h.rd (cs := [vl])) (by simp) fun H t h ht => hQ _ _ h.tl ?_))
    simp only [List.mem_cons, List.not_mem_nil, or_false] at ht
    unfold I64
    omega
  · exact Wi.add (by unfold I64; omega) (Wi.call (fn60 (i := i) h hi fun H x h hx _ => hQ _ _ h (by unfold I64; omega)))

theorem fn59 {n : Nat} (h : Ab.Loc H0 L H) (hi : L[i]? = some (.src b vc code)) (hn : n ≤ 5) (hQ : ∀ H' u l, Ab.Loc H0 (.grow Rd.int 2 u l :: L) H' → l.length = n → Q u H') : Runs Tryz.prog 59 #[pt b 0, .int .i64 (n : Nat)] H Q := by
  refine f59.enter ?_
  unfold f59.w
  refine Wl.lit0 (ty := 2) Rd.int rfl h fun H u h => ?_
  refine W.for_rule n (fun x st H => ∃ u l, st = (u, .int .i64 (x : Nat), ()) ∧ l.length = x ∧ Ab.Loc H0 (.grow Rd.int 2 u l :: L) H) ⟨_, [], rfl, rfl, h⟩ ?_
  rintro x st H J hx ⟨u, l, rfl, hl, h⟩ hJ
  refine Wi.lssC (fun hlt => Wi.tru ?_) fun hge => Wi.fls ?_
  · refine Wi.add (by unfold I64; omega) (Wi.call (fn60 (i := i + 1) h (by simpa using hi) fun H y h hy hy2 => ?_))
    have hy2 := hy2 (by omega)
    obtain ⟨k, rfl⟩ : ∃ k : Nat, y = (k : Int) := ⟨y.toNat, by omega⟩
    have hk : k ≤ l.length := by omega
    have h := h.asG (i := 0) rfl
    have h : Ab.Loc H0 (.data (Rd.gslice Rd.int 2) [u] l :: L) H := h
    refine Wl.cutLoH (k := k) (h.rd (cs := [u])).ofG1 hk fun w5 hw5 => Wi.callQ (fn94 hw5 (by simp; omega) fun H v6 f => ⟨f.le, ?_⟩)
    have h := h.addG f
    refine Wl.pushPK (r := Rd.int) (x := (x : Int)) rfl rfl rfl (fun _ => ⟨rfl, rfl, by unfold I64; omega⟩) h (by simp; omega) fun H1 H v8 hk1 h => ?_
    have h : Ab.Loc H0 (.grow Rd.int 2 v8 (l.take k ++ [(x : Int)]) :: .data (Rd.gslice Rd.int 2) [u] l :: L) H := h
    refine Wl.cutHi2 (r := Rd.int) (ty := 2) (k := k) (xs := l) rfl (hk1.rd (cs := [u])) (h.rd (cs := [u])) hk fun w9 hw9 hd => Wi.chk hd (Wl.appendH (i := 0) rfl h rfl hw9 (by simp; omega) fun H v10 h => ?_)
    have h : Ab.Loc H0 (.grow Rd.int 2 v10 (l.take k ++ [(x : Int)] ++ l.drop k) :: .data (Rd.gslice Rd.int 2) [u] l :: L) H := h
    exact Wi.add (by unfold I64; omega) (hJ _ _ (by omega) ⟨v10, _, rfl, by simp; omega, h.cut 1⟩)
  · exact hQ _ u l h (by omega)

end

section
variable {H0 : Heap} {Q : Post} {vc : Value} {code : List Int}

/-- The second part of a pair that is there. -/
theorem prob_q {H : Heap} {u1 u2 : Value} {p : Prob} (h : Has RProblem H [u1, u2] p) : Has RS H [u2] p.2 := by
  obtain ⟨w1, w2, e, r1, r2⟩ := hasProb h
  simp only [List.cons.injEq, and_true] at e
  rw [e.2]
  exact r2

theorem pow5' {n : Nat} (h : n ≤ 5) : 2 ^ n ≤ 32 := Nat.pow_le_pow_right (n := 2) (j := 5) (by decide) h

theorem fn34 (hc : Has RBytes H0 [vc] code) (hQ : ∀ H' u1 u2 p (s : Int), Fresh RProblem H0 [u1, u2] p H' → SmallP p → I64 s → Q (.tuple #[.agg #[u1, u2], .int .i64 s]) H') : Runs Tryz.prog 34 #[vc] H0 Q := by
  refine f34.enter ?_
  unfold f34.w
  refine Wl.new (Loc.start H0) fun H b1 h => Wi.call (fn57 hc h fun H b h => Wi.call (fn58 (i := 0) h rfl fun H u1 u2 p n h hn hp => ?_))
  have kc := (h.rd (cs := [u1, u2]) (r := RProblem)).cell
  refine Wl.new h fun H b4 h => Wl.putA h rfl rfl kc fun H h => ?_
  have h : Ab.Loc H0 [.box b4 [u1, u2], .data RProblem [u1, u2] p, .src b vc code, .box b1 [.slice none 0 0, .slice none 0 0]] H := h
  have h5 := pow5' hn.2
  have hq := hp.2.2
  refine Wi.fieldAddr (Wl.get (b := b4) (o := 1) h rfl (Wl.lenH (prob_q (h.rd (cs := [u1, u2]))) ?_))
  rw [hq]
  have hI : I64 (((2 ^ n : Nat) : Int) - 1) := by
    generalize 2 ^ n = q at *
    unfold I64
    omega
  refine Wi.convN (by omega) (Wi.shl1 (by omega) (Wi.sub hI (Wi.call (fnN67 (i := 2) h rfl (by generalize 2 ^ n = q at *; omega) fun H s h hs => ?_))))
  refine Wl.getA (b := b4) h rfl ?_
  have h := h.front 1 rfl
  have h : Ab.Loc H0 [.data RProblem [u1, u2] p, .box b4 [u1, u2], .src b vc code, .box b1 [.slice none 0 0, .slice none 0 0]] H := h
  refine Wi.call (fn62 (i := 1) h rfl hn hp fun H w1 w2 p2 h hp2 => ?_)
  have kc := (h.rd (cs := [w1, w2]) (r := RProblem)).cell
  refine Wl.putA (b := b1) (i := 3) h rfl rfl kc fun H h => Wl.getA (b := b1) h rfl ?_
  exact hQ _ w1 w2 p2 s (h.ret (i := 0) rfl) hp2 hs

theorem fn5 (hc : Has RBytes H0 [vc] code) (hQ : ∀ H' u1 u2 p (s : Int), Fresh RProblem H0 [u1, u2] p H' → SmallP p → I64 s → Q (.tuple #[.agg #[u1, u2], .int .i64 s]) H') : Runs Tryz.prog 5 #[vc] H0 Q := by
  refine f5.enter ?_
  unfold f5.w
  refine Wl.new (Loc.start H0) fun H b1 h => Wi.call (fn34 (hc.le h.le) fun H u1 u2 p s f hp hs => ?_)
  have h := h.add f
  have kc := (h.rd (cs := [u1, u2]) (r := RProblem)).cell
  simp only [gw]
  refine Wl.new h fun H b5 h => Wl.putA h rfl rfl kc fun H h => Wl.getA (b := b5) h rfl (Wl.putA (b := b1) (i := 2) h rfl rfl kc fun H h => Wl.getA (b := b1) h rfl ?_)
  exact hQ _ u1 u2 p s (h.ret (i := 1) rfl) hp hs

theorem fn28 (hc : Has RBytes H0 [vc] code) (hQ : ∀ H' u1 u2 p (s : Int), Fresh RProblem H0 [u1, u2] p H' → SmallP p → I64 s → Q (.tuple #[.agg #[u1, u2], .int .i64 s]) H') : Runs Tryz.prog 28 #[vc] H0 Q := by
  refine f28.enter ?_
  unfold f28.w
  refine Wl.new (Loc.start H0) fun H b1 h => Wi.call (fn34 (hc.le h.le) fun H u1 u2 p s f hp hs => ?_)
  have h := h.add f
  have kc := (h.rd (cs := [u1, u2]) (r := RProblem)).cell
  simp only [gw]
  refine Wl.new h fun H b5 h => Wl.putA h rfl rfl kc fun H h => Wl.getA (b := b5) h rfl (Wl.putA (b := b1) (i := 2) h rfl rfl kc fun H h => Wl.getA (b := b1) h rfl ?_)
  exact hQ _ u1 u2 p s (h.ret (i := 1) rfl) hp hs

theorem fn21 (hc : Has RBytes H0 [vc] code) (hQ : ∀ H' u1 u2 p (s k : Int), Fresh RProblem H0 [u1, u2] p H' → SmallP p → I64 s → I64 k → Q (.tuple #[.agg #[u1, u2], .int .i64 s, .int .i64 k]) H') : Runs Tryz.prog 21 #[vc] H0 Q := by
  refine f21.enter ?_
  unfold f21.w
  refine Wl.new (Loc.start H0) fun H b1 h => Wi.call (fn57 hc h fun H b h => Wi.call (fn58 (i := 0) h rfl fun H u1 u2 p n h hn hp => ?_))
  have kc := (h.rd (cs := [u1, u2]) (r := RProblem)).cell
  refine Wl.new h fun H b4 h => Wl.putA h rfl rfl kc fun H h => ?_
  have h : Ab.Loc H0 [.box b4 [u1, u2], .data RProblem [u1, u2] p, .src b vc code, .box b1 [.slice none 0 0, .slice none 0 0]] H := h
  have hq := hp.2.2
  refine Wi.fieldAddr (Wl.get (b := b4) (o := 1) h rfl (Wl.lenH (prob_q (h.rd (cs := [u1, u2]))) ?_))
  rw [hq]
  refine Wi.sub (by unfold I64; omega) (Wi.call (fnN67 (i := 2) h rfl (by omega) fun H s h hs => ?_))
  refine Wl.getA (b := b4) h rfl ?_
  have h := h.front 1 rfl
  have h : Ab.Loc H0 [.data RProblem [u1, u2] p, .box b4 [u1, u2], .src b vc code, .box b1 [.slice none 0 0, .slice none 0 0]] H := h
  refine Wi.call (fn62 (i := 1) h rfl hn hp fun H w1 w2 p2 h hp2 => ?_)
  have kc := (h.rd (cs := [w1, w2]) (r := RProblem)).cell
  refine Wl.litN [1, 2, 3, 5, 10, 100, 0, 101] rfl (by decide) (by simp [I64]) rfl h fun H vl h => Wi.call (fn61 (i := 3) h rfl (fun H h => h.rd (cs := [vl])) (by decide) fun H t h ht => ?_)
  have ht : I64 t := by simp at ht; unfold I64; omega
  refine Wl.putA (b := b1) (i := 4) h rfl rfl kc fun H h => Wl.getA (b := b1) h rfl ?_
  exact hQ _ w1 w2 p2 s t (h.ret (i := 1) rfl) hp2 hs ht

theorem fn18 (hc : Has RBytes H0 [vc] code) (hQ : ∀ H' u1 u2 w p l, Fresh (RProblem.pair RS) H0 [u1, u2, w] (p, l) H' → SmallP p → l.length ≤ 6 → Q (.tuple #[.agg #[u1, u2], w]) H') : Runs Tryz.prog 18 #[vc] H0 Q := by
  refine f18.enter ?_
  unfold f18.w
  refine Wl.new (Loc.start H0) fun H b1 h => Wi.call (fn57 hc h fun H b h => Wi.call (fn58 (i := 0) h rfl fun H u1 u2 p n h hn hp => ?_))
  have kc := (h.rd (cs := [u1, u2]) (r := RProblem)).cell
  refine Wl.new h fun H b4 h => Wl.putA h rfl rfl kc fun H h => ?_
  have h : Ab.Loc H0 [.box b4 [u1, u2], .data RProblem [u1, u2] p, .src b vc code, .box b1 [.slice none 0 0, .slice none 0 0]] H := h
  have hq := hp.2.2
  refine Wi.fieldAddr (Wl.get (b := b4) (o := 1) h rfl (Wl.lenH (prob_q (h.rd (cs := [u1, u2]))) ?_))
  rw [hq]
  refine Wi.call (fn59 (i := 2) h rfl hn.2 fun H v l h hl => ?_)
  have fin : ∀ H v l, Ab.Loc H0 [.data RS [v] l, .box b4 [u1, u2], .data RProblem [u1, u2] p, .src b vc code, .box b1 [.slice none 0 0, .slice none 0 0]] H → l.length ≤ 6 → f18.j1 Q (pt b4 0) (pt b 0) (pt b1 0) v H := fun H v l h hl => by
    unfold f18.j1
    refine Wl.getA (b := b4) h rfl ?_
    have h := h.front 2 rfl
    have h : Ab.Loc H0 [.data RProblem [u1, u2] p, .data RS [v] l, .box b4 [u1, u2], .src b vc code, .box b1 [.slice none 0 0, .slice none 0 0]] H := h
    refine Wi.call (fn62 (i := 2) h rfl hn hp fun H w1 w2 p2 h hp2 => ?_)
    have kc := (h.rd (cs := [w1, w2]) (r := RProblem)).cell
    refine Wl.putA (b := b1) (i := 4) h rfl rfl kc fun H h => Wl.getA (b := b1) h rfl ?_
    exact hQ _ w1 w2 v p2 l (Loc.ret2 h (c1 := [w1, w2]) (c2 := [v]) (i := 0) (j := 1) rfl rfl (by decide)) hp2 hl
  refine Wi.call (fn60 (i := 3) h rfl fun H x h hx _ => Wi.eqlC (fun _ => Wi.tru ?_) fun _ => Wi.fls (Wi.eqlC (fun _ => Wi.tru ?_) fun _ => Wi.fls ?_))
  · refine Wl.pushP (r := Rd.int) (x := (0 : Int)) (i := 0) rfl rfl rfl (fun _ => ⟨rfl, rfl, by unfold I64; omega⟩) h (by omega) fun H v' h => ?_
    have h : Ab.Loc H0 [.grow Rd.int 2 v' (l ++ [0]), .box b4 [u1, u2], .data RProblem [u1, u2] p, .src b vc code, .box b1 [.slice none 0 0, .slice none 0 0]] H := h
    have h := h.asData (i := 0) rfl
    exact fin _ v' _ h (by simp; omega)
  · have h := h.asData (i := 0) rfl
    have h : Ab.Loc H0 [.data RS [v] l, .box b4 [u1, u2], .data RProblem [u1, u2] p, .src b vc code, .box b1 [.slice none 0 0, .slice none 0 0]] H := h
    refine Wl.len h (Wi.sub (by unfold I64; omega) ?_)
    rw [show ((l.length : Nat) : Int) - 1 = ((l.length - 1 : Nat) : Int) by omega]
    refine Wl.atInt (i := l.length - 1) h (by omega) fun hI => ?_
    refine Wl.litN [-1, 5, l[l.length - 1]] rfl (by simp) (fun x hx => by
      simp only [List.mem_cons, List.not_mem_nil, or_false] at hx
      rcases hx with rfl | rfl | rfl
      · unfold I64; omega
      · unfold I64; omega
      · exact hI) rfl h fun H vl h => Wi.call (fn61 (i := 4) h rfl (fun H h => h.rd (cs := [vl])) (by simp) fun H t h ht => ?_)
    have ht : I64 t := by
      simp only [List.mem_cons, List.not_mem_nil, or_false] at ht
      rcases ht with rfl | rfl | rfl
      · unfold I64; omega
      · unfold I64; omega
      · exact hI
    have h := h.tl
    refine Wl.setInt (i := 0) (v := v) (xs := l) (j := 0) h (by omega) ht fun H h => ?_
    unfold f18.j2
    exact fin _ v _ h (by rw [List.length_set]; omega)
  · unfold f18.j2
    have h := h.asData (i := 0) rfl
    exact fin _ v l h (by omega)

end
end Go.Proofs.YtgdiebnokgnniaaGreatDoor

/-! Draws: a fraction. No condition. -/
namespace Go.Proofs.YtgdiebnokgnniaaGreatDoor
open Go.Ab

/- loop.example/g01343/spec.l01DrawFrac -/
def f114.w (Q : Post) (s_0 : Value) (H : Heap) : Prop :=
  W.new [(.int .i64 0), (.int .i64 0)] 38 H fun v1 H =>
  W.lit 4 [(.int .i64 0)] 2 [(0, 1, (.int .i64 3)), (1, 1, (.int .i64 20)), (2, 1, (.int .i64 100000)), (3, 1, (.int .i64 1000000000))] H fun v2 H =>
  W.call Tryz.prog (.func (.func 61) #[] #[]) #[s_0, v2] H fun v3 H =>
  W.lit 5 [(.int .i64 0)] 2 [(0, 1, (.int .i64 1)), (1, 1, (.int .i64 4)), (2, 1, (.int .i64 20)), (3, 1, (.int .i64 100000)), (4, 1, (.int .i64 1000000000))] H fun v4 H =>
  W.call Tryz.prog (.func (.func 61) #[] #[]) #[s_0, v4] H fun v5 H =>
  W.call Tryz.prog (.func (.func 113) #[] #[]) #[s_0, v3] H fun v6 H =>
  W.call Tryz.prog (.func (.func 60) #[] #[]) #[s_0, v5] H fun v7 H =>
  W.bin .add (.int .i64 1) v7 H fun v8 H =>
  W.call Tryz.prog (.func (.func 76) #[] #[]) #[v6, v8] H fun v9 H =>
  W.new [(.int .i64 0), (.int .i64 0)] 38 H fun v10 H =>
  W.putN 2 v10 v9 H fun _ H =>
  W.call Tryz.prog (.func (.func 60) #[] #[]) #[s_0, (.int .i64 40)] H fun v11 H =>
  W.bin .eql v11 (.int .i64 0) H fun v12 H =>
  W.cond v12 H
  (fun H => W.fieldAddr 0 v10 H fun v13 H =>
   W.get v13 H fun v14 H =>
   W.bin .mul v14 (.int .i64 2) H fun v15 H =>
   W.fieldAddr 1 v10 H fun v16 H =>
   W.get v16 H fun v17 H =>
   W.bin .mul v17 (.int .i64 2) H fun v18 H =>
   W.build [(.int .i64 0), (.int .i64 0)] [(0, 1, v15), (1, 1, v18)] H fun v19 H =>
   W.putN 2 v1 v19 H fun _ H =>
   W.getN 2 v1 H fun v20 H => Q v20 H)
  (fun H => W.bin .eql v11 (.int .i64 1) H fun v21 H =>
   W.cond v21 H
   (fun H => W.fieldAddr 0 v10 H fun v22 H =>
    W.get v22 H fun v23 H =>
    W.lit 3 [(.int .i64 0)] 2 [(0, 1, (.int .i64 0)), (1, 1, (.int .i64 (-1))), (2, 1, (.int .i64 1000000001))] H fun v24 H =>
    W.call Tryz.prog (.func (.func 61) #[] #[]) #[s_0, v24] H fun v25 H =>
    W.chk (fun H k => W.get v22 H k) v23 H (W.build [(.int .i64 0), (.int .i64 0)] [(0, 1, v23), (1, 1, v25)] H fun v26 H =>
    W.putN 2 v1 v26 H fun _ H =>
    W.getN 2 v1 H fun v27 H => Q v27 H))
   (fun H => W.getN 2 v10 H fun v28 H =>
    W.putN 2 v1 v28 H fun _ H =>
    W.getN 2 v1 H fun v29 H => Q v29 H))
theorem f114.enter {Q : Post} {s_0 : Value} {H : Heap} (h : f114.w Q s_0 H) : Runs Tryz.prog 114 #[s_0] H Q :=
  fn_enter (ann := [(1000007, [])]) (by kernel_rfl) Tryz.func114 rfl (by kernel_rfl) h (by kernel_rfl)


section
variable {H0 H : Heap} {L : List (Atom H0.next)} {Q : Post} {b i : Nat} {vc : Value} {code : List Int}

theorem fnW113 {most : Int} (h : Ab.Loc H0 L H) (hi : L[i]? = some (.src b vc code)) (hm : 0 ≤ most ∧ most ≤ 1000000000) (hQ : ∀ H' (x : Int), Ab.Loc H0 L H' → x.natAbs ≤ 1000000000 → Q (.int .i64 x) H') : Runs Tryz.prog 113 #[pt b 0, .int .i64 most] H Q := by
  refine f113.enter (Wi.mul (by unfold I64; omega) (Wi.add (by unfold I64; omega) (Wi.call (fn60 h hi fun H x h hx hn => ?_))))
  have := hn (by omega)
  exact Wi.sub (by unfold I64; omega) (hQ _ _ h (by omega))

theorem frac_i64' {x d : Int} (hx : x.natAbs ≤ 1000000000) (hd : d.natAbs ≤ 1073742080) : (frac x d).1.natAbs ≤ 1000000000 ∧ (frac x d).2.natAbs ≤ 1073742080 := by
  have := frac_abs (x := x) (d := d)
  omega

theorem fn114 (h : Ab.Loc H0 L H) (hi : L[i]? = some (.src b vc code)) (hQ : ∀ H' (a : Frac), Ab.Loc H0 L H' → I64 a.1 ∧ I64 a.2 → Q (.agg (frC a).toArray) H') : Runs Tryz.prog 114 #[pt b 0] H Q := by
  refine f114.enter ?_
  unfold f114.w
  refine Wl.new h fun H b1 h => Wl.litN [3, 20, 100000, 1000000000] rfl (by decide) (by simp [I64]) rfl h fun H vl h => Wi.call (fn61 (i := i + 2) h (by simpa using hi) (fun H h => h.rd (cs := [vl])) (by decide) fun H t h ht => ?_)
  have ht : 0 ≤ t ∧ t ≤ 1000000000 := by simp at ht; omega
  have h := h.tl
  refine Wl.litN [1, 4, 20, 100000, 1000000000] rfl (by decide) (by simp [I64]) rfl h fun H vl h => Wi.call (fn61 (i := i + 2) h (by simpa using hi) (fun H h => h.rd (cs := [vl])) (by decide) fun H d h hd => ?_)
  have h := h.tl
  refine Wi.call (fnW113 (i := i + 1) h (by simpa using hi) ht fun H x h hx => ?_)
  refine Wi.call (fn60 (i := i + 1) h (by simpa using hi) fun H y h hy _ => ?_)
  refine Wi.add (by unfold I64; omega) (Wi.call (fn76 (n := x) (d := 1 + y) (by unfold B64; omega) (by unfold B64; omega) (by omega) fun H l => ?_))
  have h := h.to l
  obtain ⟨f1, f2⟩ := frac_i64' (x := x) (d := 1 + y) hx (by omega)
  generalize frac x (1 + y) = a at *
  refine Wl.new h fun H b10 h => Wl.putA (b := b10) (i := 0) h rfl rfl rfl fun H h => ?_
  refine Wi.call (fn60 (i := i + 2) h (by simpa using hi) fun H y h hy _ => ?_)
  have h : Ab.Loc H0 (.box b10 (frC a) :: .box b1 [.int .i64 0, .int .i64 0] :: L) H := h
  refine Wi.eqlC (fun _ => Wi.tru ?_) fun _ => Wi.fls ?_
  · refine Wi.fieldAddr0 (Wl.get (b := b10) h rfl (Wi.mul (by unfold I64; omega) (Wi.fieldAddr (Wl.get (b := b10) (o := 1) h rfl (Wi.mul (by unfold I64; omega) ?_)))))
    refine Wi.build (cells := frC (a.1 * 2, a.2 * 2)) rfl (Wl.putA (b := b1) (i := 1) h rfl rfl rfl fun H h => Wl.getA (b := b1) h rfl ?_)
    exact hQ _ (a.1 * 2, a.2 * 2) ((h.cut 0).cut 0) ⟨by unfold I64; omega, by unfold I64; omega⟩
  refine Wi.eqlC (fun _ => Wi.tru ?_) fun _ => Wi.fls ?_
  · refine Wi.fieldAddr0 (Wl.get (b := b10) h rfl ?_)
    refine Wl.litN [0, -1, 1000000001] rfl (by decide) (by simp [I64]) rfl h fun H vl h => Wi.call (fn61 (i := i + 3) h (by simpa using hi) (fun H h => h.rd (cs := [vl])) (by decide) fun H t h ht => ?_)
    have ht : I64 t := by simp at ht; unfold I64; omega
    have h := h.tl
    refine Wi.chk (Wl.get (b := b10) (o := 0) h rfl ⟨rfl, rfl⟩) (Wi.build (cells := frC (a.1, t)) rfl (Wl.putA (b := b1) (i := 1) h rfl rfl rfl fun H h => Wl.getA (b := b1) h rfl ?_))
    exact hQ _ (a.1, t) ((h.cut 0).cut 0) ⟨by unfold I64; omega, ht⟩
  · refine Wl.getA (b := b10) h rfl (Wl.putA (b := b1) (i := 1) h rfl rfl rfl fun H h => Wl.getA (b := b1) h rfl ?_)
    exact hQ _ a ((h.cut 0).cut 0) ⟨by unfold I64; omega, by unfold I64; omega⟩

end
end Go.Proofs.YtgdiebnokgnniaaGreatDoor
