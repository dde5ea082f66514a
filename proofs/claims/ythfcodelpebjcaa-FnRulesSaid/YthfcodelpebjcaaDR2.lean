/- Draws: problems with sets and rules. No condition. -/
import Derived.Test.YthfcodelpebjcaaDR1
import Derived.Test.YthfcodelpebjcaaB4
import Derived.Test.YthfcodelpebjcaaV0
namespace Go.Proofs.Ythfcodelpebjcaa
open Go.Ab

/- loop.example/g01343/spec.MurtyProblem -/
def f103.l2 (Q : Post) (n_0 : Value) (v11 : Value) (v9 : Value) (i_5 : Value) (I1 : St [5] → Heap → Prop) (I2 : St [7] → Heap → Prop) (k_7 : Value) (H : Heap) : Prop :=
  W.bin .lss k_7 n_0 H fun v14 H =>
  W.cond v14 H
  (fun H => W.indexAddr 1 v11 k_7 H fun v15 H =>
   W.put v15 (.int .i64 2) H fun _ H =>
   W.bin .add k_7 (.int .i64 1) H fun v16 H =>
   I2 (v16, ()) H)
  (fun H => W.fieldAddr 0 v9 H fun v17 H =>
   W.get v17 H fun v18 H =>
   W.lit 1 [(.slice none 0 0)] 25 [(0, 1, v11)] H fun v19 H =>
   W.append 1 25 v18 v19 H fun v20 H =>
   W.fieldAddr 0 v9 H fun v21 H =>
   W.put v21 v20 H fun _ H =>
   W.fieldAddr 1 v9 H fun v22 H =>
   W.get v22 H fun v23 H =>
   W.lit 1 [(.int .i64 0)] 2 [(0, 1, (.int .i64 (-1)))] H fun v24 H =>
   W.append 1 2 v23 v24 H fun v25 H =>
   W.fieldAddr 1 v9 H fun v26 H =>
   W.put v26 v25 H fun _ H =>
   W.bin .add i_5 (.int .i64 1) H fun v27 H =>
   I1 (v27, ()) H)
def f103.l1 (Q : Post) (n_0 : Value) (v9 : Value) (v1 : Value) (I1 : St [5] → Heap → Prop) (i_5 : Value) (H : Heap) : Prop :=
  W.bin .lss i_5 n_0 H fun v10 H =>
  W.cond v10 H
  (fun H => W.make [(.int .i64 0)] 2 n_0 n_0 H fun v11 H =>
   W.indexAddr 1 v11 i_5 H fun v12 H =>
   W.put v12 (.int .i64 1) H fun _ H =>
   W.bin .add i_5 (.int .i64 1) H fun v13 H =>
   W.loop (S := St [7]) (fun I2 s H => f103.l2 Q n_0 v11 v9 i_5 I1 I2 s.1 H) (v13, ()) H)
  (fun H => W.getN 2 v9 H fun v28 H =>
   W.putN 2 v1 v28 H fun _ H =>
   W.getN 2 v1 H fun v29 H => Q (.tuple #[v29, (.int .i64 0)]) H)
def f103.w (Q : Post) (n_0 : Value) (H : Heap) : Prop :=
  W.new [(.slice none 0 0), (.slice none 0 0)] 27 H fun v1 H =>
  W.call Try.prog (.func (.func 59) #[] #[]) #[n_0, (.int .i64 1), (.int .i64 5)] H fun v2 H =>
  W.un .not v2 H fun v3 H =>
  W.cond v3 H
  (fun H => W.build [(.slice none 0 0), (.slice none 0 0)] [] H fun v4 H =>
   W.putN 2 v1 v4 H fun _ H =>
   W.getN 2 v1 H fun v5 H => Q (.tuple #[v5, (.int .i64 2)]) H)
  (fun H => W.lit 0 [(.slice none 0 0)] 25 [] H fun v6 H =>
   W.lit 0 [(.int .i64 0)] 2 [] H fun v7 H =>
   W.build [(.slice none 0 0), (.slice none 0 0)] [(0, 1, v6), (1, 1, v7)] H fun v8 H =>
   W.new [(.slice none 0 0), (.slice none 0 0)] 27 H fun v9 H =>
   W.putN 2 v9 v8 H fun _ H =>
   W.loop (S := St [5]) (fun I1 s H => f103.l1 Q n_0 v9 v1 I1 s.1 H) ((.int .i64 0), ()) H)
theorem f103.enter {Q : Post} {n_0 : Value} {H : Heap} (h : f103.w Q n_0 H) : Runs Try.prog 103 #[n_0] H Q :=
  fn_enter (ann := [(5, [5]), (10, [7])]) (by kernel_rfl) Try.func103 rfl (by kernel_rfl) h (by kernel_rfl)

/- loop.example/g01343/spec.l08Draw -/
def f68.j1 (Q : Post) (v3 : Value) (v1 : Value) (H : Heap) : Prop :=
  W.getN 2 v3 H fun v16 H =>
  W.putN 2 v1 v16 H fun _ H =>
  W.getN 2 v1 H fun v17 H => Q v17 H
def f68.l1 (Q : Post) (v11 : Value) (v22 : Value) (s_0 : Value) (v1 : Value) (I1 : St [7] → Heap → Prop) (i_7 : Value) (H : Heap) : Prop :=
  W.bin .lss i_7 v11 H fun v24 H =>
  W.cond v24 H
  (fun H => W.fieldAddr 1 v22 H fun v25 H =>
   W.get v25 H fun v26 H =>
   W.lit 5 [(.int .i64 0)] 2 [(0, 1, (.int .i64 (-1))), (1, 1, (.int .i64 (-1))), (2, 1, (.int .i64 1)), (3, 1, (.int .i64 (-2))), (4, 1, (.int .i64 0))] H fun v27 H =>
   W.call Try.prog (.func (.func 77) #[] #[]) #[s_0, v27] H fun v28 H =>
   W.chk (fun H k => W.get v25 H k) v26 H (W.indexAddr 1 v26 i_7 H fun v29 H =>
   W.put v29 v28 H fun _ H =>
   W.bin .add i_7 (.int .i64 1) H fun v30 H =>
   I1 (v30, ()) H))
  (fun H => W.getN 2 v22 H fun v31 H =>
   W.putN 2 v1 v31 H fun _ H =>
   W.getN 2 v1 H fun v32 H => Q v32 H)
def f68.j2 (Q : Post) (v3 : Value) (v1 : Value) (H : Heap) : Prop :=
  f68.j1 Q v3 v1 H
def f68.w (Q : Post) (s_0 : Value) (H : Heap) : Prop :=
  W.new [(.slice none 0 0), (.slice none 0 0)] 27 H fun v1 H =>
  W.call Try.prog (.func (.func 101) #[] #[]) #[s_0] H fun v2 H =>
  W.new [(.slice none 0 0), (.slice none 0 0)] 27 H fun v3 H =>
  W.putN 2 v3 v2 H fun _ H =>
  W.getN 2 v3 H fun v4 H =>
  W.call Try.prog (.func (.func 71) #[] #[]) #[v4] H fun v5 H =>
  W.un .not v5 H fun v6 H =>
  W.cond v6 H
  (fun H => W.getN 2 v3 H fun v7 H =>
   W.putN 2 v1 v7 H fun _ H =>
   W.getN 2 v1 H fun v8 H => Q v8 H)
  (fun H => W.fieldAddr 1 v3 H fun v9 H =>
   W.get v9 H fun v10 H =>
   W.len v10 H fun v11 H =>
   W.call Try.prog (.func (.func 53) #[] #[]) #[s_0, (.int .i64 4)] H fun v12 H =>
   W.bin .eql v12 (.int .i64 0) H fun v13 H =>
   W.cond v13 H
   (fun H => W.call Try.prog (.func (.func 102) #[] #[]) #[s_0, v11] H fun v14 H =>
    W.fieldAddr 0 v3 H fun v15 H =>
    W.put v15 v14 H fun _ H =>
    f68.j1 Q v3 v1 H)
   (fun H => W.bin .eql v12 (.int .i64 1) H fun v18 H =>
    W.cond v18 H
    (fun H => W.call Try.prog (.func (.func 103) #[] #[]) #[v11] H fun v19 H =>
     W.extract 0 v19 H fun v20 H =>
     W.extract 1 v19 H fun v21 H =>
     W.new [(.slice none 0 0), (.slice none 0 0)] 27 H fun v22 H =>
     W.putN 2 v22 v20 H fun _ H =>
     W.bin .eql v21 (.int .i64 0) H fun v23 H =>
     W.cond v23 H
     (fun H => W.loop (S := St [7]) (fun I1 s H => f68.l1 Q v11 v22 s_0 v1 I1 s.1 H) ((.int .i64 0), ()) H)
     (fun H => f68.j2 Q v3 v1 H))
    (fun H => f68.j2 Q v3 v1 H)))
theorem f68.enter {Q : Post} {s_0 : Value} {H : Heap} (h : f68.w Q s_0 H) : Runs Try.prog 68 #[s_0] H Q :=
  fn_enter (ann := [(12, [7]), (1000014, [])]) (by kernel_rfl) Try.func68 rfl (by kernel_rfl) h (by kernel_rfl)

/- loop.example/g01343/spec.l08With -/
def f32.w (Q : Post) (code_0 : Value) (H : Heap) : Prop :=
  W.new [(.slice none 0 0), (.slice none 0 0)] 27 H fun v1 H =>
  W.call Try.prog (.func (.func 46) #[] #[]) #[code_0] H fun v2 H =>
  W.call Try.prog (.func (.func 68) #[] #[]) #[v2] H fun v3 H =>
  W.new [(.slice none 0 0), (.slice none 0 0)] 27 H fun v4 H =>
  W.putN 2 v4 v3 H fun _ H =>
  W.getN 2 v4 H fun v5 H =>
  W.fieldAddr 1 v4 H fun v6 H =>
  W.get v6 H fun v7 H =>
  W.len v7 H fun v8 H =>
  W.min2 v8 (.int .i64 5) H fun v9 H =>
  W.conv .u64 v9 H fun v10 H =>
  W.bin .shl (.int .i64 1) v10 H fun v11 H =>
  W.call Try.prog (.func (.func 53) #[] #[]) #[v2, (.int .i64 24)] H fun v12 H =>
  W.chk (fun H k => W.get v6 H k) v7 H (W.chk (fun H k => W.getN 2 v4 H k) v5 H (W.bin .quo v12 (.int .i64 23) H fun v13 H =>
  W.bin .add v11 v13 H fun v14 H =>
  W.call Try.prog (.func (.func 53) #[] #[]) #[v2, v14] H fun v15 H =>
  W.chk (fun H k => W.getN 2 v4 H k) v5 H (W.call Try.prog (.func (.func 53) #[] #[]) #[v2, (.int .i64 4)] H fun v16 H =>
  W.chk (fun H k => W.getN 2 v4 H k) v5 H (W.call Try.prog (.func (.func 53) #[] #[]) #[v2, (.int .i64 24)] H fun v17 H =>
  W.chk (fun H k => W.getN 2 v4 H k) v5 H (W.bin .quo v17 (.int .i64 23) H fun v18 H =>
  W.bin .mul v18 (.int .i64 4) H fun v19 H =>
  W.bin .add v16 v19 H fun v20 H =>
  W.putN 2 v1 v5 H fun _ H =>
  W.getN 2 v1 H fun v21 H => Q (.tuple #[v21, v15, v20]) H)))))
theorem f32.enter {Q : Post} {code_0 : Value} {H : Heap} (h : f32.w Q code_0 H) : Runs Try.prog 32 #[code_0] H Q :=
  fn_enter (ann := [(1000003, [])]) (by kernel_rfl) Try.func32 rfl (by kernel_rfl) h (by kernel_rfl)

/- loop.example/g01343/spec.DrawRunByRule -/
def f6.w (Q : Post) (code_0 : Value) (H : Heap) : Prop :=
  W.new [(.slice none 0 0), (.slice none 0 0)] 27 H fun v1 H =>
  W.call Try.prog (.func (.func 32) #[] #[]) #[code_0] H fun v2 H =>
  W.extract 0 v2 H fun v3 H =>
  W.extract 1 v2 H fun v4 H =>
  W.extract 2 v2 H fun v5 H =>
  W.putN 2 v1 v3 H fun _ H =>
  W.getN 2 v1 H fun v6 H => Q (.tuple #[v6, v4, v5]) H
theorem f6.enter {Q : Post} {code_0 : Value} {H : Heap} (h : f6.w Q code_0 H) : Runs Try.prog 6 #[code_0] H Q :=
  fn_enter (ann := []) (by kernel_rfl) Try.func6 rfl (by kernel_rfl) h (by kernel_rfl)

/- loop.example/g01343/spec.DrawStepByRule -/
def f10.w (Q : Post) (code_0 : Value) (H : Heap) : Prop :=
  W.new [(.slice none 0 0), (.slice none 0 0)] 27 H fun v1 H =>
  W.call Try.prog (.func (.func 32) #[] #[]) #[code_0] H fun v2 H =>
  W.extract 0 v2 H fun v3 H =>
  W.extract 1 v2 H fun v4 H =>
  W.extract 2 v2 H fun v5 H =>
  W.putN 2 v1 v3 H fun _ H =>
  W.getN 2 v1 H fun v6 H => Q (.tuple #[v6, v4, v5]) H
theorem f10.enter {Q : Post} {code_0 : Value} {H : Heap} (h : f10.w Q code_0 H) : Runs Try.prog 10 #[code_0] H Q :=
  fn_enter (ann := []) (by kernel_rfl) Try.func10 rfl (by kernel_rfl) h (by kernel_rfl)

/- loop.example/g01343/spec.DrawSolveByRule -/
def f40.w (Q : Post) (code_0 : Value) (H : Heap) : Prop :=
  W.new [(.slice none 0 0), (.slice none 0 0)] 27 H fun v1 H =>
  W.call Try.prog (.func (.func 32) #[] #[]) #[code_0] H fun v2 H =>
  W.extract 0 v2 H fun v3 H =>
  W.extract 1 v2 H fun v4 H =>
  W.extract 2 v2 H fun v5 H =>
  W.new [(.slice none 0 0), (.slice none 0 0)] 27 H fun v6 H =>
  W.putN 2 v6 v3 H fun _ H =>
  W.getN 2 v6 H fun v7 H =>
  W.putN 2 v1 v7 H fun _ H =>
  W.getN 2 v1 H fun v8 H => Q (.tuple #[v8, v5]) H
theorem f40.enter {Q : Post} {code_0 : Value} {H : Heap} (h : f40.w Q code_0 H) : Runs Try.prog 40 #[code_0] H Q :=
  fn_enter (ann := []) (by kernel_rfl) Try.func40 rfl (by kernel_rfl) h (by kernel_rfl)

/- loop.example/g01343/spec.DrawCountEnds -/
def f13.w (Q : Post) (code_0 : Value) (H : Heap) : Prop :=
  W.new [(.slice none 0 0), (.slice none 0 0)] 27 H fun v1 H =>
  W.call Try.prog (.func (.func 40) #[] #[]) #[code_0] H fun v2 H =>
  W.extract 0 v2 H fun v3 H =>
  W.extract 1 v2 H fun v4 H =>
  W.putN 2 v1 v3 H fun _ H =>
  W.getN 2 v1 H fun v5 H => Q (.tuple #[v5, v4]) H
theorem f13.enter {Q : Post} {code_0 : Value} {H : Heap} (h : f13.w Q code_0 H) : Runs Try.prog 13 #[code_0] H Q :=
  fn_enter (ann := []) (by kernel_rfl) Try.func13 rfl (by kernel_rfl) h (by kernel_rfl)


def muRow (n i : Nat) : List Int := (List.range n).map fun k => if k < i then 0 else if k = i then 1 else 2
def muRowTo (n i k : Nat) : List Int := (List.range n).map fun j => if j < i then 0 else if j = i then 1 else if j < k then 2 else 0
def muP (n : Nat) : Prob := ((List.range n).map (muRow n), List.replicate n (-1))

theorem muP_is (n : Nat) : IsN n (muP n) := ⟨by simp [muP], fun r hr => by
  obtain ⟨i, _, rfl⟩ := List.mem_map.1 hr
  simp [muRow], by simp [muP]⟩

theorem muRow_one {n i : Nat} (hi : i < n) : (List.replicate n (0 : Int)).set i 1 = muRowTo n i (i + 1) := by
  apply List.ext_getElem
  · simp [muRowTo]
  · intro k h1 h2
    rw [List.getElem_set]
    simp only [muRowTo, List.getElem_map, List.getElem_range, List.getElem_replicate]
    by_cases e : i = k
    · subst e; simp
    · rw [if_neg e]
      by_cases g : k < i
      · rw [if_pos g]
      · rw [if_neg g, if_neg (by omega), if_neg (by omega)]

theorem muRow_set {n i k : Nat} (hi : i < k) : (muRowTo n i k).set k 2 = muRowTo n i (k + 1) := by
  apply List.ext_getElem
  · simp [muRowTo]
  · intro j h1 h2
    rw [List.getElem_set]
    simp only [muRowTo, List.getElem_map, List.getElem_range]
    by_cases e : k = j
    · subst e
      rw [if_pos rfl, if_neg (by omega), if_neg (by omega), if_pos (by omega)]
    · rw [if_neg e]
      by_cases g : j < k
      · simp [g, show j < k + 1 by omega]
      · simp [g, show ¬ j < k + 1 by omega]

theorem muRow_all (n i : Nat) : muRowTo n i n = muRow n i := List.map_congr_left fun j hj => by
  have : j < n := by simpa using hj
  by_cases g : j < i
  · rw [if_pos g, if_pos g]
  · rw [if_neg g, if_neg g]
    by_cases e : j = i
    · rw [if_pos e, if_pos e]
    · rw [if_neg e, if_neg e, if_pos this]

theorem fn103 {H0 : Heap} {Q : Post} {n : Int} (hI : I64 n) (h1 : ¬ (1 ≤ n ∧ n ≤ 5) → ∀ H', H0.Le H' → Q (.tuple #[.agg #[.slice none 0 0, .slice none 0 0], .int .i64 2]) H')
    (h2 : ∀ k : Nat, n = (k : Int) → 1 ≤ k ∧ k ≤ 5 → ∀ H' w1 w2, Fresh RProblem H0 [w1, w2] (muP k) H' → Q (.tuple #[.agg #[w1, w2], .int .i64 0]) H') : Runs Try.prog 103 #[.int .i64 n] H0 Q := by
  refine f103.enter ?_
  unfold f103.w
  refine Wl.new (Loc.start H0) fun H b1 h => Wi.call (fn59 ?_)
  cases hin : inR 1 5 n with
  | false =>
    simp only [gw]
    refine Wi.build (cells := [.slice none 0 0, .slice none 0 0]) rfl (Wl.putA (b := b1) (i := 0) h rfl rfl rfl fun H h => Wl.getA (b := b1) h rfl ?_)
    exact h1 (fun g => by rw [inR_iff.2 g] at hin; cases hin) _ h.le
  | true =>
  have hr := inR_iff.1 hin
  obtain ⟨n, rfl⟩ : ∃ k : Nat, n = (k : Int) := ⟨n.toNat, by omega⟩
  have h2 := h2 n rfl ⟨by omega, by omega⟩
  simp only [gw]
  refine Wl.lit0 (ty := 25) RS rfl h fun H u h => Wl.lit0 (ty := 2) Rd.int rfl h fun H q h => ?_
  have c1 := (h.rd (cs := [u]) (r := RSS)).one
  have c2 := (h.rd (cs := [q]) (r := RS)).one
  have k1 := (h.rd (cs := [u]) (r := RSS)).cell1
  have k2 := (h.rd (cs := [q]) (r := RS)).cell1
  have kc : [u, q].all isCell = true := by simp [k1, k2]
  refine Wi.build (cells := [u, q]) (by simp [fillA, c1, c2]) (Wl.new h fun H b7 h => Wl.putA h rfl rfl kc fun H h => ?_)
  refine W.for_rule n (fun x st H => ∃ u q, st = (.int .i64 (x : Nat), ()) ∧ Ab.Loc H0 [.box b7 [u, q], .grow Rd.int 2 q (List.replicate x (-1)), .grow RS 25 u ((List.range x).map (muRow n)), .box b1 [.slice none 0 0, .slice none 0 0]] H) ⟨u, q, rfl, h⟩ ?_
  rintro x st H J hx ⟨u, q, rfl, h⟩ hJ
  refine Wi.lssC (fun hlt => Wi.tru ?_) fun hge => Wi.fls ?_
  · have hxn : x < n := by omega
    refine Wl.make (r := Rd.int) (z := 0) (fun _ => ⟨rfl, rfl, by unfold I64; omega⟩) h (by omega) (by decide) fun H w h => ?_
    have h := h.asData (i := 0) rfl
    refine Wl.setInt (v := w) (j := 0) h (i := x) (by simpa using hxn) (by unfold I64; omega) fun H h => ?_
    rw [muRow_one hxn] at h
    have hI : I64 ((x : Int) + 1) := by unfold I64; omega
    refine Wi.add hI ?_
    refine W.for_rule n (fun y st H => st = (.int .i64 ((x + 1 + y : Nat) : Int), ()) ∧ x + 1 + y ≤ n ∧ Ab.Loc H0 [.data RS [w] (muRowTo n x (x + 1 + y)), .box b7 [u, q], .grow Rd.int 2 q (List.replicate x (-1)), .grow RS 25 u ((List.range x).map (muRow n)), .box b1 [.slice none 0 0, .slice none 0 0]] H) ⟨rfl, by omega, h⟩ ?_
    rintro y st H J2 hy ⟨rfl, hyn, h⟩ hJ2
    refine Wi.lssC (fun hlt2 => Wi.tru ?_) fun hge2 => Wi.fls ?_
    · refine Wl.setInt (v := w) (j := 0) h (i := x + 1 + y) (by simp [muRowTo]; omega) (by unfold I64; omega) fun H h => Wi.add (by unfold I64; omega) (hJ2 _ _ (by omega) ⟨by congr 1, by omega, ?_⟩)
      rw [muRow_set (by omega)] at h
      exact h
    · have : x + 1 + y = n := by omega
      rw [this, muRow_all] at h
      have hcu := (h.rd (cs := [w]) (r := RS)).one
      refine Wi.fieldAddr (Wl.get (b := b7) (o := 0) h rfl (Wl.pushO (r := RS) (u := w) (x := muRow n x) (i := 3) (j := 0) rfl h (by decide) hcu (by simp; omega) fun H u' h => ?_))
      have h : Ab.Loc H0 [.emp, .box b7 [u, q], .grow Rd.int 2 q (List.replicate x (-1)), .grow RS 25 u' ((List.range x).map (muRow n) ++ [muRow n x]), .box b1 [.slice none 0 0, .slice none 0 0]] H := h
      have k3 := (h.rd (cs := [u']) (r := RSS)).cell1
      refine Wi.fieldAddr (Wl.put (b := b7) (o := 0) (i := 1) h k3 (by simp) fun H h => Wi.fieldAddr (Wl.get (b := b7) (o := 1) h rfl ?_))
      refine Wl.pushP (r := Rd.int) (x := (-1 : Int)) (i := 2) rfl rfl rfl (fun _ => ⟨rfl, rfl, by unfold I64; omega⟩) h (by simp; omega) fun H q' h => ?_
      have h : Ab.Loc H0 [.emp, .box b7 [u', q], .grow Rd.int 2 q' (List.replicate x (-1) ++ [-1]), .grow RS 25 u' ((List.range x).map (muRow n) ++ [muRow n x]), .box b1 [.slice none 0 0, .slice none 0 0]] H := h
      have k4 := (h.rd (cs := [q']) (r := RS)).cell1
      refine Wi.fieldAddr (Wl.put (b := b7) (o := 1) (i := 1) h k4 (by simp) fun H h => Wi.add hI (hJ _ _ hxn ⟨u', q', rfl, ?_⟩))
      rw [List.replicate_succ', List.range_succ, List.map_append]
      exact h.cut 0
  · have : x = n := by omega
    subst this
    have k1 := (h.rd (cs := [u]) (r := RSS)).cell1
    have k2 := (h.rd (cs := [q]) (r := RS)).cell1
    have kc : [u, q].all isCell = true := by simp [k1, k2]
    refine Wl.getA (b := b7) h rfl (Wl.putA (b := b1) (i := 3) h rfl rfl kc fun H h => Wl.getA (b := b1) h rfl ?_)
    exact h2 _ _ _ (((h.asData (i := 1) rfl).asData (i := 2) rfl).ret2 (i := 2) (j := 1) rfl rfl (by decide))

section
variable {H0 H : Heap} {L : List (Atom H0.next)} {Q : Post} {b i : Nat} {vc : Value} {code : List Int}

theorem fn68 (h : Ab.Loc H0 L H) (hi : L[i]? = some (.src b vc code)) (hQ : ∀ H' u1 u2 p, Ab.Loc H0 (.data RProblem [u1, u2] p :: L) H' → SmallP p → Q (.agg #[u1, u2]) H') : Runs Try.prog 68 #[pt b 0] H Q := by
  refine f68.enter ?_
  unfold f68.w
  refine Wl.new h fun H b1 h => Wi.call (fn101 (i := i + 1) h (by simpa using hi) fun H u1 u2 p h hp => ?_)
  have kc := (h.rd (cs := [u1, u2]) (r := RProblem)).cell
  refine Wl.new h fun H b3 h => Wl.putA h rfl rfl kc fun H h => Wl.getA (b := b3) h rfl ?_
  obtain ⟨_, q⟩ := h.rd (cs := [u1, u2]) (r := RProblem)
  refine Wi.call (fn71 q fun H l => ?_)
  have h := h.to l
  have h : Ab.Loc H0 (.box b3 [u1, u2] :: .data RProblem [u1, u2] p :: .box b1 [.slice none 0 0, .slice none 0 0] :: L) H := h
  have out : ∀ H w1 w2 p', Ab.Loc H0 (.box b3 [w1, w2] :: .data RProblem [w1, w2] p' :: .box b1 [.slice none 0 0, .slice none 0 0] :: L) H → SmallP p' → W.getN 2 (pt b3 0) H fun v16 H => W.putN 2 (pt b1 0) v16 H fun _ H => W.getN 2 (pt b1 0) H fun v17 H => Q v17 H := fun H w1 w2 p' h hp' => by
    have kc := (h.rd (cs := [w1, w2]) (r := RProblem)).cell
    refine Wl.getA (b := b3) h rfl (Wl.putA (b := b1) (i := 2) h rfl rfl kc fun H h => Wl.getA (b := b1) h rfl ?_)
    have h : Ab.Loc H0 (.box b3 [w1, w2] :: .data RProblem [w1, w2] p' :: .box b1 [w1, w2] :: L) H := h
    exact hQ _ _ _ _ ((h.cut 0).cut 1) hp'
  cases hpr : isProb p with
  | false =>
    simp only [gw]
    exact out _ _ _ _ h hp
  | true =>
  have hpb := PB.of hpr
  have hn := hpb.n5
  have hql := hpb.ql
  simp only [gw]
  generalize hnn : p.2.length = n at *
  have h := ((h.front 1 rfl).unpair (r := RSS) (s := RS) (c1 := [u1]) (c2 := [u2]) (x := p.1) (y := p.2) rfl)
  have h : Ab.Loc H0 (.data RSS [u1] p.1 :: .data RS [u2] p.2 :: .box b3 [u1, u2] :: .box b1 [.slice none 0 0, .slice none 0 0] :: L) H := h
  refine Wi.fieldAddr (Wl.get (b := b3) (o := 1) h rfl (Wl.len (v := u2) (xs := p.2) h ?_))
  rw [hnn]
  refine Wi.call (fn53 (i := i + 4) h (by simpa using hi) fun H x h hx _ => ?_)
  have back : ∀ H m w, m.length ≤ 6 → (∀ r ∈ m, r.length ≤ 6) → Ab.Loc H0 (.data RSS [w] m :: .data RS [u2] p.2 :: .box b3 [w, u2] :: .box b1 [.slice none 0 0, .slice none 0 0] :: L) H → W.getN 2 (pt b3 0) H fun v16 H => W.putN 2 (pt b1 0) v16 H fun _ H => W.getN 2 (pt b1 0) H fun v17 H => Q v17 H := fun H m w g1 g2 h => by
    have h := h.pair (i := 0) (j := 1) rfl rfl (by decide)
    have h : Ab.Loc H0 (.data RProblem [w, u2] (m, p.2) :: .emp :: .box b3 [w, u2] :: .box b1 [.slice none 0 0, .slice none 0 0] :: L) H := h
    exact out _ _ _ (m, p.2) ((h.cut 1).front 1 rfl) ⟨g1, g2, hp.2.2⟩
  refine Wi.eqlC (fun _ => Wi.tru ?_) fun _ => Wi.fls ?_
  · refine Wi.call (fn102 (i := i + 4) h (by simpa using hi) hn fun H w m h hml hsm => ?_)
    have k1 := (h.rd (cs := [w]) (r := RSS)).cell1
    refine Wi.fieldAddr (Wl.put (b := b3) (o := 0) (i := 3) h k1 (by simp) fun H h => ?_)
    have h : Ab.Loc H0 (.data RSS [w] m :: .data RSS [u1] p.1 :: .data RS [u2] p.2 :: .box b3 [w, u2] :: .box b1 [.slice none 0 0, .slice none 0 0] :: L) H := h
    unfold f68.j1
    exact back _ m w (by omega) (fun r hr => by have := (hsm r hr).1; omega) (h.cut 1)
  refine Wi.eqlC (fun _ => Wi.tru ?_) fun _ => Wi.fls ?_
  · refine Wi.call (fn103 (by unfold I64; omega) (fun _ H l => ?_) fun k hk hk5 H w1 w2 f => ?_)
    · have h := h.to l
      simp only [gw]
      refine Wl.new h fun H b22 h => Wl.putA h rfl rfl rfl fun H h => Wi.eqlC (fun g => absurd g (by decide)) fun _ => Wi.fls ?_
      unfold f68.j2 f68.j1
      have h : Ab.Loc H0 (.box b22 [.slice none 0 0, .slice none 0 0] :: .data RSS [u1] p.1 :: .data RS [u2] p.2 :: .box b3 [u1, u2] :: .box b1 [.slice none 0 0, .slice none 0 0] :: L) H := h
      exact back _ p.1 u1 hp.1 hp.2.1 (h.cut 0)
    · have h := h.add2 (r := RSS) (s := RS) (c1 := [w1]) (c2 := [w2]) rfl f
      obtain rfl : n = k := by omega
      obtain ⟨i1, i2, i3⟩ := muP_is n
      simp only [gw]
      have k1 := (h.rd (cs := [w1]) (r := RSS)).cell1
      have k2 := (h.rd (cs := [w2]) (r := RS)).cell1
      have kc : [w1, w2].all isCell = true := by simp [k1, k2]
      refine Wl.new h fun H b22 h => Wl.putA h rfl rfl kc fun H h => Wi.eqlC (fun _ => Wi.tru ?_) fun g => absurd rfl g
      have h : Ab.Loc H0 (.box b22 [w1, w2] :: .data RSS [w1] (muP n).1 :: .data RS [w2] (muP n).2 :: .data RSS [u1] p.1 :: .data RS [u2] p.2 :: .box b3 [u1, u2] :: .box b1 [.slice none 0 0, .slice none 0 0] :: L) H := h
      refine W.for_rule n (fun x st H => ∃ ql, st = (.int .i64 (x : Nat), ()) ∧ ql.length = n ∧ Ab.Loc H0 (.box b22 [w1, w2] :: .data RSS [w1] (muP n).1 :: .data RS [w2] ql :: .data RSS [u1] p.1 :: .data RS [u2] p.2 :: .box b3 [u1, u2] :: .box b1 [.slice none 0 0, .slice none 0 0] :: L) H) ⟨(muP n).2, rfl, i3, h⟩ ?_
      rintro x st H J hxx ⟨ql, rfl, hql2, h⟩ hJ
      refine Wi.lssC (fun hlt => Wi.tru ?_) fun hge => Wi.fls ?_
      · have hxn : x < n := by omega
        refine Wi.fieldAddr (Wl.get (b := b22) (o := 1) h rfl ?_)
        refine Wl.litN [-1, -1, 1, -2, 0] rfl (by decide) (by simp [I64]) rfl h fun H vl h => Wi.call (fn77 (i := i + 8) h (by simpa using hi) (fun H h => h.rd (cs := [vl])) (by decide) fun H t h ht => ?_)
        have ht : I64 t := by simp at ht; unfold I64; omega
        refine Wi.chk (Wl.get (b := b22) (o := 1) h rfl ⟨rfl, rfl⟩) (Wl.setInt (v := w2) (j := 3) h (i := x) (by omega) ht fun H h => Wi.add (by unfold I64; omega) ?_)
        exact hJ _ _ hxn ⟨ql.set x t, rfl, by rw [List.length_set]; exact hql2, h.cut 0⟩
      · refine Wl.getA (b := b22) h rfl (Wl.putA (b := b1) (i := 6) h rfl rfl kc fun H h => Wl.getA (b := b1) h rfl ?_)
        have h : Ab.Loc H0 (.box b22 [w1, w2] :: .data RSS [w1] (muP n).1 :: .data RS [w2] ql :: .data RSS [u1] p.1 :: .data RS [u2] p.2 :: .box b3 [u1, u2] :: .box b1 [w1, w2] :: L) H := h
        have h := h.pair (i := 1) (j := 2) rfl rfl (by decide)
        have h : Ab.Loc H0 (.box b22 [w1, w2] :: .data RProblem [w1, w2] ((muP n).1, ql) :: .emp :: .data RSS [u1] p.1 :: .data RS [u2] p.2 :: .box b3 [u1, u2] :: .box b1 [w1, w2] :: L) H := h
        exact hQ _ _ _ ((muP n).1, ql) ((((((h.cut 0).cut 1).cut 1).cut 1).cut 1).cut 1) ⟨by show (muP n).1.length ≤ 6; omega, fun r hr => by have := i2 r hr; omega, by show ql.length ≤ 6; omega⟩
  · unfold f68.j2 f68.j1
    exact back _ p.1 u1 hp.1 hp.2.1 h

end

theorem fn32 {H0 : Heap} {Q : Post} {vc : Value} {code : List Int} (hc : Has RBytes H0 [vc] code) (hQ : ∀ H' u1 u2 p (s r : Int), Fresh RProblem H0 [u1, u2] p H' → SmallP p → I64 s ∧ I64 r → Q (.tuple #[.agg #[u1, u2], .int .i64 s, .int .i64 r]) H') : Runs Try.prog 32 #[vc] H0 Q := by
  refine f32.enter ?_
  unfold f32.w
  refine Wl.new (Loc.start H0) fun H b1 h => Wi.call (fn46 hc h fun H b h => Wi.call (fn68 (i := 0) h rfl fun H u1 u2 p h hp => ?_))
  have kc := (h.rd (cs := [u1, u2]) (r := RProblem)).cell
  refine Wl.new h fun H b4 h => Wl.putA h rfl rfl kc fun H h => ?_
  have h : Ab.Loc H0 [.box b4 [u1, u2], .data RProblem [u1, u2] p, .src b vc code, .box b1 [.slice none 0 0, .slice none 0 0]] H := h
  have hl : Has RS H [u2] p.2 := by
    obtain ⟨w1, w2, e, r1, r2⟩ := hasProb (h.rd (cs := [u1, u2]) (r := RProblem))
    simp only [List.cons.injEq, and_true] at e
    rw [e.2]
    exact r2
  refine Wl.getA (b := b4) h rfl (Wi.fieldAddr (Wl.get (b := b4) (o := 1) h rfl (Wl.lenH hl (Wi.min2 ?_))))
  have e5 : (if (5 : Int) < (p.2.length : Nat) then (5 : Int) else (p.2.length : Nat)) = ((min p.2.length 5 : Nat) : Int) := by
    split <;> omega
  rw [e5]
  have h32 : 2 ^ (min p.2.length 5) ≤ 32 := Nat.pow_le_pow_right (n := 2) (j := 5) (by decide) (by omega)
  refine Wi.convN (by omega) (Wi.shl1 (by omega) ?_)
  obtain ⟨N, hN⟩ : ∃ N : Nat, N = 2 ^ (min p.2.length 5) := ⟨_, rfl⟩
  rw [← hN] at h32 ⊢
  refine Wi.call (fn53 (i := 2) h rfl fun H x1 h hx1 hx1' => ?_)
  have := hx1' (by decide)
  refine Wi.chk (Wl.get (b := b4) (o := 1) h rfl ⟨rfl, rfl⟩) (Wi.chk (Wl.getA (b := b4) h rfl ⟨rfl, rfl⟩) (Wi.quo (by decide) (by have := quoA (y := 23) (show x1.natAbs ≤ 24 by omega); unfold I64; omega) (Wi.add (by have := quoA (y := 23) (show x1.natAbs ≤ 24 by omega); unfold I64; omega) (Wi.call (fn53 (i := 2) h rfl fun H x2 h hx2 hx2' => ?_)))))
  refine Wi.chk (Wl.getA (b := b4) h rfl ⟨rfl, rfl⟩) (Wi.call (fn53 (i := 2) h rfl fun H x3 h hx3 hx3' => ?_))
  refine Wi.chk (Wl.getA (b := b4) h rfl ⟨rfl, rfl⟩) (Wi.call (fn53 (i := 2) h rfl fun H x4 h hx4 hx4' => ?_))
  have b4' := quoA (x := x4) (y := 23) (A := 24) (by have := hx4' (by decide); omega)
  have b3' := hx3' (by decide)
  refine Wi.chk (Wl.getA (b := b4) h rfl ⟨rfl, rfl⟩) (Wi.quo (by decide) (by unfold I64; omega) (Wi.mul (by unfold I64; omega) (Wi.add (by unfold I64; omega) (Wl.putA (b := b1) (i := 3) h rfl rfl kc fun H h => Wl.getA (b := b1) h rfl ?_))))
  exact hQ _ _ _ p _ _ (h.ret (i := 1) rfl) hp ⟨by unfold I64; omega, by unfold I64; omega⟩

theorem fn6 {H0 : Heap} {Q : Post} {vc : Value} {code : List Int} (hc : Has RBytes H0 [vc] code) (hQ : ∀ H' u1 u2 p (s r : Int), Fresh RProblem H0 [u1, u2] p H' → SmallP p → I64 s ∧ I64 r → Q (.tuple #[.agg #[u1, u2], .int .i64 s, .int .i64 r]) H') : Runs Try.prog 6 #[vc] H0 Q := by
  refine f6.enter (Wl.new (Loc.start H0) fun H b1 h => Wi.call (fn32 (hc.le h.le) fun H u1 u2 p s r f hp hI => ?_))
  have h := h.add f
  have kc := (h.rd (cs := [u1, u2]) (r := RProblem)).cell
  simp only [gw]
  refine Wl.putA (b := b1) (i := 1) h rfl rfl kc fun H h => Wl.getA (b := b1) h rfl ?_
  exact hQ _ _ _ p _ _ (h.ret (i := 0) rfl) hp hI

theorem fn10 {H0 : Heap} {Q : Post} {vc : Value} {code : List Int} (hc : Has RBytes H0 [vc] code) (hQ : ∀ H' u1 u2 p (s r : Int), Fresh RProblem H0 [u1, u2] p H' → SmallP p → I64 s ∧ I64 r → Q (.tuple #[.agg #[u1, u2], .int .i64 s, .int .i64 r]) H') : Runs Try.prog 10 #[vc] H0 Q := by
  refine f10.enter (Wl.new (Loc.start H0) fun H b1 h => Wi.call (fn32 (hc.le h.le) fun H u1 u2 p s r f hp hI => ?_))
  have h := h.add f
  have kc := (h.rd (cs := [u1, u2]) (r := RProblem)).cell
  simp only [gw]
  refine Wl.putA (b := b1) (i := 1) h rfl rfl kc fun H h => Wl.getA (b := b1) h rfl ?_
  exact hQ _ _ _ p _ _ (h.ret (i := 0) rfl) hp hI

theorem fn40 {H0 : Heap} {Q : Post} {vc : Value} {code : List Int} (hc : Has RBytes H0 [vc] code) (hQ : ∀ H' u1 u2 p (r : Int), Fresh RProblem H0 [u1, u2] p H' → SmallP p → I64 r → Q (.tuple #[.agg #[u1, u2], .int .i64 r]) H') : Runs Try.prog 40 #[vc] H0 Q := by
  refine f40.enter (Wl.new (Loc.start H0) fun H b1 h => Wi.call (fn32 (hc.le h.le) fun H u1 u2 p s r f hp hI => ?_))
  have h := h.add f
  have kc := (h.rd (cs := [u1, u2]) (r := RProblem)).cell
  simp only [gw]
  refine Wl.new h fun H b6 h => Wl.putA h rfl rfl kc fun H h => Wl.getA (b := b6) h rfl (Wl.putA (b := b1) (i := 2) h rfl rfl kc fun H h => Wl.getA (b := b1) h rfl ?_)
  exact hQ _ _ _ p _ (h.ret (i := 1) rfl) hp hI.2

theorem fn13 {H0 : Heap} {Q : Post} {vc : Value} {code : List Int} (hc : Has RBytes H0 [vc] code) (hQ : ∀ H' u1 u2 p (r : Int), Fresh RProblem H0 [u1, u2] p H' → SmallP p → I64 r → Q (.tuple #[.agg #[u1, u2], .int .i64 r]) H') : Runs Try.prog 13 #[vc] H0 Q := by
  refine f13.enter (Wl.new (Loc.start H0) fun H b1 h => Wi.call (fn40 (hc.le h.le) fun H u1 u2 p r f hp hI => ?_))
  have h := h.add f
  have kc := (h.rd (cs := [u1, u2]) (r := RProblem)).cell
  simp only [gw]
  refine Wl.putA (b := b1) (i := 1) h rfl rfl kc fun H h => Wl.getA (b := b1) h rfl ?_
  exact hQ _ _ _ p _ (h.ret (i := 0) rfl) hp hI

end Go.Proofs.Ythfcodelpebjcaa
