/- The contract of PivotOf, as far as its side goes. No condition. -/
import Derived.Test.YtdmgomeogedjgaaGreatGVV
import Derived.Test.YtdmgomeogedjgaaGreatZabG9
import Derived.Test.YtdmgomeogedjgaaGreatGZB
namespace Go.Proofs.YtdmgomeogedjgaaGreat
open Go.Ab

/- loop.example/g01343/impl.PivotOf -/
def f16.w (Q : Post) (p_0 : Value) (s_1 : Value) (H : Heap) : Prop :=
  W.box p_0 31 H fun v1 H =>
  W.new [(.int .i64 0), (.slice none 0 0), (.slice none 0 0)] 45 H fun v2 H =>
  W.getN 2 v1 H fun v3 H =>
  W.call Tryz.prog (.func (.func 39) #[] #[]) #[v3, s_1] H fun v4 H =>
  W.extract 0 v4 H fun v5 H =>
  W.extract 1 v4 H fun v6 H =>
  W.putN 3 v2 v5 H fun _ H =>
  W.getN 3 v2 H fun v7 H => Q (.tuple #[v7, v6]) H
theorem f16.enter {Q : Post} {p_0 : Value} {s_1 : Value} {H : Heap} (h : f16.w Q p_0 s_1 H) : Runs Tryz.prog 16 #[p_0, s_1] H Q :=
  fn_enter (ann := []) (by kernel_rfl) Tryz.func16 rfl (by kernel_rfl) h (by kernel_rfl)

/- loop.example/g01343/impl.pivotOf -/
def f39.w (Q : Post) (p_0 : Value) (s_1 : Value) (H : Heap) : Prop :=
  W.box p_0 31 H fun v1 H =>
  W.new [(.int .i64 0), (.slice none 0 0), (.slice none 0 0)] 45 H fun v2 H =>
  W.getN 2 v1 H fun v3 H =>
  W.call Tryz.prog (.func (.func 48) #[] #[]) #[v3, s_1] H fun v4 H =>
  W.bin .neq v4 (.int .i64 0) H fun v5 H =>
  W.cond v5 H
  (fun H => W.build [(.int .i64 0), (.slice none 0 0), (.slice none 0 0)] [] H fun v6 H =>
   W.putN 3 v2 v6 H fun _ H =>
   W.getN 3 v2 H fun v7 H => Q (.tuple #[v7, v4]) H)
  (fun H => W.getN 2 v1 H fun v8 H =>
   W.call Tryz.prog (.func (.func 80) #[] #[]) #[v8, s_1] H fun v9 H =>
   W.extract 0 v9 H fun v10 H =>
   W.extract 1 v9 H fun v11 H =>
   W.new [(.int .i64 0), (.slice none 0 0), (.slice none 0 0)] 45 H fun v12 H =>
   W.putN 3 v12 v10 H fun _ H =>
   W.un .not v11 H fun v13 H =>
   W.cond v13 H
   (fun H => W.build [(.int .i64 0), (.slice none 0 0), (.slice none 0 0)] [] H fun v14 H =>
    W.putN 3 v2 v14 H fun _ H =>
    W.getN 3 v2 H fun v15 H => Q (.tuple #[v15, (.int .i64 5)]) H)
   (fun H => W.getN 3 v12 H fun v16 H =>
    W.putN 3 v2 v16 H fun _ H =>
    W.getN 3 v2 H fun v17 H => Q (.tuple #[v17, (.int .i64 0)]) H))
theorem f39.enter {Q : Post} {p_0 : Value} {s_1 : Value} {H : Heap} (h : f39.w Q p_0 s_1 H) : Runs Tryz.prog 39 #[p_0, s_1] H Q :=
  fn_enter (ann := []) (by kernel_rfl) Tryz.func39 rfl (by kernel_rfl) h (by kernel_rfl)

/- (loop.example/g01343/impl.Problem).pivot -/
def f80.l2 (Q : Post) (v29 : Value) (v26 : Value) (v15 : Value) (x_35 : Value) (I1 : St [35] → Heap → Prop) (I2 : St [54] → Heap → Prop) (x_54 : Value) (H : Heap) : Prop :=
  W.bin .lss x_54 v29 H fun v30 H =>
  W.cond v30 H
  (fun H => W.indexAddr 1 v26 x_54 H fun v31 H =>
   W.get v31 H fun v32 H =>
   W.fieldAddr 1 v15 H fun v33 H =>
   W.get v33 H fun v34 H =>
   W.indexAddr 1 v34 x_54 H fun v35 H =>
   W.get v35 H fun v36 H =>
   W.un .neg v32 H fun v37 H =>
   W.indexAddr 1 v36 x_35 H fun v38 H =>
   W.put v38 v37 H fun _ H =>
   W.bin .add x_54 (.int .i64 1) H fun v39 H =>
   I2 (v39, ()) H)
  (fun H => W.bin .add x_35 (.int .i64 1) H fun v40 H =>
   I1 (v40, ()) H)
def f80.l1 (Q : Post) (v18 : Value) (v1 : Value) (s_1 : Value) (v15 : Value) (v2 : Value) (I1 : St [35] → Heap → Prop) (x_35 : Value) (H : Heap) : Prop :=
  W.bin .lss x_35 v18 H fun v19 H =>
  W.cond v19 H
  (fun H => W.getN 2 v1 H fun v20 H =>
   W.getN 2 v1 H fun v21 H =>
   W.callQ Tryz.prog (.func (.func 97) #[] #[]) #[s_1, x_35] H fun v22 H =>
   W.un .not v22 H fun v23 H =>
   W.callQ Tryz.prog (.func (.func 130) #[] #[]) #[v21, x_35, v23] H fun v24 H =>
   W.callQ Tryz.prog (.func (.func 94) #[] #[]) #[v20, s_1, v24] H fun v25 H =>
   W.extract 0 v25 H fun v26 H =>
   W.extract 1 v25 H fun v27 H =>
   W.extract 2 v25 H fun v28 H =>
   W.len v26 H fun v29 H =>
   W.loop (S := St [54]) (fun I2 s H => f80.l2 Q v29 v26 v15 x_35 I1 I2 s.1 H) ((.int .i64 0), ()) H)
  (fun H => W.getN 3 v15 H fun v41 H =>
   W.putN 3 v2 v41 H fun _ H =>
   W.getN 3 v2 H fun v42 H => Q (.tuple #[v42, (.bool true)]) H)
def f80.w (Q : Post) (p_0 : Value) (s_1 : Value) (H : Heap) : Prop :=
  W.box p_0 31 H fun v1 H =>
  W.new [(.int .i64 0), (.slice none 0 0), (.slice none 0 0)] 45 H fun v2 H =>
  W.getN 2 v1 H fun v3 H =>
  W.call Tryz.prog (.func (.func 49) #[] #[]) #[v3, s_1] H fun v4 H =>
  W.extract 0 v4 H fun v5 H =>
  W.extract 1 v4 H fun v6 H =>
  W.extract 2 v4 H fun v7 H =>
  W.un .not v7 H fun v8 H =>
  W.cond v8 H
  (fun H => W.build [(.int .i64 0), (.slice none 0 0), (.slice none 0 0)] [] H fun v9 H =>
   W.putN 3 v2 v9 H fun _ H =>
   W.getN 3 v2 H fun v10 H => Q (.tuple #[v10, (.bool false)]) H)
  (fun H => W.fieldAddr 0 v1 H fun v11 H =>
   W.get v11 H fun v12 H =>
   W.call Tryz.prog (.func (.func 129) #[] #[]) #[v12] H fun v13 H =>
   W.build [(.int .i64 0), (.slice none 0 0), (.slice none 0 0)] [(0, 1, v6), (1, 1, v13), (2, 1, v5)] H fun v14 H =>
   W.new [(.int .i64 0), (.slice none 0 0), (.slice none 0 0)] 45 H fun v15 H =>
   W.putN 3 v15 v14 H fun _ H =>
   W.fieldAddr 1 v1 H fun v16 H =>
   W.get v16 H fun v17 H =>
   W.len v17 H fun v18 H =>
   W.loop (S := St [35]) (fun I1 s H => f80.l1 Q v18 v1 s_1 v15 v2 I1 s.1 H) ((.int .i64 0), ()) H)
theorem f80.enter {Q : Post} {p_0 : Value} {s_1 : Value} {H : Heap} (h : f80.w Q p_0 s_1 H) : Runs Tryz.prog 80 #[p_0, s_1] H Q :=
  fn_enter (ann := [(6, [35]), (10, [54])]) (by kernel_rfl) Tryz.func80 rfl (by kernel_rfl) h (by kernel_rfl)


theorem fn80 {H0 : Heap} {Q : Post} {cs : List Value} {p : Prob} {s : Nat} (hr : Has RProblem H0 cs p) (hp : isProb p = true) (hs : s < 2 ^ p.2.length)
    (h1 : det p.2.length (mAt (colL p.2.length p.1 s)) = 0 → ∀ H', H0.Le H' → Q (.tuple #[.agg #[.int .i64 0, .slice none 0 0, .slice none 0 0], .bool false]) H')
    (h2 : det p.2.length (mAt (colL p.2.length p.1 s)) ≠ 0 → ∀ H' w1 w2 rows, Fresh (RSS.pair RS) H0 [w1, w2] (rows, ptOf p.2.length p s) H' → Q (.tuple #[.agg #[.int .i64 (det p.2.length (mAt (colL p.2.length p.1 s))).natAbs, w1, w2], .bool true]) H') :
    Runs Tryz.prog 80 #[.agg cs.toArray, .int .i64 (s : Nat)] H0 Q := by
  obtain ⟨u1, u2, rfl, r1, r2⟩ := hasProb hr
  have hpb := PB.of hp
  have hn := hpb.n5
  have h32 := pow5 hn
  have hsq := hpb.sq
  have hl1 := hsq.1
  refine f80.enter ?_
  unfold f80.w
  have h := (((Loc.start H0).lent r1).lent r2).lent hr
  refine Wl.box h fun H b h => Wl.new h fun H b2 h => Wl.getA (b := b) h rfl (Wi.call (fn49 (h.rd (cs := [u1, u2])) hpb (by omega) (fun hD H l => ?_) fun hD H w f => ?_))
  · have h := h.to l
    simp only [gw]
    refine Wi.build (cells := [.int .i64 0, .slice none 0 0, .slice none 0 0]) rfl (Wl.putA (b := b2) (i := 0) h rfl rfl rfl fun H h => Wl.getA (b := b2) h rfl ?_)
    exact h1 hD _ h.le
  have h := h.add f
  simp only [gw]
  refine Wi.fieldAddr (Wl.get (b := b) (o := 0) h rfl (Wi.call (fn129 (h.rd (cs := [u1])) ⟨by omega, fun r hr => by rw [hsq.2 r hr]; omega⟩ fun H w1 g => ?_)))
  have h := h.add g.fresh
  have c1 := (h.rd (cs := [w1]) (r := RSS)).one
  have c2 := (h.rd (cs := [w]) (r := RS)).one
  have k1 := (h.rd (cs := [w1]) (r := RSS)).cell1
  have k2 := (h.rd (cs := [w]) (r := RS)).cell1
  have kc : [.int .i64 ((det p.2.length (mAt (colL p.2.length p.1 s))).natAbs : Int), w1, w].all isCell = true := by
    rw [List.all_cons, List.all_cons, List.all_cons, List.all_nil, k1, k2]
    rfl
  have cd : cellsA (.int .i64 ((det p.2.length (mAt (colL p.2.length p.1 s))).natAbs : Int)) = some [.int .i64 ((det p.2.length (mAt (colL p.2.length p.1 s))).natAbs : Int)] := rfl
  refine Wi.build (cells := [.int .i64 ((det p.2.length (mAt (colL p.2.length p.1 s))).natAbs : Int), w1, w]) (by simp [fillA, c1, c2, cd]) (Wl.new h fun H b15 h => Wl.putA h rfl rfl kc fun H h => ?_)
  have h : Ab.Loc H0 [.box b15 [.int .i64 ((det p.2.length (mAt (colL p.2.length p.1 s))).natAbs : Int), w1, w], .data RSS [w1] p.1, .data RS [w] (pointL p.2.length (colL p.2.length p.1 s) p.2), .box b2 [.int .i64 0, .slice none 0 0, .slice none 0 0], .box b [u1, u2], .lent RProblem [u1, u2] p, .lent RS [u2] p.2, .lent RSS [u1] p.1] H := h
  obtain ⟨us, hus, h⟩ := h.heads (i := 1) rfl rfl
  refine Wi.fieldAddr (Wl.get (b := b) (o := 1) h rfl (Wl.len (v := u2) (xs := p.2) h ?_))
  refine W.for_rule p.2.length (fun x st H => ∃ m, st = (.int .i64 (x : Nat), ()) ∧ m.length = p.2.length ∧ (∀ r ∈ m, r.length = p.2.length) ∧ Ab.Loc H0 [.box b15 [.int .i64 ((det p.2.length (mAt (colL p.2.length p.1 s))).natAbs : Int), w1, w], .rows RS w1 us m, .data RS [w] (pointL p.2.length (colL p.2.length p.1 s) p.2), .box b2 [.int .i64 0, .slice none 0 0, .slice none 0 0], .box b [u1, u2], .lent RProblem [u1, u2] p, .lent RS [u2] p.2, .lent RSS [u1] p.1] H) ⟨p.1, rfl, hl1, hsq.2, h⟩ ?_
  rintro x st H J hx ⟨m, rfl, hml, hmr, h⟩ hJ
  have hI : I64 ((x : Int) + 1) := by unfold I64; omega
  refine Wi.lssC (fun hlt => Wi.tru ?_) fun hge => Wi.fls ?_
  · have hxn : x < p.2.length := by omega
    refine Wl.getA (b := b) h rfl (Wl.getA (b := b) h rfl (Wi.callQ (fn97 (by omega) (by omega) ⟨.refl _, ?_⟩)))
    have hcb : ∀ z : Bool, ∀ e ∈ columnV p.2.length p.1 z x, e.natAbs ≤ 100 := fun z e he => by
      obtain ⟨k, hk, rfl⟩ := List.mem_map.1 he
      have := hpb.m k x
      cases z <;> simp only [if_true, Bool.false_eq_true, if_false]
      · split <;> decide
      · omega
    have go : ∀ z : Bool, W.callQ Tryz.prog (.func (.func 130) #[] #[]) #[.agg #[u1, u2], .int .i64 (x : Nat), .bool z] H fun v24 H => W.callQ Tryz.prog (.func (.func 94) #[] #[]) #[.agg #[u1, u2], .int .i64 (s : Nat), v24] H fun v25 H =>
        W.extract 0 v25 H fun v26 H => W.extract 1 v25 H fun _ H => W.extract 2 v25 H fun _ H => W.len v26 H fun v29 H => W.loop (S := St [54]) (fun I2 st' H => f80.l2 Q v29 v26 (pt b15 0) (.int .i64 (x : Nat)) (fun st'' => J st'') I2 st'.1 H) ((.int .i64 0), ()) H := fun z => by
      refine Wi.callQ (fn130 (h.rd (cs := [u1, u2])) hpb hxn fun H c f => ⟨f.le, ?_⟩)
      have h := h.add f
      refine Wi.callQ (fn94 (h.rd (cs := [u1, u2])) hpb (by omega) (h.rd (cs := [c])) (by simp [columnV]) (hcb z) (fun g => absurd g hD) fun _ H v f => ⟨f.le, ?_⟩)
      have h := h.add f
      simp only [gw]
      have hlv : (pointL p.2.length (colL p.2.length p.1 s) (columnV p.2.length p.1 z x)).length = p.2.length := by simp [pointL, solveL]
      have hvb : ∀ e ∈ pointL p.2.length (colL p.2.length p.1 s) (columnV p.2.length p.1 z x), e.natAbs ≤ 1920000000 := fun e he => by
        obtain ⟨y, hy, rfl⟩ := List.mem_map.1 he
        have h1 := solve_leib s hn hpb.m (hcb z) y hy
        have h2 := mulA (sgI_abs (det p.2.length (mAt (colL p.2.length p.1 s)))) h1
        omega
      generalize pointL p.2.length (colL p.2.length p.1 s) (columnV p.2.length p.1 z x) = col at *
      refine Wl.len (v := v) (xs := col) h ?_
      rw [hlv]
      refine W.for_rule p.2.length (fun y st H => ∃ m, st = (.int .i64 (y : Nat), ()) ∧ m.length = p.2.length ∧ (∀ r ∈ m, r.length = p.2.length) ∧ Ab.Loc H0 [.data RS [v] col, .data RS [c] (columnV p.2.length p.1 z x), .box b15 [.int .i64 ((det p.2.length (mAt (colL p.2.length p.1 s))).natAbs : Int), w1, w], .rows RS w1 us m, .data RS [w] (pointL p.2.length (colL p.2.length p.1 s) p.2), .box b2 [.int .i64 0, .slice none 0 0, .slice none 0 0], .box b [u1, u2], .lent RProblem [u1, u2] p, .lent RS [u2] p.2, .lent RSS [u1] p.1] H) ⟨m, rfl, hml, hmr, h⟩ ?_
      rintro y st H J2 hy ⟨m, rfl, hml, hmr, h⟩ hJ2
      refine Wi.lssC (fun hlt2 => Wi.tru ?_) fun hge2 => Wi.fls ?_
      · have hyn : y < p.2.length := by omega
        have hym : y < m.length := by omega
        have hyl := hmr _ (List.getElem_mem hym)
        have hyc : y < col.length := by omega
        have hvy := hvb _ (List.getElem_mem hyc)
        refine Wl.atInt (v := v) (xs := col) (i := y) h hyc fun _ => Wi.fieldAddr (Wl.get (b := b15) (o := 1) h rfl (Wl.atRow rfl h (a := y) hym fun w' hw _ => Wi.neg (by unfold I64; omega) ?_))
        refine Wl.rowSet h (j := 3) rfl hw hym (i := x) (by omega) (by unfold I64; omega) fun H h => Wi.add (by unfold I64; omega) (hJ2 _ _ hyn ⟨m.set y (m[y].set x (-col[y])), rfl, by rw [List.length_set]; exact hml, fun r hr => ?_, h⟩)
        rcases List.mem_or_eq_of_mem_set hr with g | g
        · exact hmr r g
        · rw [g, List.length_set]; exact hyl
      · exact Wi.add hI (hJ _ _ hxn ⟨m, rfl, hml, hmr, h.tl.tl⟩)
    exact go _
  · have h := h.unrows (i := 1) rfl
    refine Wl.getA (b := b15) h rfl (Wl.putA (b := b2) (i := 3) h rfl rfl kc fun H h => Wl.getA (b := b2) h rfl ?_)
    exact h2 hD _ w1 w m (Loc.ret2 h (c1 := [w1]) (c2 := [w]) (i := 1) (j := 2) rfl rfl (by decide))

end Go.Proofs.YtdmgomeogedjgaaGreat
