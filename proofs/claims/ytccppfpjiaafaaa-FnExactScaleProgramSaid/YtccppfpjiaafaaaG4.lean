/- The contract of the program's ScaleProgram. No condition. -/
import Derived.Test.YtccppfpjiaafaaaG1
import Derived.Test.YtccppfpjiaafaaaG3
namespace Go.Proofs.Ytccppfpjiaafaaa
open Go.Ab

/- loop.example/g01343/impl.ScaleProgram -/
def f39.l1 (Q : Post) (v30 : Value) (v27 : Value) (v2 : Value) (v3 : Value) (I1 : St [33] → Heap → Prop) (x_33 : Value) (H : Heap) : Prop :=
  W.bin .lss x_33 v30 H fun v31 H =>
  W.cond v31 H
  (fun H => W.fieldAddr 1 v27 H fun v32 H =>
   W.get v32 H fun v33 H =>
   W.indexAddr 1 v33 x_33 H fun v34 H =>
   W.get v34 H fun v35 H =>
   W.get v2 H fun v36 H =>
   W.bin .mul v35 v36 H fun v37 H =>
   W.indexAddr 1 v33 x_33 H fun v38 H =>
   W.put v38 v37 H fun _ H =>
   W.bin .add x_33 (.int .i64 1) H fun v39 H =>
   I1 (v39, ()) H)
  (fun H => W.getN 4 v27 H fun v40 H =>
   W.call Try.prog (.func (.func 75) #[] #[]) #[v40] H fun v41 H =>
   W.extract 0 v41 H fun v42 H =>
   W.extract 1 v41 H fun v43 H =>
   W.putN 4 v3 v42 H fun _ H =>
   W.getN 4 v3 H fun v44 H => Q (.tuple #[v44, v43]) H)
def f39.w (Q : Post) (p_0 : Value) (k_1 : Value) (H : Heap) : Prop :=
  W.box p_0 28 H fun v1 H =>
  W.box k_1 2 H fun v2 H =>
  W.new [(.slice none 0 0), (.slice none 0 0), (.slice none 0 0), (.slice none 0 0)] 28 H fun v3 H =>
  W.getN 4 v1 H fun v4 H =>
  W.call Try.prog (.func (.func 14) #[] #[]) #[v4] H fun v5 H =>
  W.un .not v5 H fun v6 H =>
  W.cond v6 H
  (fun H => W.build [(.slice none 0 0), (.slice none 0 0), (.slice none 0 0), (.slice none 0 0)] [] H fun v7 H =>
   W.putN 4 v3 v7 H fun _ H =>
   W.getN 4 v3 H fun v8 H => Q (.tuple #[v8, (.int .i64 1)]) H)
  (fun H => W.get v2 H fun v9 H =>
   W.call Try.prog (.func (.func 77) #[] #[]) #[v9, (.int .i64 1), (.int .i64 20)] H fun v10 H =>
   W.un .not v10 H fun v11 H =>
   W.cond v11 H
   (fun H => W.build [(.slice none 0 0), (.slice none 0 0), (.slice none 0 0), (.slice none 0 0)] [] H fun v12 H =>
    W.putN 4 v3 v12 H fun _ H =>
    W.getN 4 v3 H fun v13 H => Q (.tuple #[v13, (.int .i64 2)]) H)
   (fun H => W.fieldAddr 0 v1 H fun v14 H =>
    W.get v14 H fun v15 H =>
    W.callQ Try.prog (.func (.func 78) #[] #[]) #[v15, (.func (.func 79) #[] #[v2, v1])] H fun v16 H =>
    W.fieldAddr 1 v1 H fun v17 H =>
    W.get v17 H fun v18 H =>
    W.callQ Try.prog (.func (.func 80) #[] #[]) #[v18] H fun v19 H =>
    W.fieldAddr 2 v1 H fun v20 H =>
    W.get v20 H fun v21 H =>
    W.callQ Try.prog (.func (.func 73) #[] #[]) #[v21] H fun v22 H =>
    W.fieldAddr 3 v1 H fun v23 H =>
    W.get v23 H fun v24 H =>
    W.callQ Try.prog (.func (.func 80) #[] #[]) #[v24] H fun v25 H =>
    W.build [(.slice none 0 0), (.slice none 0 0), (.slice none 0 0), (.slice none 0 0)] [(0, 1, v16), (1, 1, v19), (2, 1, v22), (3, 1, v25)] H fun v26 H =>
    W.new [(.slice none 0 0), (.slice none 0 0), (.slice none 0 0), (.slice none 0 0)] 28 H fun v27 H =>
    W.putN 4 v27 v26 H fun _ H =>
    W.fieldAddr 1 v27 H fun v28 H =>
    W.get v28 H fun v29 H =>
    W.len v29 H fun v30 H =>
    W.loop (S := St [33]) (fun I1 s H => f39.l1 Q v30 v27 v2 v3 I1 s.1 H) ((.int .i64 0), ()) H))
theorem f39.enter {Q : Post} {p_0 : Value} {k_1 : Value} {H : Heap} (h : f39.w Q p_0 k_1 H) : Runs Try.prog 39 #[p_0, k_1] H Q :=
  fn_enter (ann := [(7, [33])]) (by kernel_rfl) Try.func39 rfl (by kernel_rfl) h (by kernel_rfl)

/- loop.example/g01343/impl.ScaleProgram$1 -/
def f79.w (Q : Post) (a_0 : Value) (b_1 : Value) (x_2 : Value) (x_3 : Value) (H : Heap) : Prop :=
  W.get x_2 H fun v1 H =>
  W.fieldAddr 0 x_3 H fun v2 H =>
  W.get v2 H fun v3 H =>
  W.indexAddr 1 v3 a_0 H fun v4 H =>
  W.get v4 H fun v5 H =>
  W.indexAddr 1 v5 b_1 H fun v6 H =>
  W.get v6 H fun v7 H =>
  W.bin .mul v1 v7 H fun v8 H =>
  Q v8 H
theorem f79.enter {Q : Post} {a_0 : Value} {b_1 : Value} {x_2 : Value} {x_3 : Value} {H : Heap} (h : f79.w Q a_0 b_1 x_2 x_3 H) : Runs Try.prog 79 #[a_0, b_1, x_2, x_3] H Q :=
  fn_enter (ann := []) (by kernel_rfl) Try.func79 rfl (by kernel_rfl) h (by kernel_rfl)


theorem okD {p : Prg} (h : IsPrg p) : okRows p.1 := ⟨by have := h.nm; have := h.dl; omega, fun r hr => by have := h.nm; rw [(h.d r hr).1]; omega⟩
theorem okA {p : Prg} (h : IsPrg p) : okRows p.2.2.1 := ⟨by have := h.nm; have := h.al; omega, fun r hr => by have := h.nm; rw [(h.a r hr).1]; omega⟩

theorem fn39 {H0 : Heap} {Q : Post} {cs : List Value} {p : Prg} {k : Int} (hr : Has RPrg H0 cs p) (hk : I64 k) (hw : wPrg p ≤ 1048576) (hQ : ∀ H' cs', Fresh RPrg H0 cs' (spRes p k).1 H' → Q (.tuple #[.agg cs'.toArray, .int .i64 (spRes p k).2]) H') :
    Runs Try.prog 39 #[.agg cs.toArray, .int .i64 k] H0 Q := by
  obtain ⟨u1, u2, u3, u4, rfl, r1, r2, r3, r4⟩ := hasPrg hr
  refine f39.enter ?_
  unfold f39.w
  have h := (((((Loc.start H0).lent r1).lent r2).lent r3).lent r4).lent hr
  refine Wl.box h fun H b h => Wl.box1 h rfl fun H bk h => Wl.new h fun H b2 h => Wl.getA h rfl (Wi.call (fn14 (h.rd (cs := [u1, u2, u3, u4])) hw fun H t l ht => ?_))
  have h := h.to l
  cases t with
  | false =>
    have hp : ¬ IsPrg p := fun g => Bool.noConfusion (ht.2 g)
    simp only [g7, g10]
    refine Wi.build (cells := zCells4) rfl (Wl.putA h rfl rfl rfl fun H h => Wl.getA h rfl ?_)
    have := hQ H zCells4
    simp only [spRes, if_neg hp] at this
    exact this (fresh_nil4 h.le)
  | true =>
  have hp := ht.1 rfl
  simp only [g8, g9]
  refine Wl.get h rfl (Wi.call (fn77 ?_))
  cases hI : inR 1 20 k with
  | false =>
    simp only [g7, g10]
    refine Wi.build (cells := zCells4) rfl (Wl.putA h rfl rfl rfl fun H h => Wl.getA h rfl ?_)
    have := hQ H zCells4
    simp only [spRes, if_pos hp, hI] at this
    exact this (fresh_nil4 h.le)
  | true =>
  have hk20 := inR_iff.1 hI
  simp only [spRes, if_pos hp, hI, if_true] at hQ
  simp only [g8, g9]
  have n1 := hp.n1; have nm := hp.nm; have dl := hp.dl; have al := hp.al
  refine Wi.fieldAddr0 (Wl.get h rfl (Wi.callQ (fn78 (f := fun i j => k * (p.1.getD i []).getD j 0) (h.rd (cs := [u1])) (okD hp) ?_ fun H w1 f1 => ⟨f1.le, ?_⟩)))
  · intro H' i j K hi hj l hK
    have h := h.to l
    refine Wi.callV (f79.enter (Wl.get h rfl (Wi.fieldAddr0 (Wl.get h rfl (Wl.at1 rfl h hi fun v hv => Wl.atIntH hv hj fun _ => Wi.mul ?_ ?_)))))
    · exact (mul20 ((hp.d _ (List.getElem_mem hi)).2 _ (List.getElem_mem hj)) (by omega) hk20).1
    · have := hK H' (.refl _)
      simp only [List.getD_eq_getElem?_getD, List.getElem?_eq_getElem hi, Option.getD_some, List.getElem?_eq_getElem hj] at this
      exact this (mul20 ((hp.d _ (List.getElem_mem hi)).2 _ (List.getElem_mem hj)) (by omega) hk20).1
  have h := h.add f1
  refine Wi.fieldAddr0 (Wl.get h rfl (Wi.callQ (fn80 (h.rd (cs := [u2])) (by omega) fun H w2 f2 => ⟨f2.le, ?_⟩)))
  have h := h.add f2.fresh
  refine Wi.fieldAddr0 (Wl.get h rfl (Wi.callQ (fn73 (h.rd (cs := [u3])) (okA hp) fun H w3 f3 => ⟨f3.le, ?_⟩)))
  have h := h.add f3.fresh
  refine Wi.fieldAddr0 (Wl.get h rfl (Wi.callQ (fn80 (h.rd (cs := [u4])) (by omega) fun H w4 f4 => ⟨f4.le, ?_⟩)))
  have h := h.add f4.fresh
  have c1 := f1.read.cell1; have c2 := f2.fresh.read.cell1; have c3 := f3.fresh.read.cell1; have c4 := f4.fresh.read.cell1
  have kc : [w1, w2, w3, w4].all isCell = true := by simp [c1, c2, c3, c4]
  refine Wi.build (cells := [w1, w2, w3, w4]) (by simp [fillA, f1.read.one, f2.fresh.read.one, f3.fresh.read.one, f4.fresh.read.one]) (Wl.new h fun H b3 h => Wl.putA h rfl rfl kc fun H h => Wi.fieldAddr0 (Wl.get h rfl (Wl.len h ?_)))
  refine W.for_rule p.2.1.length (fun i s H => s = (.int .i64 (i : Nat), ()) ∧ Ab.Loc H0 [.box b3 [w1, w2, w3, w4], .data RS [w4] p.2.2.2, .data RSS [w3] p.2.2.1, .data RS [w2] (mapTo (fun _ x => k * x) p.2.1 i), .data RSS [w1] (mapF (fun i j => k * (p.1.getD i []).getD j 0) p.1), .box b2 zCells4, .box bk [.int .i64 k], .box b [u1, u2, u3, u4]] H)
    ⟨rfl, by
      rw [mapTo_zero]
      exact h.first 8⟩ ?_
  rintro i s H J hi ⟨rfl, h⟩ hJ
  refine Wi.lssC (fun hlt => Wi.tru ?_) fun hge => Wi.fls ?_
  · have hix : i < p.2.1.length := by omega
    have hl := mapTo_length (fun _ x => k * x) p.2.1 i
    have hb := mul20 (hp.c _ (List.getElem_mem hix)) (by omega) hk20
    refine Wi.fieldAddr0 (Wl.get h rfl (Wl.atInt h (by omega) fun _ => ?_))
    rw [mapTo_get hix]
    refine Wl.get h rfl (Wi.mul hb.2 (Wl.setInt h (by omega) hb.2 fun H h => Wi.add (by unfold I64; omega) (hJ _ _ hix ⟨rfl, ?_⟩)))
    rw [← mapTo_succ hix, Int.mul_comm k]
    exact h
  · have : i = p.2.1.length := by omega
    subst this
    rw [mapTo_all] at h
    have e1 : mapF (fun i j => k * (p.1.getD i []).getD j 0) p.1 = (sclPrg p k).1 := by
      unfold mapF sclPrg
      apply List.ext_getElem
      · simp
      · intro i h1 h2
        have hi : i < p.1.length := by simpa using h2
        apply List.ext_getElem
        · simp
        · intro j h3 h4
          have hj : j < p.1[i].length := by simpa using h4
          simp [List.getD_eq_getElem?_getD, List.getElem?_eq_getElem hi, List.getElem?_eq_getElem hj]
    have e2 : p.2.1.mapIdx (fun _ x => k * x) = (sclPrg p k).2.1 := by
      unfold sclPrg
      apply List.ext_getElem <;> simp
    rw [e1, e2] at h
    have f := Loc.ret4 (p := sclPrg p k) h (i1 := 4) (i2 := 3) (i3 := 2) (i4 := 1) rfl rfl rfl rfl (by decide)
    simp only [List.cons_append, List.nil_append] at f
    refine Wl.getA h rfl (Wi.call (fn75 f.read (scl_w hp k) (fun hs H l => ?_) fun hs H l => ?_))
    · have h := h.to l
      simp only [g11, g12]
      refine Wl.putA (vs := [w1, w2, w3, w4]) h rfl rfl kc fun H h => Wl.getA h rfl ?_
      have := hQ H [w1, w2, w3, w4]
      simp only [limRes, if_pos hs] at this
      exact this (by
        have f := Loc.ret4 (p := sclPrg p k) h (i1 := 4) (i2 := 3) (i3 := 2) (i4 := 1) rfl rfl rfl rfl (by decide)
        exact f)
    · have h := h.to l
      simp only [g11, g12]
      refine Wl.putA (vs := zCells4) h rfl rfl rfl fun H h => Wl.getA h rfl ?_
      have := hQ H zCells4
      simp only [limRes, if_neg hs] at this
      exact this (fresh_nil4 h.le)

end Go.Proofs.Ytccppfpjiaafaaa
