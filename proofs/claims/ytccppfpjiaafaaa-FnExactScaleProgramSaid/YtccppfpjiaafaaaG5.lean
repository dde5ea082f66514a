/- The contract of the reference's ScaleProgram. No condition. -/
import Derived.Test.YtccppfpjiaafaaaD4
import Derived.Test.YtccppfpjiaafaaaG3
import Derived.Test.YtccppfpjiaafaaaP2
namespace Go.Proofs.Ytccppfpjiaafaaa
open Go.Ab

/- loop.example/g01343/spec.ScaleProgram -/
def f38.l2 (Q : Post) (v41 : Value) (k_1 : Value) (i_7 : Value) (I1 : St [7] → Heap → Prop) (I2 : St [9] → Heap → Prop) (j_9 : Value) (H : Heap) : Prop :=
  W.len v41 H fun v42 H =>
  W.bin .lss j_9 v42 H fun v43 H =>
  W.cond v43 H
  (fun H => W.indexAddr 1 v41 j_9 H fun v44 H =>
   W.get v44 H fun v45 H =>
   W.bin .mul k_1 v45 H fun v46 H =>
   W.indexAddr 1 v41 j_9 H fun v47 H =>
   W.put v47 v46 H fun _ H =>
   W.bin .add j_9 (.int .i64 1) H fun v48 H =>
   I2 (v48, ()) H)
  (fun H => W.bin .add i_7 (.int .i64 1) H fun v49 H =>
   I1 (v49, ()) H)
def f38.l1 (Q : Post) (v25 : Value) (k_1 : Value) (v2 : Value) (I1 : St [7] → Heap → Prop) (i_7 : Value) (H : Heap) : Prop :=
  W.fieldAddr 1 v25 H fun v26 H =>
  W.get v26 H fun v27 H =>
  W.len v27 H fun v28 H =>
  W.bin .lss i_7 v28 H fun v29 H =>
  W.cond v29 H
  (fun H => W.fieldAddr 1 v25 H fun v30 H =>
   W.get v30 H fun v31 H =>
   W.fieldAddr 1 v25 H fun v32 H =>
   W.get v32 H fun v33 H =>
   W.indexAddr 1 v33 i_7 H fun v34 H =>
   W.get v34 H fun v35 H =>
   W.bin .mul k_1 v35 H fun v36 H =>
   W.indexAddr 1 v31 i_7 H fun v37 H =>
   W.put v37 v36 H fun _ H =>
   W.fieldAddr 0 v25 H fun v38 H =>
   W.get v38 H fun v39 H =>
   W.indexAddr 1 v39 i_7 H fun v40 H =>
   W.get v40 H fun v41 H =>
   W.loop (S := St [9]) (fun I2 s H => f38.l2 Q v41 k_1 i_7 I1 I2 s.1 H) ((.int .i64 0), ()) H)
  (fun H => W.getN 4 v25 H fun v50 H =>
   W.call Try.prog (.func (.func 47) #[] #[]) #[v50] H fun v51 H =>
   W.un .not v51 H fun v52 H =>
   W.cond v52 H
   (fun H => W.build [(.slice none 0 0), (.slice none 0 0), (.slice none 0 0), (.slice none 0 0)] [] H fun v53 H =>
    W.putN 4 v2 v53 H fun _ H =>
    W.getN 4 v2 H fun v54 H => Q (.tuple #[v54, (.int .i64 3)]) H)
   (fun H => W.getN 4 v25 H fun v55 H =>
    W.putN 4 v2 v55 H fun _ H =>
    W.getN 4 v2 H fun v56 H => Q (.tuple #[v56, (.int .i64 0)]) H))
def f38.w (Q : Post) (p_0 : Value) (k_1 : Value) (H : Heap) : Prop :=
  W.box p_0 28 H fun v1 H =>
  W.new [(.slice none 0 0), (.slice none 0 0), (.slice none 0 0), (.slice none 0 0)] 28 H fun v2 H =>
  W.getN 4 v1 H fun v3 H =>
  W.call Try.prog (.func (.func 47) #[] #[]) #[v3] H fun v4 H =>
  W.un .not v4 H fun v5 H =>
  W.cond v5 H
  (fun H => W.build [(.slice none 0 0), (.slice none 0 0), (.slice none 0 0), (.slice none 0 0)] [] H fun v6 H =>
   W.putN 4 v2 v6 H fun _ H =>
   W.getN 4 v2 H fun v7 H => Q (.tuple #[v7, (.int .i64 1)]) H)
  (fun H => W.call Try.prog (.func (.func 76) #[] #[]) #[k_1, (.int .i64 1), (.int .i64 20)] H fun v8 H =>
   W.un .not v8 H fun v9 H =>
   W.cond v9 H
   (fun H => W.build [(.slice none 0 0), (.slice none 0 0), (.slice none 0 0), (.slice none 0 0)] [] H fun v10 H =>
    W.putN 4 v2 v10 H fun _ H =>
    W.getN 4 v2 H fun v11 H => Q (.tuple #[v11, (.int .i64 2)]) H)
   (fun H => W.fieldAddr 0 v1 H fun v12 H =>
    W.get v12 H fun v13 H =>
    W.callQ Try.prog (.func (.func 70) #[] #[]) #[v13] H fun v14 H =>
    W.fieldAddr 1 v1 H fun v15 H =>
    W.get v15 H fun v16 H =>
    W.callQ Try.prog (.func (.func 71) #[] #[]) #[v16] H fun v17 H =>
    W.fieldAddr 2 v1 H fun v18 H =>
    W.get v18 H fun v19 H =>
    W.callQ Try.prog (.func (.func 70) #[] #[]) #[v19] H fun v20 H =>
    W.fieldAddr 3 v1 H fun v21 H =>
    W.get v21 H fun v22 H =>
    W.callQ Try.prog (.func (.func 71) #[] #[]) #[v22] H fun v23 H =>
    W.build [(.slice none 0 0), (.slice none 0 0), (.slice none 0 0), (.slice none 0 0)] [(0, 1, v14), (1, 1, v17), (2, 1, v20), (3, 1, v23)] H fun v24 H =>
    W.new [(.slice none 0 0), (.slice none 0 0), (.slice none 0 0), (.slice none 0 0)] 28 H fun v25 H =>
    W.putN 4 v25 v24 H fun _ H =>
    W.loop (S := St [7]) (fun I1 s H => f38.l1 Q v25 k_1 v2 I1 s.1 H) ((.int .i64 0), ()) H))
theorem f38.enter {Q : Post} {p_0 : Value} {k_1 : Value} {H : Heap} (h : f38.w Q p_0 k_1 H) : Runs Try.prog 38 #[p_0, k_1] H Q :=
  fn_enter (ann := [(7, [7]), (12, [9])]) (by kernel_rfl) Try.func38 rfl (by kernel_rfl) h (by kernel_rfl)


theorem okD' {p : Prg} (h : IsPrg p) : okRows p.1 := ⟨by have := h.nm; have := h.dl; omega, fun r hr => by have := h.nm; rw [(h.d r hr).1]; omega⟩
theorem okA' {p : Prg} (h : IsPrg p) : okRows p.2.2.1 := ⟨by have := h.nm; have := h.al; omega, fun r hr => by have := h.nm; rw [(h.a r hr).1]; omega⟩

theorem fn38 {H0 : Heap} {Q : Post} {cs : List Value} {p : Prg} {k : Int} (hr : Has RPrg H0 cs p) (_ : I64 k) (hw : wPrg p ≤ 1048576) (hQ : ∀ H' cs', Fresh RPrg H0 cs' (spRes p k).1 H' → Q (.tuple #[.agg cs'.toArray, .int .i64 (spRes p k).2]) H') :
    Runs Try.prog 38 #[.agg cs.toArray, .int .i64 k] H0 Q := by
  obtain ⟨u1, u2, u3, u4, rfl, r1, r2, r3, r4⟩ := hasPrg hr
  refine f38.enter ?_
  unfold f38.w
  have h := (((((Loc.start H0).lent r1).lent r2).lent r3).lent r4).lent hr
  refine Wl.box h fun H b h => Wl.new h fun H b2 h => Wl.getA h rfl (Wi.call (fn47 (h.rd (cs := [u1, u2, u3, u4])) hw fun H t l ht => ?_))
  have h := h.to l
  cases t with
  | false =>
    have hp : ¬ IsPrg p := fun g => Bool.noConfusion (ht.2 g)
    simp only [g7, g10]
    refine Wi.build (cells := zCells4) rfl (Wl.putA h rfl rfl rfl fun H h => Wl.getA h rfl ?_)
    have := hQ H zCells4
    simp only [spRes, if_neg hp] at this
    exact this (fresh_nil4 h.le)
  | true =>
  have hp := ht.1 rfl
  simp only [g8, g9]
  refine Wi.call (fn76 ?_)
  cases hI : inR 1 20 k with
  | false =>
    simp only [g7, g10]
    refine Wi.build (cells := zCells4) rfl (Wl.putA h rfl rfl rfl fun H h => Wl.getA h rfl ?_)
    have := hQ H zCells4
    simp only [spRes, if_pos hp, hI] at this
    exact this (fresh_nil4 h.le)
  | true =>
  have hk20 := inR_iff.1 hI
  simp only [spRes, if_pos hp, hI, if_true] at hQ
  simp only [g8, g9]
  have n1 := hp.n1; have nm := hp.nm; have dl := hp.dl; have al := hp.al
  refine Wi.fieldAddr0 (Wl.get h rfl (Wi.callQ (fn70 (h.rd (cs := [u1])) (okD' hp) fun H w1 f1 => ⟨f1.le, ?_⟩)))
  have h := h.add f1.fresh
  refine Wi.fieldAddr0 (Wl.get h rfl (Wi.callQ (fn71 (h.rd (cs := [u2])) (by omega) fun H w2 f2 => ⟨f2.le, ?_⟩)))
  have h := h.add f2.fresh
  refine Wi.fieldAddr0 (Wl.get h rfl (Wi.callQ (fn70 (h.rd (cs := [u3])) (okA' hp) fun H w3 f3 => ⟨f3.le, ?_⟩)))
  have h := h.add f3.fresh
  refine Wi.fieldAddr0 (Wl.get h rfl (Wi.callQ (fn71 (h.rd (cs := [u4])) (by omega) fun H w4 f4 => ⟨f4.le, ?_⟩)))
  have h := h.add f4.fresh
  have c1 := f1.fresh.read.cell1; have c2 := f2.fresh.read.cell1; have c3 := f3.fresh.read.cell1; have c4 := f4.fresh.read.cell1
  have kc : [w1, w2, w3, w4].all isCell = true := by simp [c1, c2, c3, c4]
  refine Wi.build (cells := [w1, w2, w3, w4]) (by simp [fillA, f1.fresh.read.one, f2.fresh.read.one, f3.fresh.read.one, f4.fresh.read.one]) (Wl.new h fun H b3 h => Wl.putA h rfl rfl kc fun H h => ?_)
  obtain ⟨us, hus, h⟩ := h.heads (i := 4) rfl rfl
  refine W.for_rule p.2.1.length (fun i s H => s = (.int .i64 (i : Nat), ()) ∧ Ab.Loc H0 [.box b3 [w1, w2, w3, w4], .data RS [w4] p.2.2.2, .data RSS [w3] p.2.2.1, .data RS [w2] (mapTo (fun _ x => k * x) p.2.1 i), .rows RS w1 us (mapTo (fun _ r => r.map (k * ·)) p.1 i), .box b2 zCells4, .box b [u1, u2, u3, u4]] H)
    ⟨rfl, by rw [mapTo_zero, mapTo_zero]; exact h.first 7⟩ ?_
  rintro i s H J hi ⟨rfl, h⟩ hJ
  have hl := mapTo_length (fun _ x => k * x) p.2.1 i
  refine Wi.fieldAddr0 (Wl.get h rfl (Wl.len h (Wi.lssC (fun hlt => Wi.tru ?_) fun hge => Wi.fls ?_)))
  · have hix : i < p.2.1.length := by omega
    have hid : i < p.1.length := by omega
    have hb := mul20 (hp.c _ (List.getElem_mem hix)) (by omega) hk20
    refine Wi.fieldAddr0 (Wl.get h rfl (Wi.fieldAddr0 (Wl.get h rfl (Wl.atInt h (by omega) fun _ => ?_))))
    rw [mapTo_get hix]
    refine Wi.mul hb.1 (Wl.setInt h (by omega) hb.1 fun H h => Wi.fieldAddr0 (Wl.get h rfl ?_))
    rw [mapTo_succ (f := fun _ x => k * x) hix] at h
    have hl2 := mapTo_length (fun _ r => r.map (k * ·)) p.1 i
    have hget := mapTo_get (f := fun _ r => r.map (k * ·)) hid
    refine Wl.atRow rfl h (by omega) fun w hw _ => ?_
    have hd := hp.d _ (List.getElem_mem hid)
    refine W.for_rule p.1[i].length (fun j s H => s = (.int .i64 (j : Nat), ()) ∧ Ab.Loc H0 [.box b3 [w1, w2, w3, w4], .data RS [w4] p.2.2.2, .data RSS [w3] p.2.2.1, .data RS [w2] (mapTo (fun _ x => k * x) p.2.1 (i + 1)), .rows RS w1 us ((mapTo (fun _ r => r.map (k * ·)) p.1 i).set i (mapTo (fun _ x => k * x) p.1[i] j)), .box b2 zCells4, .box b [u1, u2, u3, u4]] H)
      ⟨rfl, by rw [mapTo_zero, ← hget, List.set_getElem_self]; exact h⟩ ?_
    rintro j s H J2 hj ⟨rfl, h⟩ hJ2
    have ha : i < ((mapTo (fun _ r => r.map (k * ·)) p.1 i).set i (mapTo (fun _ x => k * x) p.1[i] j)).length := by rw [List.length_set]; omega
    have hg2 : ((mapTo (fun _ r => r.map (k * ·)) p.1 i).set i (mapTo (fun _ x => k * x) p.1[i] j))[i] = mapTo (fun _ x => k * x) p.1[i] j := by simp
    have hl3 := mapTo_length (fun _ x => k * x) p.1[i] j
    have hwr := h.row rfl (j := 4) rfl hw ha
    rw [hg2] at hwr
    refine Wl.lenH hwr (Wi.lssC (fun hlt2 => Wi.tru ?_) fun hge2 => Wi.fls ?_)
    · have hjx : j < p.1[i].length := by omega
      have hb2 := mul20 (hd.2 _ (List.getElem_mem hjx)) (by omega) hk20
      refine Wl.atIntH hwr (by omega) fun _ => ?_
      rw [mapTo_get hjx]
      refine Wi.mul hb2.1 (Wl.rowSet h (j := 4) rfl hw ha (by rw [hg2]; omega) hb2.1 fun H h => Wi.add (by unfold I64; omega) (hJ2 _ _ hjx ⟨rfl, ?_⟩))
      rw [hg2, List.set_set, mapTo_succ (f := fun _ x => k * x) hjx] at h
      exact h
    · have : j = p.1[i].length := by omega
      subst this
      refine Wi.add (by unfold I64; omega) (hJ _ _ hix ⟨rfl, ?_⟩)
      have e : mapTo (fun _ x => k * x) p.1[i] p.1[i].length = p.1[i].map (k * ·) := by
        rw [mapTo_all]
        apply List.ext_getElem <;> simp
      rw [e, mapTo_succ (f := fun _ r => r.map (k * ·)) hid] at h
      exact h
  · have : i = p.2.1.length := by omega
    subst this
    have e1 : mapTo (fun _ r => r.map (k * ·)) p.1 p.2.1.length = (sclPrg p k).1 := by
      rw [← dl, mapTo_all]
      unfold sclPrg
      apply List.ext_getElem <;> simp
    have e2 : mapTo (fun _ x => k * x) p.2.1 p.2.1.length = (sclPrg p k).2.1 := by
      rw [mapTo_all]
      unfold sclPrg
      apply List.ext_getElem <;> simp
    rw [e1, e2] at h
    have h := h.unrows (i := 4) rfl
    have f := Loc.ret4 (p := sclPrg p k) h (i1 := 4) (i2 := 3) (i3 := 2) (i4 := 1) rfl rfl rfl rfl (by decide)
    simp only [List.cons_append, List.nil_append] at f
    refine Wl.getA h rfl (Wi.call (fn47 f.read (scl_w hp k) fun H t l ht => ?_))
    have h := h.to l
    cases t with
    | false =>
      have hs : ¬ IsPrg (sclPrg p k) := fun g => Bool.noConfusion (ht.2 g)
      simp only [g7, g10]
      refine Wi.build (cells := zCells4) rfl (Wl.putA h rfl rfl rfl fun H h => Wl.getA h rfl ?_)
      have := hQ H zCells4
      simp only [limRes, if_neg hs] at this
      exact this (fresh_nil4 h.le)
    | true =>
      have hs := ht.1 rfl
      simp only [g8, g9]
      refine Wl.getA h rfl (Wl.putA (vs := [w1, w2, w3, w4]) h rfl rfl kc fun H h => Wl.getA h rfl ?_)
      have := hQ H [w1, w2, w3, w4]
      simp only [limRes, if_pos hs] at this
      exact this (by
        have f := Loc.ret4 (p := sclPrg p k) h (i1 := 4) (i2 := 3) (i3 := 2) (i4 := 1) rfl rfl rfl rfl (by decide)
        exact f)

end Go.Proofs.Ytccppfpjiaafaaa
