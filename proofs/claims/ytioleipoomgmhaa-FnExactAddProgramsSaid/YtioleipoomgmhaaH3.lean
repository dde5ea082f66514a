/- The contract of the reference's AddPrograms. No condition. -/
import Derived.Test.YtioleipoomgmhaaH1
import Derived.Test.YtioleipoomgmhaaD4
import Derived.Test.YtioleipoomgmhaaP2
namespace Go.Proofs.Ytioleipoomgmhaa
open Go.Ab

/- loop.example/g01343/spec.AddPrograms -/
def f17.l2 (Q : Post) (v2 : Value) (v62 : Value) (i_7 : Value) (I1 : St [7] → Heap → Prop) (I2 : St [9] → Heap → Prop) (k_9 : Value) (H : Heap) : Prop :=
  W.fieldAddr 1 v2 H fun v63 H =>
  W.get v63 H fun v64 H =>
  W.len v64 H fun v65 H =>
  W.bin .lss k_9 v65 H fun v66 H =>
  W.cond v66 H
  (fun H => W.indexAddr 1 v62 k_9 H fun v67 H =>
   W.get v67 H fun v68 H =>
   W.fieldAddr 0 v2 H fun v69 H =>
   W.get v69 H fun v70 H =>
   W.indexAddr 1 v70 i_7 H fun v71 H =>
   W.get v71 H fun v72 H =>
   W.indexAddr 1 v72 k_9 H fun v73 H =>
   W.get v73 H fun v74 H =>
   W.bin .add v68 v74 H fun v75 H =>
   W.indexAddr 1 v62 k_9 H fun v76 H =>
   W.put v76 v75 H fun _ H =>
   W.bin .add k_9 (.int .i64 1) H fun v77 H =>
   I2 (v77, ()) H)
  (fun H => W.bin .add i_7 (.int .i64 1) H fun v78 H =>
   I1 (v78, ()) H)
def f17.l1 (Q : Post) (v2 : Value) (v42 : Value) (v3 : Value) (I1 : St [7] → Heap → Prop) (i_7 : Value) (H : Heap) : Prop :=
  W.fieldAddr 1 v2 H fun v43 H =>
  W.get v43 H fun v44 H =>
  W.len v44 H fun v45 H =>
  W.bin .lss i_7 v45 H fun v46 H =>
  W.cond v46 H
  (fun H => W.fieldAddr 1 v42 H fun v47 H =>
   W.get v47 H fun v48 H =>
   W.fieldAddr 1 v42 H fun v49 H =>
   W.get v49 H fun v50 H =>
   W.indexAddr 1 v50 i_7 H fun v51 H =>
   W.get v51 H fun v52 H =>
   W.fieldAddr 1 v2 H fun v53 H =>
   W.get v53 H fun v54 H =>
   W.indexAddr 1 v54 i_7 H fun v55 H =>
   W.get v55 H fun v56 H =>
   W.bin .add v52 v56 H fun v57 H =>
   W.indexAddr 1 v48 i_7 H fun v58 H =>
   W.put v58 v57 H fun _ H =>
   W.fieldAddr 0 v42 H fun v59 H =>
   W.get v59 H fun v60 H =>
   W.indexAddr 1 v60 i_7 H fun v61 H =>
   W.get v61 H fun v62 H =>
   W.loop (S := St [9]) (fun I2 s H => f17.l2 Q v2 v62 i_7 I1 I2 s.1 H) ((.int .i64 0), ()) H)
  (fun H => W.getN 4 v42 H fun v79 H =>
   W.call Try.prog (.func (.func 46) #[] #[]) #[v79] H fun v80 H =>
   W.un .not v80 H fun v81 H =>
   W.cond v81 H
   (fun H => W.build [(.slice none 0 0), (.slice none 0 0), (.slice none 0 0), (.slice none 0 0)] [] H fun v82 H =>
    W.putN 4 v3 v82 H fun _ H =>
    W.getN 4 v3 H fun v83 H => Q (.tuple #[v83, (.int .i64 3)]) H)
   (fun H => W.getN 4 v42 H fun v84 H =>
    W.putN 4 v3 v84 H fun _ H =>
    W.getN 4 v3 H fun v85 H => Q (.tuple #[v85, (.int .i64 0)]) H))
def f17.w (Q : Post) (p_0 : Value) (q_1 : Value) (H : Heap) : Prop :=
  W.box p_0 41 H fun v1 H =>
  W.box q_1 41 H fun v2 H =>
  W.new [(.slice none 0 0), (.slice none 0 0), (.slice none 0 0), (.slice none 0 0)] 41 H fun v3 H =>
  W.getN 4 v1 H fun v4 H =>
  W.call Try.prog (.func (.func 46) #[] #[]) #[v4] H fun v5 H =>
  W.un .not v5 H fun v6 H =>
  W.guarded v6 false (fun H k => W.getN 4 v2 H k) H fun v7 H =>
  W.guarded v6 false (fun H k => W.call Try.prog (.func (.func 46) #[] #[]) #[v7] H k) H fun v8 H =>
  W.guarded v6 false (fun H k => W.un .not v8 H k) H fun v9 H =>
  W.pick v6 (.bool true) v9 H fun v10 H =>
  W.cond v10 H
  (fun H => W.build [(.slice none 0 0), (.slice none 0 0), (.slice none 0 0), (.slice none 0 0)] [] H fun v11 H =>
   W.putN 4 v3 v11 H fun _ H =>
   W.getN 4 v3 H fun v12 H => Q (.tuple #[v12, (.int .i64 1)]) H)
  (fun H => W.fieldAddr 1 v1 H fun v13 H =>
   W.get v13 H fun v14 H =>
   W.len v14 H fun v15 H =>
   W.fieldAddr 1 v2 H fun v16 H =>
   W.get v16 H fun v17 H =>
   W.len v17 H fun v18 H =>
   W.bin .neq v15 v18 H fun v19 H =>
   W.cond v19 H
   (fun H => W.build [(.slice none 0 0), (.slice none 0 0), (.slice none 0 0), (.slice none 0 0)] [] H fun v20 H =>
    W.putN 4 v3 v20 H fun _ H =>
    W.getN 4 v3 H fun v21 H => Q (.tuple #[v21, (.int .i64 2)]) H)
   (fun H => W.fieldAddr 0 v1 H fun v22 H =>
    W.get v22 H fun v23 H =>
    W.callQ Try.prog (.func (.func 47) #[] #[]) #[v23] H fun v24 H =>
    W.fieldAddr 1 v1 H fun v25 H =>
    W.get v25 H fun v26 H =>
    W.callQ Try.prog (.func (.func 48) #[] #[]) #[v26] H fun v27 H =>
    W.fieldAddr 2 v1 H fun v28 H =>
    W.get v28 H fun v29 H =>
    W.callQ Try.prog (.func (.func 47) #[] #[]) #[v29] H fun v30 H =>
    W.fieldAddr 2 v2 H fun v31 H =>
    W.get v31 H fun v32 H =>
    W.callQ Try.prog (.func (.func 47) #[] #[]) #[v32] H fun v33 H =>
    (fun Hk12 => W.append 1 26 v30 v33 H fun v34 H =>
    W.fieldAddr 3 v1 H fun v35 H =>
    W.get v35 H fun v36 H =>
    W.chk (fun H k => W.get v35 H k) v36 Hk12 (W.callQ Try.prog (.func (.func 48) #[] #[]) #[v36] H fun v37 H =>
    W.fieldAddr 3 v2 H fun v38 H =>
    W.get v38 H fun v39 H =>
    W.chk (fun H k => W.get v38 H k) v39 Hk12 (W.append 1 2 v37 v39 H fun v40 H =>
    W.build [(.slice none 0 0), (.slice none 0 0), (.slice none 0 0), (.slice none 0 0)] [(0, 1, v24), (1, 1, v27), (2, 1, v34), (3, 1, v40)] H fun v41 H =>
    W.new [(.slice none 0 0), (.slice none 0 0), (.slice none 0 0), (.slice none 0 0)] 41 H fun v42 H =>
    W.putN 4 v42 v41 H fun _ H =>
    W.loop (S := St [7]) (fun I1 s H => f17.l1 Q v2 v42 v3 I1 s.1 H) ((.int .i64 0), ()) H))) H))
theorem f17.enter {Q : Post} {p_0 : Value} {q_1 : Value} {H : Heap} (h : f17.w Q p_0 q_1 H) : Runs Try.prog 17 #[p_0, q_1] H Q :=
  fn_enter (ann := [(7, [7]), (12, [9])]) (by kernel_rfl) Try.func17 rfl (by kernel_rfl) h (by kernel_rfl)


theorem fn17 {H0 : Heap} {Q : Post} {cs ds : List Value} {p q : Prg} (hr : Has RPrg H0 cs p) (hr' : Has RPrg H0 ds q) (hw : wPrg p ≤ 1048576) (hw' : wPrg q ≤ 1048576)
    (hQ : ∀ H' cs', Fresh RPrg H0 cs' (apRes p q).1 H' → Q (.tuple #[.agg cs'.toArray, .int .i64 (apRes p q).2]) H') : Runs Try.prog 17 #[.agg cs.toArray, .agg ds.toArray] H0 Q := by
  obtain ⟨u1, u2, u3, u4, rfl, r1, r2, r3, r4⟩ := hasPrg hr
  obtain ⟨v1, v2, v3, v4, rfl, s1, s2, s3, s4⟩ := hasPrg hr'
  refine f17.enter ?_
  unfold f17.w
  have h := ((((((((((Loc.start H0).lent r1).lent r2).lent r3).lent r4).lent hr).lent s1).lent s2).lent s3).lent s4).lent hr'
  refine Wl.box h fun H b h => Wl.box h fun H bq h => Wl.new h fun H b2 h => Wl.getA h rfl (Wi.call (fn46 (h.rd (cs := [u1, u2, u3, u4])) hw fun H t l ht => ?_))
  have h := h.to l
  have zero : ∀ (H : Heap) (c : Int), Ab.Loc H0 _ H → apRes p q = (zPrg, c) → W.build [.slice none 0 0, .slice none 0 0, .slice none 0 0, .slice none 0 0] [] H fun x H => W.putN 4 (pt b2 0) x H fun _ H => W.getN 4 (pt b2 0) H fun y H => Q (.tuple #[y, .int .i64 c]) H := fun H c h' e =>
    Wi.build (cells := zCells4) rfl (Wl.putA (b := b2) (L := [.box b2 zCells4, .box bq [v1, v2, v3, v4], .box b [u1, u2, u3, u4], .lent RPrg [v1, v2, v3, v4] q, .lent RS [v4] q.2.2.2, .lent RSS [v3] q.2.2.1, .lent RS [v2] q.2.1, .lent RSS [v1] q.1, .lent RPrg [u1, u2, u3, u4] p, .lent RS [u4] p.2.2.2, .lent RSS [u3] p.2.2.1, .lent RS [u2] p.2.1, .lent RSS [u1] p.1]) h' rfl rfl rfl fun H h => Wl.getA h rfl (by
      have := hQ H zCells4
      rw [e] at this
      exact this (fresh_nil4 h.le)))
  cases t with
  | false =>
    have hp : ¬ (IsPrg p ∧ IsPrg q) := fun g => Bool.noConfusion (ht.2 g.1)
    simp only [gw]
    exact zero _ _ h (by simp only [apRes, if_neg hp])
  | true =>
  have hp := ht.1 rfl
  simp only [g9, g4]
  refine Wl.getA h rfl (Wi.call (fn46 (h.rd (cs := [v1, v2, v3, v4])) hw' fun H t l ht' => ?_))
  have h := h.to l
  cases t with
  | false =>
    have hp : ¬ (IsPrg p ∧ IsPrg q) := fun g => Bool.noConfusion (ht'.2 g.2)
    simp only [gw]
    exact zero _ _ h (by simp only [apRes, if_neg hp])
  | true =>
  have hq := ht'.1 rfl
  simp only [gw]
  refine Wi.fieldAddr0 (Wl.get h rfl (Wl.len h (Wi.fieldAddr0 (Wl.get h rfl (Wl.len h (Wi.neqC (fun hne => ?_) fun heq => ?_))))))
  · have hn : ¬ p.2.1.length = q.2.1.length := by omega
    simp only [gw]
    exact zero _ _ h (by simp only [apRes, if_pos (And.intro hp hq), if_neg hn])
  have hl : p.2.1.length = q.2.1.length := by omega
  simp only [apRes, if_pos (And.intro hp hq), if_pos hl] at hQ
  clear zero
  simp only [gw]
  have n1 := hp.n1; have nm := hp.nm; have dl := hp.dl; have al := hp.al
  have n1' := hq.n1; have nm' := hq.nm; have dl' := hq.dl; have al' := hq.al
  refine Wi.fieldAddr0 (Wl.get h rfl (Wi.callQ (fn47 (h.rd (cs := [u1])) (okDD hp) fun H w1 f1 => ⟨f1.le, ?_⟩)))
  have h := h.add f1.fresh
  refine Wi.fieldAddr0 (Wl.get h rfl (Wi.callQ (fn48 (h.rd (cs := [u2])) (by omega) fun H w2 f2 => ⟨f2.le, ?_⟩)))
  have h := h.add f2.fresh
  refine Wi.fieldAddr0 (Wl.get h rfl (Wi.callQ (fn47 (h.rd (cs := [u3])) (okAA hp) fun H w3 f3 => ⟨f3.le, ?_⟩)))
  have h := h.addG f3
  refine Wi.fieldAddr0 (Wl.get h rfl (Wi.callQ (fn47 (h.rd (cs := [v3])) (okAA hq) fun H w3' f3' => ⟨f3'.le, ?_⟩)))
  have h := h.add f3'.fresh
  have hk := h
  refine Wl.appendO (r := RS) (v := w3) (y := w3') rfl h (by omega) (by omega) fun H w3 h => ?_
  refine Wi.fieldAddr0 (Wl.get h rfl (Wi.chk (Wl.get hk rfl ⟨rfl, rfl⟩) (Wi.callQ (fn48 (h.rd (cs := [u4])) (by omega) fun H w4 f4 => ⟨f4.le, ?_⟩))))
  have h := h.addG f4
  refine Wi.fieldAddr0 (Wl.get h rfl (Wi.chk (Wl.get hk rfl ⟨rfl, rfl⟩) (Wl.appendH (i := 0) rfl h rfl (h.rd (cs := [v4])) (by omega) fun H w4 h => ?_)))
  have h : Ab.Loc H0 [.grow Rd.int 2 w4 (p.2.2.2 ++ q.2.2.2), .emp, .grow RS 26 w3 (p.2.2.1 ++ q.2.2.1), .data RS [w2] p.2.1, .data RSS [w1] p.1, .box b2 zCells4, .box bq [v1, v2, v3, v4], .box b [u1, u2, u3, u4], .lent RPrg [v1, v2, v3, v4] q, .lent RS [v4] q.2.2.2, .lent RSS [v3] q.2.2.1, .lent RS [v2] q.2.1, .lent RSS [v1] q.1] H := h.first 13
  have c1 := f1.fresh.read.cell1; have c2 := f2.fresh.read.cell1
  have e3 := h.rd (cs := [w3]); have e4 := h.rd (cs := [w4])
  have c3 := e3.cell1; have c4 := e4.cell1
  have kc : [w1, w2, w3, w4].all isCell = true := by simp only [List.all_cons, List.all_nil, Bool.and_true, c1, c2, c3, c4]
  refine Wi.build (cells := [w1, w2, w3, w4]) (by simp [fillA, f1.fresh.read.one, f2.fresh.read.one, e3.one, e4.one]) (Wl.new h fun H b3 h => Wl.putA h rfl rfl kc fun H h => ?_)
  obtain ⟨us, hus, h⟩ := h.heads (i := 5) rfl rfl
  refine W.for_rule q.2.1.length (fun i s H => s = (.int .i64 (i : Nat), ()) ∧ Ab.Loc H0 [.box b3 [w1, w2, w3, w4], .grow Rd.int 2 w4 (p.2.2.2 ++ q.2.2.2), .emp, .grow RS 26 w3 (p.2.2.1 ++ q.2.2.1), .data RS [w2] (mapTo (fun i x => x + q.2.1.getD i 0) p.2.1 i), .rows RS w1 us (mapTo (fun i r => addL r (q.1.getD i [])) p.1 i), .box b2 zCells4, .box bq [v1, v2, v3, v4], .box b [u1, u2, u3, u4], .lent RPrg [v1, v2, v3, v4] q, .lent RS [v4] q.2.2.2, .lent RSS [v3] q.2.2.1, .lent RS [v2] q.2.1, .lent RSS [v1] q.1] H)
    ⟨rfl, by rw [mapTo_zero, mapTo_zero]; exact h⟩ ?_
  rintro i s H J hi ⟨rfl, h⟩ hJ
  have hl2 := mapTo_length (fun i x => x + q.2.1.getD i 0) p.2.1 i
  have hl3 := mapTo_length (fun i r => addL r (q.1.getD i [])) p.1 i
  refine Wi.fieldAddr0 (Wl.get h rfl (Wl.len h (Wi.lssC (fun hlt => Wi.tru ?_) fun hge => Wi.fls ?_)))
  · have hiq : i < q.2.1.length := by omega
    have hix : i < p.2.1.length := by omega
    have hid : i < p.1.length := by omega
    have hid' : i < q.1.length := by omega
    have hb1 := hp.c _ (List.getElem_mem hix)
    have hb2 := hq.c _ (List.getElem_mem hiq)
    have hs : I64 (p.2.1[i] + q.2.1[i]) := by unfold I64; omega
    refine Wi.fieldAddr0 (Wl.get h rfl (Wi.fieldAddr0 (Wl.get h rfl (Wl.atInt h (by omega) fun _ => Wi.fieldAddr0 (Wl.get h rfl (Wl.atInt h hiq fun _ => ?_))))))
    rw [mapTo_get hix]
    refine Wi.add hs (Wl.setInt h (by omega) hs fun H h => Wi.fieldAddr0 (Wl.get h rfl ?_))
    have eq2 : q.2.1.getD i 0 = q.2.1[i] := by rw [List.getD_eq_getElem?_getD, List.getElem?_eq_getElem hiq]; rfl
    have es : (mapTo (fun i x => x + q.2.1.getD i 0) p.2.1 i).set i (p.2.1[i] + q.2.1[i]) = mapTo (fun i x => x + q.2.1.getD i 0) p.2.1 (i + 1) := by
      rw [← mapTo_succ hix, eq2]
    rw [es] at h
    have hget := mapTo_get (f := fun i r => addL r (q.1.getD i [])) hid
    refine Wl.atRow rfl h (by omega) fun w hw _ => ?_
    have hd := hp.d _ (List.getElem_mem hid)
    have hd' := hq.d _ (List.getElem_mem hid')
    have eq1 : q.1.getD i [] = q.1[i] := by rw [List.getD_eq_getElem?_getD, List.getElem?_eq_getElem hid']; rfl
    refine W.for_rule q.2.1.length (fun j s H => s = (.int .i64 (j : Nat), ()) ∧ Ab.Loc H0 [.box b3 [w1, w2, w3, w4], .grow Rd.int 2 w4 (p.2.2.2 ++ q.2.2.2), .emp, .grow RS 26 w3 (p.2.2.1 ++ q.2.2.1), .data RS [w2] (mapTo (fun i x => x + q.2.1.getD i 0) p.2.1 (i + 1)), .rows RS w1 us ((mapTo (fun i r => addL r (q.1.getD i [])) p.1 i).set i (mapTo (fun j x => x + q.1[i].getD j 0) p.1[i] j)), .box b2 zCells4, .box bq [v1, v2, v3, v4], .box b [u1, u2, u3, u4], .lent RPrg [v1, v2, v3, v4] q, .lent RS [v4] q.2.2.2, .lent RSS [v3] q.2.2.1, .lent RS [v2] q.2.1, .lent RSS [v1] q.1] H)
      ⟨rfl, by rw [mapTo_zero, ← hget, List.set_getElem_self]; exact h⟩ ?_
    rintro j s H J2 hj ⟨rfl, h⟩ hJ2
    have ha : i < ((mapTo (fun i r => addL r (q.1.getD i [])) p.1 i).set i (mapTo (fun j x => x + q.1[i].getD j 0) p.1[i] j)).length := by rw [List.length_set]; omega
    have hg2 : ((mapTo (fun i r => addL r (q.1.getD i [])) p.1 i).set i (mapTo (fun j x => x + q.1[i].getD j 0) p.1[i] j))[i] = mapTo (fun j x => x + q.1[i].getD j 0) p.1[i] j := by simp
    have hl4 := mapTo_length (fun j x => x + q.1[i].getD j 0) p.1[i] j
    have hwr := h.row rfl (j := 5) rfl hw ha
    rw [hg2] at hwr
    refine Wi.fieldAddr0 (Wl.get h rfl (Wl.len h (Wi.lssC (fun hlt2 => Wi.tru ?_) fun hge2 => Wi.fls ?_)))
    · have hjx : j < p.1[i].length := by omega
      have hjq : j < q.1[i].length := by omega
      have hx1 := hd.2 _ (List.getElem_mem hjx)
      have hx2 := hd'.2 _ (List.getElem_mem hjq)
      have hs2 : I64 (p.1[i][j] + q.1[i][j]) := by unfold I64; omega
      refine Wl.atIntH hwr (by omega) fun _ => Wi.fieldAddr0 (Wl.get h rfl (Wl.at1 rfl h hid' fun x hx => Wl.atIntH hx hjq fun _ => ?_))
      rw [mapTo_get hjx]
      refine Wi.add hs2 (Wl.rowSet h (j := 5) rfl hw ha (by rw [hg2]; omega) hs2 fun H h => Wi.add (by unfold I64; omega) (hJ2 _ _ (by omega) ⟨rfl, ?_⟩))
      have es2 : (mapTo (fun j x => x + q.1[i].getD j 0) p.1[i] j).set j (p.1[i][j] + q.1[i][j]) = mapTo (fun j x => x + q.1[i].getD j 0) p.1[i] (j + 1) := by
        rw [← mapTo_succ hjx]
        congr 2
        rw [List.getD_eq_getElem?_getD, List.getElem?_eq_getElem hjq]; rfl
      rw [hg2, List.set_set, es2] at h
      exact h
    · have : j = p.1[i].length := by omega
      subst this
      refine Wi.add (by unfold I64; omega) (hJ _ _ hiq ⟨rfl, ?_⟩)
      rw [mapTo_all] at h
      have e : p.1[i].mapIdx (fun j x => x + q.1[i].getD j 0) = addL p.1[i] (q.1.getD i []) := by rw [eq1]; rfl
      rw [e, mapTo_succ (f := fun i r => addL r (q.1.getD i [])) hid] at h
      exact h
  · have : i = p.2.1.length := by omega
    subst this
    have e1 : mapTo (fun i r => addL r (q.1.getD i [])) p.1 p.2.1.length = (addPrg p q).1 := by
      rw [← dl, mapTo_all]
      rfl
    have e2 : mapTo (fun i x => x + q.2.1.getD i 0) p.2.1 p.2.1.length = (addPrg p q).2.1 := by
      rw [mapTo_all]
      rfl
    rw [e1, e2] at h
    have h := ((h.unrows (i := 5) rfl).asData (i := 1) rfl).asData (i := 3) rfl
    have f := Loc.ret4 (p := addPrg p q) h (i1 := 5) (i2 := 4) (i3 := 3) (i4 := 1) rfl rfl rfl rfl (by decide)
    simp only [List.cons_append, List.nil_append] at f
    refine Wl.getA h rfl (Wi.call (fn46 f.read (add_w hp hq) fun H t l ht => ?_))
    have h := h.to l
    cases t with
    | false =>
      have hs : ¬ IsPrg (addPrg p q) := fun g => Bool.noConfusion (ht.2 g)
      simp only [g7, g10]
      refine Wi.build (cells := zCells4) rfl (Wl.putA h rfl rfl rfl fun H h => Wl.getA h rfl ?_)
      have := hQ H zCells4
      simp only [limRes, if_neg hs] at this
      exact this (fresh_nil4 h.le)
    | true =>
      have hs := ht.1 rfl
      simp only [g8, g9]
      refine Wl.getA h rfl (Wl.putA (vs := [w1, w2, w3, w4]) h rfl rfl kc fun H h => Wl.getA h rfl ?_)
      have := hQ H [w1, w2, w3, w4]
      simp only [limRes, if_pos hs] at this
      exact this (by
        have f := Loc.ret4 (p := addPrg p q) h (i1 := 5) (i2 := 4) (i3 := 3) (i4 := 1) rfl rfl rfl rfl (by decide)
        exact f)

end Go.Proofs.Ytioleipoomgmhaa
