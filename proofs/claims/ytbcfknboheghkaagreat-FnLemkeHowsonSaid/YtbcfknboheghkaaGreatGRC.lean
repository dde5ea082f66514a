/- A game's problem, the reference's; the contracts of GameProblem. No condition. -/
import Derived.Test.YtbcfknboheghkaaGreatGGM
import Derived.Test.YtbcfknboheghkaaGreatGEQ
import Derived.Test.YtbcfknboheghkaaGreatGLL
namespace Go.Proofs.YtbcfknboheghkaaGreat
open Go.Ab

/- loop.example/g01343/spec.l07Problem -/
def f58.j1 (Q : Post) (j_8 : Value) (I2 : St [8] → Heap → Prop) (H : Heap) : Prop :=
  W.bin .add j_8 (.int .i64 1) H fun v35 H =>
  I2 (v35, ()) H
def f58.j2 (Q : Post) (j_8 : Value) (I2 : St [8] → Heap → Prop) (H : Heap) : Prop :=
  f58.j1 Q j_8 I2 H
def f58.l2 (Q : Post) (v5 : Value) (v10 : Value) (i_6 : Value) (v1 : Value) (v18 : Value) (v14 : Value) (I1 : St [6] → Heap → Prop) (I2 : St [8] → Heap → Prop) (j_8 : Value) (H : Heap) : Prop :=
  W.bin .add v5 v10 H fun v19 H =>
  W.bin .lss j_8 v19 H fun v20 H =>
  W.cond v20 H
  (fun H => W.bin .lss i_6 v5 H fun v21 H =>
   W.guarded v21 true (fun H k => k j_8 H) H fun v22 H =>
   W.guarded v21 true (fun H k => k v5 H) H fun v23 H =>
   W.guarded v21 true (fun H k => W.bin .geq v22 v23 H k) H fun v24 H =>
   W.pick v21 v24 (.bool false) H fun v25 H =>
   W.cond v25 H
   (fun H => W.fieldAddr 0 v1 H fun v26 H =>
    W.get v26 H fun v27 H =>
    W.indexAddr 1 v27 i_6 H fun v28 H =>
    W.get v28 H fun v29 H =>
    W.bin .sub j_8 v5 H fun v30 H =>
    W.indexAddr 1 v29 v30 H fun v31 H =>
    W.get v31 H fun v32 H =>
    W.un .neg v32 H fun v33 H =>
    W.indexAddr 1 v18 j_8 H fun v34 H =>
    W.put v34 v33 H fun _ H =>
    f58.j1 Q j_8 I2 H)
   (fun H => W.bin .geq i_6 v5 H fun v36 H =>
    W.guarded v36 true (fun H k => k j_8 H) H fun v37 H =>
    W.guarded v36 true (fun H k => k v5 H) H fun v38 H =>
    W.guarded v36 true (fun H k => W.bin .lss v37 v38 H k) H fun v39 H =>
    W.pick v36 v39 (.bool false) H fun v40 H =>
    W.cond v40 H
    (fun H => W.fieldAddr 1 v1 H fun v41 H =>
     W.get v41 H fun v42 H =>
     W.indexAddr 1 v42 j_8 H fun v43 H =>
     W.get v43 H fun v44 H =>
     W.bin .sub i_6 v5 H fun v45 H =>
     W.indexAddr 1 v44 v45 H fun v46 H =>
     W.get v46 H fun v47 H =>
     W.un .neg v47 H fun v48 H =>
     W.indexAddr 1 v18 j_8 H fun v49 H =>
     W.put v49 v48 H fun _ H =>
     f58.j2 Q j_8 I2 H)
    (fun H => f58.j2 Q j_8 I2 H)))
  (fun H => W.fieldAddr 0 v14 H fun v50 H =>
   W.get v50 H fun v51 H =>
   W.lit 1 [(.slice none 0 0)] 35 [(0, 1, v18)] H fun v52 H =>
   W.append 1 35 v51 v52 H fun v53 H =>
   W.fieldAddr 0 v14 H fun v54 H =>
   W.put v54 v53 H fun _ H =>
   W.fieldAddr 1 v14 H fun v55 H =>
   W.get v55 H fun v56 H =>
   W.lit 1 [(.int .i64 0)] 2 [(0, 1, (.int .i64 1))] H fun v57 H =>
   W.append 1 2 v56 v57 H fun v58 H =>
   W.fieldAddr 1 v14 H fun v59 H =>
   W.put v59 v58 H fun _ H =>
   W.bin .add i_6 (.int .i64 1) H fun v60 H =>
   I1 (v60, ()) H)
def f58.l1 (Q : Post) (v5 : Value) (v10 : Value) (v1 : Value) (v14 : Value) (v2 : Value) (I1 : St [6] → Heap → Prop) (i_6 : Value) (H : Heap) : Prop :=
  W.bin .add v5 v10 H fun v15 H =>
  W.bin .lss i_6 v15 H fun v16 H =>
  W.cond v16 H
  (fun H => W.bin .add v5 v10 H fun v17 H =>
   W.make [(.int .i64 0)] 2 v17 v17 H fun v18 H =>
   W.loop (S := St [8]) (fun I2 s H => f58.l2 Q v5 v10 i_6 v1 v18 v14 I1 I2 s.1 H) ((.int .i64 0), ()) H)
  (fun H => W.getN 2 v14 H fun v61 H =>
   W.putN 2 v2 v61 H fun _ H =>
   W.getN 2 v2 H fun v62 H => Q v62 H)
def f58.w (Q : Post) (g_0 : Value) (H : Heap) : Prop :=
  W.box g_0 26 H fun v1 H =>
  W.new [(.slice none 0 0), (.slice none 0 0)] 43 H fun v2 H =>
  W.fieldAddr 0 v1 H fun v3 H =>
  W.get v3 H fun v4 H =>
  W.len v4 H fun v5 H =>
  W.fieldAddr 0 v1 H fun v6 H =>
  W.get v6 H fun v7 H =>
  W.indexAddr 1 v7 (.int .i64 0) H fun v8 H =>
  W.get v8 H fun v9 H =>
  W.len v9 H fun v10 H =>
  W.lit 0 [(.slice none 0 0)] 35 [] H fun v11 H =>
  W.lit 0 [(.int .i64 0)] 2 [] H fun v12 H =>
  W.build [(.slice none 0 0), (.slice none 0 0)] [(0, 1, v11), (1, 1, v12)] H fun v13 H =>
  W.new [(.slice none 0 0), (.slice none 0 0)] 43 H fun v14 H =>
  W.putN 2 v14 v13 H fun _ H =>
  W.loop (S := St [6]) (fun I1 s H => f58.l1 Q v5 v10 v1 v14 v2 I1 s.1 H) ((.int .i64 0), ()) H
theorem f58.enter {Q : Post} {g_0 : Value} {H : Heap} (h : f58.w Q g_0 H) : Runs Tryz.prog 58 #[g_0] H Q :=
  fn_enter (ann := [(4, [6]), (8, [8])]) (by kernel_rfl) Tryz.func58 rfl (by kernel_rfl) h (by kernel_rfl)

/- loop.example/g01343/impl.GameProblem -/
def f14.w (Q : Post) (g_0 : Value) (H : Heap) : Prop :=
  W.box g_0 26 H fun v1 H =>
  W.new [(.slice none 0 0), (.slice none 0 0)] 43 H fun v2 H =>
  W.getN 2 v1 H fun v3 H =>
  W.call Tryz.prog (.func (.func 28) #[] #[]) #[v3] H fun v4 H =>
  W.un .not v4 H fun v5 H =>
  W.cond v5 H
  (fun H => W.build [(.slice none 0 0), (.slice none 0 0)] [] H fun v6 H =>
   W.putN 2 v2 v6 H fun _ H =>
   W.getN 2 v2 H fun v7 H => Q (.tuple #[v7, (.int .i64 1)]) H)
  (fun H => W.getN 2 v1 H fun v8 H =>
   W.call Tryz.prog (.func (.func 51) #[] #[]) #[v8] H fun v9 H =>
   W.putN 2 v2 v9 H fun _ H =>
   W.getN 2 v2 H fun v10 H => Q (.tuple #[v10, (.int .i64 0)]) H)
theorem f14.enter {Q : Post} {g_0 : Value} {H : Heap} (h : f14.w Q g_0 H) : Runs Tryz.prog 14 #[g_0] H Q :=
  fn_enter (ann := []) (by kernel_rfl) Tryz.func14 rfl (by kernel_rfl) h (by kernel_rfl)

/- loop.example/g01343/spec.GameProblem -/
def f15.w (Q : Post) (g_0 : Value) (H : Heap) : Prop :=
  W.box g_0 26 H fun v1 H =>
  W.new [(.slice none 0 0), (.slice none 0 0)] 43 H fun v2 H =>
  W.getN 2 v1 H fun v3 H =>
  W.call Tryz.prog (.func (.func 57) #[] #[]) #[v3] H fun v4 H =>
  W.un .not v4 H fun v5 H =>
  W.cond v5 H
  (fun H => W.build [(.slice none 0 0), (.slice none 0 0)] [] H fun v6 H =>
   W.putN 2 v2 v6 H fun _ H =>
   W.getN 2 v2 H fun v7 H => Q (.tuple #[v7, (.int .i64 1)]) H)
  (fun H => W.getN 2 v1 H fun v8 H =>
   W.call Tryz.prog (.func (.func 58) #[] #[]) #[v8] H fun v9 H =>
   W.putN 2 v2 v9 H fun _ H =>
   W.getN 2 v2 H fun v10 H => Q (.tuple #[v10, (.int .i64 0)]) H)
theorem f15.enter {Q : Post} {g_0 : Value} {H : Heap} (h : f15.w Q g_0 H) : Runs Tryz.prog 15 #[g_0] H Q :=
  fn_enter (ann := []) (by kernel_rfl) Tryz.func15 rfl (by kernel_rfl) h (by kernel_rfl)


theorem fn58 {H0 : Heap} {Q : Post} {cs : List Value} {g : Game} (hr : Has RGame H0 cs g) (hg : IsGm g) (hQ : ∀ H' w1 w2, Fresh RProblem H0 [w1, w2] (gmP g) H' → Q (.agg #[w1, w2]) H') : Runs Tryz.prog 58 #[.agg cs.toArray] H0 Q := by
  obtain ⟨u1, u2, rfl, r1, r2⟩ := hasGame hr
  have k1 := hg.k1; have k4 := hg.k4; have l1 := hg.l1; have l4 := hg.l4; have kl := hg.kl; have bl := hg.bl
  have hk0 : 0 < g.1.length := by omega
  have hlw := lw_at hk0
  have h := ((Loc.start H0).lent r1).lent r2
  refine f58.enter ?_
  unfold f58.w
  refine Wl.box h fun H b h => Wl.new h fun H b2 h => Wi.fieldAddr0 (Wl.get h rfl (Wl.len h (Wi.fieldAddr0 (Wl.get h rfl (Wl.at1 (i := 0) rfl h hk0 fun w hw => Wl.lenH hw ?_)))))
  rw [← hlw]
  have hkl : ((g.1.length : Nat) : Int) + ((lw g : Nat) : Int) = ((nG g : Nat) : Int) := by simp [nG]
  have hn5 : nG g ≤ 5 := kl
  have hnn : nG g = g.1.length + lw g := rfl
  refine Wl.lit0 (ty := 35) RS rfl h fun H m h => Wl.lit0 (ty := 2) Rd.int rfl h fun H q h => ?_
  have km := (h.rd (cs := [m]))
  have kq := (h.rd (cs := [q]))
  have kall : ∀ (m q : Value) (H : Heap) (xs : List (List Int)) (ys : List Int), Has RSS H [m] xs → Has RS H [q] ys → [m, q].all isCell = true := fun m q H xs ys h1 h2 => by
    have k1 := h1.cell
    have k3 := h2.cell
    simp only [List.all_cons, List.all_nil, Bool.and_true] at k1 k3 ⊢
    rw [k1, k3]
    rfl
  refine Wi.build (cells := [m, q]) (by simp [fillA, km.one, kq.one]) (Wl.new h fun H b3 h => Wl.putA h rfl rfl (kall _ _ _ _ _ km kq) fun H h => ?_)
  refine W.for_rule (nG g) (fun i st H => ∃ m q, st = (.int .i64 (i : Nat), ()) ∧ Ab.Loc H0 [.box b3 [m, q], .grow Rd.int 2 q (List.replicate i 1), .grow RS 35 m ((List.range i).map fun r => (List.range (nG g)).map (gmE g r)), .box b2 [.slice none 0 0, .slice none 0 0], .box b [u1, u2], .lent RSS [u2] g.2, .lent RSS [u1] g.1] H) ⟨_, _, rfl, h⟩ ?_
  rintro i st H J hi ⟨m, q, rfl, h⟩ hJ
  refine Wi.add (by unfold I64; omega) ?_
  rw [hkl]
  refine Wi.lssC (fun hlt => Wi.tru ?_) fun hge => Wi.fls ?_
  · have hin : i < nG g := by omega
    refine Wi.add (by unfold I64; omega) ?_
    rw [hkl]
    refine Wl.make (r := Rd.int) (z := 0) (m := nG g) (fun _ => ⟨rfl, rfl, by unfold I64; omega⟩) h (by omega) (by decide) fun H u h => ?_
    have e0 : List.replicate (nG g) (0 : Int) = (List.range (nG g)).map fun c => if c < 0 then gmE g i c else 0 := by
      apply List.ext_getElem <;> simp
    rw [e0] at h
    refine W.for_rule (nG g) (fun j st H => st = (.int .i64 (j : Nat), ()) ∧ Ab.Loc H0 [.grow Rd.int 2 u ((List.range (nG g)).map fun c => if c < j then gmE g i c else 0), .box b3 [m, q], .grow Rd.int 2 q (List.replicate i 1), .grow RS 35 m ((List.range i).map fun r => (List.range (nG g)).map (gmE g r)), .box b2 [.slice none 0 0, .slice none 0 0], .box b [u1, u2], .lent RSS [u2] g.2, .lent RSS [u1] g.1] H) ⟨rfl, h⟩ ?_
    rintro j st H J2 hj ⟨rfl, h⟩ hJ2
    refine Wi.add (by unfold I64; omega) ?_
    rw [hkl]
    refine Wi.lssC (fun hlt2 => Wi.tru ?_) fun hge2 => Wi.fls ?_
    · have hjn : j < nG g := by omega
      have hI : I64 ((j : Int) + 1) := by unfold I64; omega
      have hul : j < ((List.range (nG g)).map fun c => if c < j then gmE g i c else 0).length := by simpa using hjn
      have set : ∀ y, gmE g i j = y → ((List.range (nG g)).map fun c => if c < j then gmE g i c else 0).set j y = (List.range (nG g)).map fun c => if c < j + 1 then gmE g i c else 0 := fun y hy =>
        range_set2 (by simp [hy]) fun k _ hk => by
          by_cases q : k < j
          · simp [q, show k < j + 1 by omega]
          · simp [q, show ¬ k < j + 1 by omega]
      have same : gmE g i j = 0 → ((List.range (nG g)).map fun c => if c < j then gmE g i c else 0) = (List.range (nG g)).map fun c => if c < j + 1 then gmE g i c else 0 := fun hy => List.map_congr_left fun k _ => by
        by_cases q : k < j
        · simp [q, show k < j + 1 by omega]
        · by_cases q2 : k = j
          · subst q2; simp [hy]
          · simp [q, show ¬ k < j + 1 by omega]
      refine Wi.lssC (fun hik => ?_) fun hik => ?_
      · have hik : i < g.1.length := by omega
        have ha := hg.a _ (List.getElem_mem hik)
        simp only [gw]
        refine Wi.geqC (fun hjk => ?_) fun hjk => ?_
        · simp only [gw]
          have hja : j - g.1.length < g.1[i].length := by omega
          have va := ha.2 _ (List.getElem_mem hja)
          refine Wi.fieldAddr0 (Wl.get h rfl (Wl.at1 rfl h hik fun wa hwa => Wi.sub (by unfold I64; omega) ?_))
          rw [show ((j : Nat) : Int) - ((g.1.length : Nat) : Int) = ((j - g.1.length : Nat) : Int) by omega]
          refine Wl.atIntH hwa hja fun _ => Wi.neg (by unfold I64; omega) (Wl.setG h hul (by unfold I64; omega) fun H h => ?_)
          unfold f58.j1
          refine Wi.add hI (hJ2 _ _ hjn ⟨rfl, ?_⟩)
          rw [set _ (by unfold gmE; rw [if_pos ⟨hik, by omega⟩, mAt_at hik hja])] at h
          exact h
        · simp only [gw]
          refine Wi.geqC (fun g2 => by omega) fun _ => ?_
          simp only [gw]
          unfold f58.j2 f58.j1
          refine Wi.add hI (hJ2 _ _ hjn ⟨rfl, ?_⟩)
          rw [same (by unfold gmE; rw [if_neg (by omega), if_neg (by omega)])] at h
          exact h
      · simp only [gw]
        refine Wi.geqC (fun hki => ?_) fun g2 => by omega
        simp only [gw]
        refine Wi.lssC (fun hjk => ?_) fun hjk => ?_
        · simp only [gw]
          have hjb : j < g.2.length := by omega
          have hb := hg.b _ (List.getElem_mem hjb)
          have hib : i - g.1.length < g.2[j].length := by omega
          have vb := hb.2 _ (List.getElem_mem hib)
          refine Wi.fieldAddr (Wl.get h rfl (Wl.at1 rfl h hjb fun wa hwa => Wi.sub (by unfold I64; omega) ?_))
          rw [show ((i : Nat) : Int) - ((g.1.length : Nat) : Int) = ((i - g.1.length : Nat) : Int) by omega]
          refine Wl.atIntH hwa hib fun _ => Wi.neg (by unfold I64; omega) (Wl.setG h hul (by unfold I64; omega) fun H h => ?_)
          unfold f58.j2 f58.j1
          refine Wi.add hI (hJ2 _ _ hjn ⟨rfl, ?_⟩)
          rw [set _ (by unfold gmE; rw [if_neg (by omega), if_pos ⟨by omega, by omega⟩, mAt_at hjb hib])] at h
          exact h
        · simp only [gw]
          unfold f58.j2 f58.j1
          refine Wi.add hI (hJ2 _ _ hjn ⟨rfl, ?_⟩)
          rw [same (by unfold gmE; rw [if_neg (by omega), if_neg (by omega)])] at h
          exact h
    · have hjn : j = nG g := by omega
      have er : ((List.range (nG g)).map fun c => if c < j then gmE g i c else 0) = (List.range (nG g)).map (gmE g i) := List.map_congr_left fun k hk => by
        have hk : k < nG g := by simpa using hk
        rw [if_pos (by omega)]
      rw [er] at h
      refine Wi.fieldAddr0 (Wl.get h rfl (Wl.pushG h (by simp; omega) fun H m' h => Wi.fieldAddr0 (Wl.put h (h.rd (cs := [m'])).cell1 (by simp) fun H h => ?_)))
      refine Wi.fieldAddr (Wl.get h rfl (Wl.pushP (r := Rd.int) (x := 1) rfl rfl rfl (fun _ => ⟨rfl, rfl, by unfold I64; omega⟩) h (i := 1) (by simp; omega) fun H q' h => ?_))
      simp only [List.set_cons_succ, List.set_cons_zero] at h
      refine Wi.fieldAddr (Wl.put h (h.rd (cs := [q'])).cell1 (by simp) fun H h => Wi.add (by unfold I64; omega) (hJ _ _ hin ⟨m', q', rfl, ?_⟩))
      rw [← List.replicate_succ'] at h
      have ep : (List.range i).map (fun r => (List.range (nG g)).map (gmE g r)) ++ [(List.range (nG g)).map (gmE g i)] = (List.range (i + 1)).map fun r => (List.range (nG g)).map (gmE g r) := by
        rw [List.range_succ, List.map_append]
        rfl
      rw [ep] at h
      exact h
  · have : i = nG g := by omega
    subst this
    have h := (h.asData (i := 1) rfl).asData (i := 2) rfl
    refine Wl.getA h rfl (Wl.putA h rfl rfl (kall _ _ _ _ _ (h.rd (cs := [m])) (h.rd (cs := [q]))) fun H h => Wl.getA h rfl (hQ _ _ _ ?_))
    exact h.ret2 (i := 2) (j := 1) rfl rfl (by omega)

theorem fn14 {H0 : Heap} {Q : Post} {cs : List Value} {g : Game} (hr : Has RGame H0 cs g) (hw : wGame g ≤ 1048576) (hQ : ∀ H' cs', Fresh RProblem H0 cs' (gmRes g).1 H' → Q (.tuple #[.agg cs'.toArray, .int .i64 (gmRes g).2]) H') :
    Runs Tryz.prog 14 #[.agg cs.toArray] H0 Q := by
  have hlen := hr.len
  have h := (Loc.start H0).lent hr
  refine f14.enter ?_
  unfold f14.w
  refine Wl.box h fun H b h => Wl.new h fun H b2 h => Wl.getA h hlen (Wi.call (fn28 (h.rd (cs := cs)) hw fun H t l ht => ?_))
  have h := h.to l
  cases t with
  | false =>
    simp only [gw]
    refine Wi.build (cells := [.slice none 0 0, .slice none 0 0]) rfl (Wl.putA h rfl rfl rfl fun H h => Wl.getA h rfl ?_)
    have e : gmRes g = (([], []), 1) := by unfold gmRes; rw [if_neg (fun g => Bool.noConfusion (ht.2 g))]
    have := hQ H [.slice none 0 0, .slice none 0 0]
    rw [e] at this
    exact this (fresh_nil2 h.le)
  | true =>
    have hg := ht.1 rfl
    simp only [gw]
    refine Wl.getA h hlen (Wi.call (fn51 (h.rd (cs := cs)) hg fun H w1 w2 f => ?_))
    have h := h.add f
    refine Wl.putA (vs := [w1, w2]) h rfl rfl (h.rd (cs := [w1, w2])).cell fun H h => Wl.getA h rfl ?_
    have e : gmRes g = (gmP g, 0) := by unfold gmRes; rw [if_pos hg]
    have := hQ H [w1, w2]
    rw [e] at this
    exact this (h.ret (i := 0) rfl)

theorem fn15 {H0 : Heap} {Q : Post} {cs : List Value} {g : Game} (hr : Has RGame H0 cs g) (hw : wGame g ≤ 1048576) (hQ : ∀ H' cs', Fresh RProblem H0 cs' (gmRes g).1 H' → Q (.tuple #[.agg cs'.toArray, .int .i64 (gmRes g).2]) H') :
    Runs Tryz.prog 15 #[.agg cs.toArray] H0 Q := by
  have hlen := hr.len
  have h := (Loc.start H0).lent hr
  refine f15.enter ?_
  unfold f15.w
  refine Wl.box h fun H b h => Wl.new h fun H b2 h => Wl.getA h hlen (Wi.call (fn57 (h.rd (cs := cs)) hw fun H t l ht => ?_))
  have h := h.to l
  cases t with
  | false =>
    simp only [gw]
    refine Wi.build (cells := [.slice none 0 0, .slice none 0 0]) rfl (Wl.putA h rfl rfl rfl fun H h => Wl.getA h rfl ?_)
    have e : gmRes g = (([], []), 1) := by unfold gmRes; rw [if_neg (fun g => Bool.noConfusion (ht.2 g))]
    have := hQ H [.slice none 0 0, .slice none 0 0]
    rw [e] at this
    exact this (fresh_nil2 h.le)
  | true =>
    have hg := ht.1 rfl
    simp only [gw]
    refine Wl.getA h hlen (Wi.call (fn58 (h.rd (cs := cs)) hg fun H w1 w2 f => ?_))
    have h := h.add f
    refine Wl.putA (vs := [w1, w2]) h rfl rfl (h.rd (cs := [w1, w2])).cell fun H h => Wl.getA h rfl ?_
    have e : gmRes g = (gmP g, 0) := by unfold gmRes; rw [if_pos hg]
    have := hQ H [w1, w2]
    rw [e] at this
    exact this (h.ret (i := 0) rfl)

end Go.Proofs.YtbcfknboheghkaaGreat
/-! The contract of the reference's RemainingChoices. No condition. -/
namespace Go.Proofs.YtbcfknboheghkaaGreat
open Go.Ab

/- loop.example/g01343/spec.l07Worse -/
def f78.l3 (Q : Post) (places_2 : Value) (table_0 : Value) (list_1 : Value) (i_7 : Value) (k_8 : Value) (I2 : St [8] → Heap → Prop) (I3 : St [9, 10] → Heap → Prop) (less_9 : Value) (j_10 : Value) (H : Heap) : Prop :=
  W.len places_2 H fun v6 H =>
  W.bin .lss j_10 v6 H fun v7 H =>
  W.cond v7 H
  (fun H => W.guarded less_9 true (fun H k => k table_0 H) H fun v8 H =>
   W.guarded less_9 true (fun H k => k list_1 H) H fun v9 H =>
   W.guarded less_9 true (fun H k => k i_7 H) H fun v10 H =>
   W.guarded less_9 true (fun H k => W.indexAddr 1 v9 v10 H k) H fun v11 H =>
   W.guarded less_9 true (fun H k => W.get v11 H k) H fun v12 H =>
   W.guarded less_9 true (fun H k => W.indexAddr 1 v8 v12 H k) H fun v13 H =>
   W.guarded less_9 true (fun H k => W.get v13 H k) H fun v14 H =>
   W.guarded less_9 true (fun H k => k places_2 H) H fun v15 H =>
   W.guarded less_9 true (fun H k => k j_10 H) H fun v16 H =>
   W.guarded less_9 true (fun H k => W.indexAddr 1 v15 v16 H k) H fun v17 H =>
   W.guarded less_9 true (fun H k => W.get v17 H k) H fun v18 H =>
   W.guarded less_9 true (fun H k => W.indexAddr 1 v14 v18 H k) H fun v19 H =>
   W.guarded less_9 true (fun H k => W.get v19 H k) H fun v20 H =>
   W.guarded less_9 true (fun H k => k table_0 H) H fun v21 H =>
   W.guarded less_9 true (fun H k => k list_1 H) H fun v22 H =>
   W.guarded less_9 true (fun H k => k k_8 H) H fun v23 H =>
   W.guarded less_9 true (fun H k => W.indexAddr 1 v22 v23 H k) H fun v24 H =>
   W.guarded less_9 true (fun H k => W.get v24 H k) H fun v25 H =>
   W.guarded less_9 true (fun H k => W.indexAddr 1 v21 v25 H k) H fun v26 H =>
   W.guarded less_9 true (fun H k => W.get v26 H k) H fun v27 H =>
   W.guarded less_9 true (fun H k => k places_2 H) H fun v28 H =>
   W.guarded less_9 true (fun H k => k j_10 H) H fun v29 H =>
   W.guarded less_9 true (fun H k => W.indexAddr 1 v28 v29 H k) H fun v30 H =>
   W.guarded less_9 true (fun H k => W.get v30 H k) H fun v31 H =>
   W.guarded less_9 true (fun H k => W.indexAddr 1 v27 v31 H k) H fun v32 H =>
   W.guarded less_9 true (fun H k => W.get v32 H k) H fun v33 H =>
   W.guarded less_9 true (fun H k => W.bin .lss v20 v33 H k) H fun v34 H =>
   W.pick less_9 v34 (.bool false) H fun v35 H =>
   W.bin .add j_10 (.int .i64 1) H fun v36 H =>
   I3 (v35, v36, ()) H)
  (fun H => W.cond less_9 H
   (fun H => W.indexAddr 1 list_1 i_7 H fun v37 H =>
    W.get v37 H fun v38 H =>
    Q v38 H)
   (fun H => W.bin .add k_8 (.int .i64 1) H fun v39 H =>
    I2 (v39, ()) H))
def f78.l2 (Q : Post) (list_1 : Value) (i_7 : Value) (places_2 : Value) (table_0 : Value) (I1 : St [7] → Heap → Prop) (I2 : St [8] → Heap → Prop) (k_8 : Value) (H : Heap) : Prop :=
  W.len list_1 H fun v3 H =>
  W.bin .lss k_8 v3 H fun v4 H =>
  W.cond v4 H
  (fun H => W.bin .neq i_7 k_8 H fun v5 H =>
   W.loop (S := St [9, 10]) (fun I3 s H => f78.l3 Q places_2 table_0 list_1 i_7 k_8 I2 I3 s.1 s.2.1 H) (v5, (.int .i64 0), ()) H)
  (fun H => W.bin .add i_7 (.int .i64 1) H fun v40 H =>
   I1 (v40, ()) H)
def f78.l1 (Q : Post) (list_1 : Value) (places_2 : Value) (table_0 : Value) (I1 : St [7] → Heap → Prop) (i_7 : Value) (H : Heap) : Prop :=
  W.len list_1 H fun v1 H =>
  W.bin .lss i_7 v1 H fun v2 H =>
  W.cond v2 H
  (fun H => W.loop (S := St [8]) (fun I2 s H => f78.l2 Q list_1 i_7 places_2 table_0 I1 I2 s.1 H) ((.int .i64 0), ()) H)
  (fun H => Q (.int .i64 (-1)) H)
def f78.w (Q : Post) (table_0 : Value) (list_1 : Value) (places_2 : Value) (H : Heap) : Prop :=
  W.loop (S := St [7]) (fun I1 s H => f78.l1 Q list_1 places_2 table_0 I1 s.1 H) ((.int .i64 0), ()) H
theorem f78.enter {Q : Post} {table_0 : Value} {list_1 : Value} {places_2 : Value} {H : Heap} (h : f78.w Q table_0 list_1 places_2 H) : Runs Tryz.prog 78 #[table_0, list_1, places_2] H Q :=
  fn_enter (ann := [(2, [7]), (5, [8]), (9, [9, 10])]) (by kernel_rfl) Tryz.func78 rfl (by kernel_rfl) h (by kernel_rfl)

/- loop.example/g01343/spec.l07Turn -/
def f77.l2 (Q : Post) (table_0 : Value) (j_4 : Value) (out_3 : Value) (I1 : St [3, 4] → Heap → Prop) (I2 : St [5, 6] → Heap → Prop) (row_5 : Value) (i_6 : Value) (H : Heap) : Prop :=
  W.len table_0 H fun v7 H =>
  W.bin .lss i_6 v7 H fun v8 H =>
  W.cond v8 H
  (fun H => W.indexAddr 1 table_0 i_6 H fun v9 H =>
   W.get v9 H fun v10 H =>
   W.indexAddr 1 v10 j_4 H fun v11 H =>
   W.get v11 H fun v12 H =>
   W.lit 1 [(.int .i64 0)] 2 [(0, 1, v12)] H fun v13 H =>
   W.append 1 2 row_5 v13 H fun v14 H =>
   W.bin .add i_6 (.int .i64 1) H fun v15 H =>
   I2 (v14, v15, ()) H)
  (fun H => W.lit 1 [(.slice none 0 0)] 35 [(0, 1, row_5)] H fun v16 H =>
   W.append 1 35 out_3 v16 H fun v17 H =>
   W.bin .add j_4 (.int .i64 1) H fun v18 H =>
   I1 (v17, v18, ()) H)
def f77.l1 (Q : Post) (table_0 : Value) (I1 : St [3, 4] → Heap → Prop) (out_3 : Value) (j_4 : Value) (H : Heap) : Prop :=
  W.indexAddr 1 table_0 (.int .i64 0) H fun v2 H =>
  W.get v2 H fun v3 H =>
  W.len v3 H fun v4 H =>
  W.bin .lss j_4 v4 H fun v5 H =>
  W.cond v5 H
  (fun H => W.lit 0 [(.int .i64 0)] 2 [] H fun v6 H =>
   W.loop (S := St [5, 6]) (fun I2 s H => f77.l2 Q table_0 j_4 out_3 I1 I2 s.1 s.2.1 H) (v6, (.int .i64 0), ()) H)
  (fun H => Q out_3 H)
def f77.w (Q : Post) (table_0 : Value) (H : Heap) : Prop :=
  W.lit 0 [(.slice none 0 0)] 35 [] H fun v1 H =>
  W.loop (S := St [3, 4]) (fun I1 s H => f77.l1 Q table_0 I1 s.1 s.2.1 H) (v1, (.int .i64 0), ()) H
theorem f77.enter {Q : Post} {table_0 : Value} {H : Heap} (h : f77.w Q table_0 H) : Runs Tryz.prog 77 #[table_0] H Q :=
  fn_enter (ann := [(3, [3, 4]), (7, [5, 6])]) (by kernel_rfl) Tryz.func77 rfl (by kernel_rfl) h (by kernel_rfl)

/- loop.example/g01343/spec.l07Less -/
def f79.j1 (Q : Post) (i_6 : Value) (I1 : St [5, 6] → Heap → Prop) (out_5' : Value) (H : Heap) : Prop :=
  W.bin .add i_6 (.int .i64 1) H fun v11 H =>
  I1 (out_5', v11, ()) H
def f79.l1 (Q : Post) (list_0 : Value) (x_1 : Value) (I1 : St [5, 6] → Heap → Prop) (out_5 : Value) (i_6 : Value) (H : Heap) : Prop :=
  W.len list_0 H fun v2 H =>
  W.bin .lss i_6 v2 H fun v3 H =>
  W.cond v3 H
  (fun H => W.indexAddr 1 list_0 i_6 H fun v4 H =>
   W.get v4 H fun v5 H =>
   W.bin .neq v5 x_1 H fun v6 H =>
   W.cond v6 H
   (fun H => W.indexAddr 1 list_0 i_6 H fun v7 H =>
    W.get v7 H fun v8 H =>
    W.lit 1 [(.int .i64 0)] 2 [(0, 1, v8)] H fun v9 H =>
    W.append 1 2 out_5 v9 H fun v10 H =>
    f79.j1 Q i_6 I1 v10 H)
   (fun H => f79.j1 Q i_6 I1 out_5 H))
  (fun H => Q out_5 H)
def f79.w (Q : Post) (list_0 : Value) (x_1 : Value) (H : Heap) : Prop :=
  W.lit 0 [(.int .i64 0)] 2 [] H fun v1 H =>
  W.loop (S := St [5, 6]) (fun I1 s H => f79.l1 Q list_0 x_1 I1 s.1 s.2.1 H) (v1, (.int .i64 0), ()) H
theorem f79.enter {Q : Post} {list_0 : Value} {x_1 : Value} {H : Heap} (h : f79.w Q list_0 x_1 H) : Runs Tryz.prog 79 #[list_0, x_1] H Q :=
  fn_enter (ann := [(3, [5, 6])]) (by kernel_rfl) Tryz.func79 rfl (by kernel_rfl) h (by kernel_rfl)

/- loop.example/g01343/spec.RemainingChoices -/
def f19.j1 (Q : Post) (I3 : St [5, 6] → Heap → Prop) (rows_5'' : Value) (columns_6'' : Value) (H : Heap) : Prop :=
  I3 (rows_5'', columns_6'', ()) H
def f19.l3 (Q : Post) (v1 : Value) (v9 : Value) (I3 : St [5, 6] → Heap → Prop) (rows_5' : Value) (columns_6' : Value) (H : Heap) : Prop :=
  W.fieldAddr 0 v1 H fun v26 H =>
  W.get v26 H fun v27 H =>
  W.call Tryz.prog (.func (.func 78) #[] #[]) #[v27, rows_5', columns_6'] H fun v28 H =>
  W.bin .geq v28 (.int .i64 0) H fun v29 H =>
  W.cond v29 H
  (fun H => W.call Tryz.prog (.func (.func 79) #[] #[]) #[rows_5', v28] H fun v30 H =>
   f19.j1 Q I3 v30 columns_6' H)
  (fun H => W.call Tryz.prog (.func (.func 78) #[] #[]) #[v9, columns_6', rows_5'] H fun v31 H =>
   W.bin .lss v31 (.int .i64 0) H fun v32 H =>
   W.cond v32 H
   (fun H => Q (.tuple #[rows_5', columns_6', (.int .i64 0)]) H)
   (fun H => W.call Tryz.prog (.func (.func 79) #[] #[]) #[columns_6', v31] H fun v33 H =>
    f19.j1 Q I3 rows_5' v33 H))
def f19.l2 (Q : Post) (v1 : Value) (v9 : Value) (rows_5 : Value) (I2 : St [6, 9] → Heap → Prop) (columns_6 : Value) (j_9 : Value) (H : Heap) : Prop :=
  W.fieldAddr 0 v1 H fun v17 H =>
  W.get v17 H fun v18 H =>
  W.indexAddr 1 v18 (.int .i64 0) H fun v19 H =>
  W.get v19 H fun v20 H =>
  W.len v20 H fun v21 H =>
  W.bin .lss j_9 v21 H fun v22 H =>
  W.cond v22 H
  (fun H => W.lit 1 [(.int .i64 0)] 2 [(0, 1, j_9)] H fun v23 H =>
   W.append 1 2 columns_6 v23 H fun v24 H =>
   W.bin .add j_9 (.int .i64 1) H fun v25 H =>
   I2 (v24, v25, ()) H)
  (fun H => W.loop (S := St [5, 6]) (fun I3 s H => f19.l3 Q v1 v9 I3 s.1 s.2.1 H) (rows_5, columns_6, ()) H)
def f19.l1 (Q : Post) (v1 : Value) (v9 : Value) (v6 : Value) (I1 : St [5, 8] → Heap → Prop) (rows_5 : Value) (i_8 : Value) (H : Heap) : Prop :=
  W.fieldAddr 0 v1 H fun v10 H =>
  W.get v10 H fun v11 H =>
  W.len v11 H fun v12 H =>
  W.bin .lss i_8 v12 H fun v13 H =>
  W.cond v13 H
  (fun H => W.lit 1 [(.int .i64 0)] 2 [(0, 1, i_8)] H fun v14 H =>
   W.append 1 2 rows_5 v14 H fun v15 H =>
   W.bin .add i_8 (.int .i64 1) H fun v16 H =>
   I1 (v15, v16, ()) H)
  (fun H => W.loop (S := St [6, 9]) (fun I2 s H => f19.l2 Q v1 v9 rows_5 I2 s.1 s.2.1 H) (v6, (.int .i64 0), ()) H)
def f19.w (Q : Post) (g_0 : Value) (H : Heap) : Prop :=
  W.box g_0 26 H fun v1 H =>
  W.getN 2 v1 H fun v2 H =>
  W.call Tryz.prog (.func (.func 57) #[] #[]) #[v2] H fun v3 H =>
  W.un .not v3 H fun v4 H =>
  W.cond v4 H
  (fun H => Q (.tuple #[(.slice none 0 0), (.slice none 0 0), (.int .i64 1)]) H)
  (fun H => W.lit 0 [(.int .i64 0)] 2 [] H fun v5 H =>
   W.lit 0 [(.int .i64 0)] 2 [] H fun v6 H =>
   W.fieldAddr 1 v1 H fun v7 H =>
   W.get v7 H fun v8 H =>
   W.call Tryz.prog (.func (.func 77) #[] #[]) #[v8] H fun v9 H =>
   W.loop (S := St [5, 8]) (fun I1 s H => f19.l1 Q v1 v9 v6 I1 s.1 s.2.1 H) (v5, (.int .i64 0), ()) H)
theorem f19.enter {Q : Post} {g_0 : Value} {H : Heap} (h : f19.w Q g_0 H) : Runs Tryz.prog 19 #[g_0] H Q :=
  fn_enter (ann := [(5, [5, 8]), (9, [6, 9]), (12, [5, 6])]) (by kernel_rfl) Tryz.func19 rfl (by kernel_rfl) h (by kernel_rfl)


def lessB (b0 : Bool) (t : Int → Int → Int) (x y : Int) (others : List Int) (j : Nat) : Bool := b0 && (others.take j).all fun z => decide (t x z < t y z)

theorem fn78 {H0 : Heap} {Q : Post} {vt vl vp : Value} {T : List (List Int)} {own others : List Int} {t : Int → Int → Int} (hT : Has RSS H0 [vt] T) (ho : Has RS H0 [vl] own) (hs : Has RS H0 [vp] others) (hne : others ≠ [])
    (hi : ∀ x ∈ own, ∃ a : Nat, x = (a : Int) ∧ a < T.length) (hj : ∀ y ∈ others, ∃ c : Nat, y = (c : Int) ∧ ∀ r ∈ T, c < r.length) (ht : ∀ x ∈ own, ∀ y ∈ others, t x y = mAt T x.toNat y.toNat) (hl : own.length ≤ 100) (hl2 : others.length ≤ 100)
    (hQ : Q (.int .i64 (worstT t own others)) H0) : Runs Tryz.prog 78 #[vt, vl, vp] H0 Q := by
  refine f78.enter ?_
  unfold f78.w
  refine W.for_rule own.length (fun i st H => H = H0 ∧ st = (.int .i64 (i : Nat), ()) ∧ ∀ j (_ : j < i) (hj2 : j < own.length), domT t own others own[j] = false) ⟨rfl, rfl, fun j hj => by omega⟩ ?_
  rintro i st H J hi0 ⟨rfl, rfl, hno⟩ hJ
  unfold f78.l1
  refine Wl.lenH ho (Wi.lssC (fun hlt => Wi.tru ?_) fun hge => Wi.fls ?_)
  · have hil : i < own.length := by omega
    refine W.for_rule own.length (fun k st H' => H' = H ∧ st = (.int .i64 (k : Nat), ()) ∧ ∀ j (_ : j < k) (hj2 : j < own.length), (others.any fun x => decide (t own[j] x ≤ t own[i] x)) = true) ⟨rfl, rfl, fun j hj => by omega⟩ ?_
    rintro k st H' J2 hk0 ⟨rfl, rfl, hno2⟩ hJ2
    unfold f78.l2
    refine Wl.lenH ho (Wi.lssC (fun hlt2 => Wi.tru ?_) fun hge2 => Wi.fls ?_)
    · have hkl : k < own.length := by omega
      refine Wi.neq ?_
      generalize hb0 : (((i : Nat) : Int) != ((k : Nat) : Int)) = b0
      refine W.for_rule others.length (fun j st H => H = H' ∧ st = (.bool (lessB b0 t own[i] own[k] others j), .int .i64 (j : Nat), ())) ⟨rfl, ?_⟩ ?_
      · simp [lessB]
        rfl
      rintro j st H J3 hj0 ⟨rfl, rfl⟩ hJ3
      unfold f78.l3
      refine Wl.lenH hs (Wi.lssC (fun hlt3 => Wi.tru ?_) fun hge3 => Wi.fls ?_)
      · have hjl : j < others.length := by omega
        have est : lessB b0 t own[i] own[k] others (j + 1) = (lessB b0 t own[i] own[k] others j && decide (t own[i] others[j] < t own[k] others[j])) := by
          unfold lessB
          rw [List.take_succ_eq_append_getElem hjl, List.all_append]
          simp [Bool.and_assoc]
        generalize lessB b0 t own[i] own[k] others j = lb at est ⊢
        cases lb with
        | false =>
          simp only [gw]
          refine Wi.add (by unfold I64; omega) (hJ3 _ _ hjl ⟨rfl, ?_⟩)
          rw [est]
          rfl
        | true =>
          obtain ⟨a, ea, hat⟩ := hi _ (List.getElem_mem hil)
          obtain ⟨a2, ea2, hat2⟩ := hi _ (List.getElem_mem hkl)
          obtain ⟨c, ec, hc⟩ := hj _ (List.getElem_mem hjl)
          have t1 := ht _ (List.getElem_mem hil) _ (List.getElem_mem hjl)
          have t2 := ht _ (List.getElem_mem hkl) _ (List.getElem_mem hjl)
          have c1 := hc _ (List.getElem_mem hat)
          have c2 := hc _ (List.getElem_mem hat2)
          rw [ea, ec, Int.toNat_natCast, Int.toNat_natCast] at t1
          rw [ea2, ec, Int.toNat_natCast, Int.toNat_natCast] at t2
          unfold mAt at t1 t2
          rw [getD_row hat, getD_at c1] at t1
          rw [getD_row hat2, getD_at c2] at t2
          simp only [gw]
          refine Wl.atIntH ho hil fun _ => ?_
          rw [ea]
          refine Wl.at1H rfl hT hat fun w hw => Wl.atIntH hs hjl fun _ => ?_
          rw [ec]
          refine Wl.atIntH hw c1 fun _ => Wl.atIntH ho hkl fun _ => ?_
          rw [ea2]
          refine Wl.at1H rfl hT hat2 fun w2 hw2 => Wl.atIntH hs hjl fun _ => ?_
          rw [ec]
          refine Wl.atIntH hw2 c2 fun _ => Wi.lss (Wi.add (by unfold I64; omega) (hJ3 _ _ hjl ⟨rfl, ?_⟩))
          rw [est, ea, ea2, ec, t1, t2]
          rfl
      · have hjl : j = others.length := by omega
        subst hjl
        have key : lessB b0 t own[i] own[k] others others.length = !(others.any fun x => decide (t own[k] x ≤ t own[i] x)) := by
          have e1 : (others.all fun y => decide (t own[i] y < t own[k] y)) = !(others.any fun x => decide (t own[k] x ≤ t own[i] x)) := by
            rw [List.not_any_eq_all_not]
            congr 1
            funext y
            by_cases c : t own[k] y ≤ t own[i] y
            · simp [c, Int.not_lt.2 c]
            · simp [c, Int.not_le.1 c]
          unfold lessB
          rw [List.take_length, e1, ← hb0]
          by_cases c : i = k
          · subst c
            have : (others.any fun x => decide (t own[i] x ≤ t own[i] x)) = true := by
              cases others with
              | nil => exact absurd rfl hne
              | cons a l => simp
            rw [this]
            simp
          · rw [show (((i : Nat) : Int) != ((k : Nat) : Int)) = true by simp; omega, Bool.true_and]
        rw [key]
        cases hany : others.any fun x => decide (t own[k] x ≤ t own[i] x) with
        | false =>
          refine Wi.tru (Wl.atIntH ho hil fun _ => ?_)
          have hd : domT t own others own[i] = true := List.any_eq_true.2 ⟨own[k], List.getElem_mem hkl, by rw [hany]; rfl⟩
          rw [worst_some hil hno hd] at hQ
          exact hQ
        | true =>
          refine Wi.fls (Wi.add (by unfold I64; omega) (hJ2 _ _ hkl ⟨rfl, rfl, fun j hj hj2 => ?_⟩))
          by_cases c : j < k
          · exact hno2 j c hj2
          · have : j = k := by omega
            subst this
            exact hany
    · refine Wi.add (by unfold I64; omega) (hJ _ _ hil ⟨rfl, rfl, fun j hj hj2 => ?_⟩)
      by_cases c : j < i
      · exact hno j c hj2
      · have : j = i := by omega
        subst this
        unfold domT
        rw [List.any_eq_false]
        intro x hx
        obtain ⟨q, hq, rfl⟩ := List.mem_iff_getElem.1 hx
        simp [hno2 q (by omega) hq]
  · rw [worst_none fun j hj => hno j (by omega) hj] at hQ
    exact hQ

def turnL (k l : Nat) (T : List (List Int)) : List (List Int) := (List.range l).map fun j => (List.range k).map fun i => mAt T i j

theorem fn77 {H0 : Heap} {Q : Post} {v : Value} {T : List (List Int)} {l : Nat} (hr : Has RSS H0 [v] T) (hk : 0 < T.length) (hk2 : T.length ≤ 100) (hT : ∀ r ∈ T, r.length = l) (hl : l ≤ 100) (hQ : ∀ H' u, FreshG RS 35 H0 u (turnL T.length l T) H' → Q u H') :
    Runs Tryz.prog 77 #[v] H0 Q := by
  have h := (Loc.start H0).lent hr
  have hT0 := hT _ (List.getElem_mem hk)
  refine f77.enter ?_
  unfold f77.w
  refine Wl.lit0 (ty := 35) RS rfl h fun H o h => ?_
  refine W.for_rule l (fun j st H => ∃ o, st = (o, .int .i64 (j : Nat), ()) ∧ Ab.Loc H0 [.grow RS 35 o (turnL T.length j T), .lent RSS [v] T] H) ⟨o, rfl, h⟩ ?_
  rintro j st H J hj ⟨o, rfl, h⟩ hJ
  unfold f77.l1
  refine Wl.at1H rfl (h.rd (cs := [v]) (r := RSS) (x := T)) (i := 0) hk fun w hw => Wl.lenH hw ?_
  rw [hT0]
  refine Wi.lssC (fun hlt => Wi.tru ?_) fun hge => Wi.fls ?_
  · have hjl : j < l := by omega
    refine Wl.lit0 (ty := 2) Rd.int rfl h fun H q h => ?_
    refine W.for_rule T.length (fun i st H => ∃ q, st = (q, .int .i64 (i : Nat), ()) ∧ Ab.Loc H0 [.grow Rd.int 2 q ((List.range i).map fun i => mAt T i j), .grow RS 35 o (turnL T.length j T), .lent RSS [v] T] H) ⟨q, rfl, h⟩ ?_
    rintro i st H J2 hi ⟨q, rfl, h⟩ hJ2
    unfold f77.l2
    refine Wl.len (v := v) (xs := T) h (Wi.lssC (fun hlt2 => Wi.tru ?_) fun hge2 => Wi.fls ?_)
    · have hit : i < T.length := by omega
      have hjr : j < T[i].length := by rw [hT _ (List.getElem_mem hit)]; exact hjl
      refine Wl.at1H rfl (h.rd (cs := [v]) (r := RSS) (x := T)) hit fun w hw => Wl.atIntH hw hjr fun hI => ?_
      refine Wl.pushP (r := Rd.int) (x := T[i][j]) (i := 0) rfl rfl rfl (fun _ => ⟨rfl, rfl, hI⟩) h (by simp; omega) fun H q' h => Wi.add (by unfold I64; omega) (hJ2 _ _ hit ⟨q', rfl, ?_⟩)
      have e : ((List.range i).map fun i => mAt T i j) ++ [T[i][j]] = (List.range (i + 1)).map fun i => mAt T i j := by
        rw [List.range_succ, List.map_append]
        congr 1
        simp only [List.map_cons, List.map_nil]
        unfold mAt
        rw [getD_row hit, getD_at hjr]
      rw [e] at h
      exact h
    · have hit : i = T.length := by omega
      subst hit
      have h := h.asData (i := 0) rfl
      have hcu := (h.rd (cs := [q]) (r := RS)).one
      refine Wl.pushO (r := RS) (u := q) (x := (List.range T.length).map fun i => mAt T i j) (i := 1) (j := 0) (L2 := fun v' => [.data RS [q] ((List.range T.length).map fun i => mAt T i j), .grow RS 35 v' (turnL T.length j T ++ [(List.range T.length).map fun i => mAt T i j]), .lent RSS [v] T]) (L3 := fun v' => [.emp, .grow RS 35 v' (turnL T.length j T ++ [(List.range T.length).map fun i => mAt T i j]), .lent RSS [v] T]) rfl h (by decide) hcu (by simp [turnL]; omega) fun H o' h => Wi.add (by unfold I64; omega) (hJ _ _ hjl ⟨o', rfl, ?_⟩)
      have e : turnL T.length j T ++ [(List.range T.length).map fun i => mAt T i j] = turnL T.length (j + 1) T := by
        unfold turnL
        rw [List.range_succ (n := j), List.map_append]
        rfl
      rw [e] at h
      exact h.tl
  · have hjl : j = l := by omega
    subst hjl
    exact hQ _ o (h.retGG (i := 0) rfl)

theorem fn79 {H0 : Heap} {Q : Post} {v : Value} {xs : List Int} {n : Int} (hr : Has RS H0 [v] xs) (hl : xs.length ≤ 100) (hQ : ∀ H' u, FreshG Rd.int 2 H0 u (lessL xs n) H' → Q u H') : Runs Tryz.prog 79 #[v, .int .i64 n] H0 Q := by
  have h := (Loc.start H0).lent hr
  refine f79.enter ?_
  unfold f79.w
  refine Wl.lit0 (ty := 2) Rd.int rfl h fun H o h => ?_
  refine W.for_rule xs.length (fun j st H => ∃ o, st = (o, .int .i64 (j : Nat), ()) ∧ Ab.Loc H0 [.grow Rd.int 2 o (lessL (xs.take j) n), .lent RS [v] xs] H) ⟨o, rfl, h⟩ ?_
  rintro j st H J hj ⟨o, rfl, h⟩ hJ
  unfold f79.l1
  refine Wl.len (v := v) (xs := xs) h (Wi.lssC (fun hlt => Wi.tru ?_) fun hge => Wi.fls ?_)
  · have hjl : j < xs.length := by omega
    have est : lessL (xs.take (j + 1)) n = lessL (xs.take j) n ++ (if xs[j] = n then [] else [xs[j]]) := by
      unfold lessL
      rw [List.take_succ_eq_append_getElem hjl, List.filter_append]
      congr 1
      by_cases hb : xs[j] = n
      · simp [hb]
      · simp [hb]
    have hle : (lessL (xs.take j) n).length ≤ 100 := by
      have h1 : (lessL (xs.take j) n).length ≤ (xs.take j).length := List.length_filter_le _ _
      simp only [List.length_take] at h1
      omega
    refine Wl.atIntH (h.rd (cs := [v]) (r := RS) (x := xs)) hjl fun _ => Wi.neqC (fun hne => Wi.tru ?_) fun he => Wi.fls ?_
    · refine Wl.atIntH (h.rd (cs := [v]) (r := RS) (x := xs)) hjl fun hI => ?_
      refine Wl.pushP (r := Rd.int) (x := xs[j]) (i := 0) rfl rfl rfl (fun _ => ⟨rfl, rfl, hI⟩) h (by omega) fun H o' h => ?_
      unfold f79.j1
      refine Wi.add (by unfold I64; omega) (hJ _ _ hjl ⟨o', rfl, ?_⟩)
      rw [est, if_neg hne]
      exact h
    · unfold f79.j1
      refine Wi.add (by unfold I64; omega) (hJ _ _ hjl ⟨o, rfl, ?_⟩)
      rw [est, if_pos he, List.append_nil]
      exact h
  · have hjl : j = xs.length := by omega
    subst hjl
    rw [List.take_length] at h
    exact hQ _ o (h.retGG (i := 0) rfl)

theorem fn19 {H0 : Heap} {Q : Post} {cs : List Value} {g : Game} (hr : Has RGame H0 cs g) (hw : wGame g ≤ 1048576)
    (hQ : ∀ H' u w, H0.Le H' → Has RS H' [u] (remRes g).1.1 → Has RS H' [w] (remRes g).1.2 → Q (.tuple #[u, w, .int .i64 (remRes g).2]) H') : Runs Tryz.prog 19 #[.agg cs.toArray] H0 Q := by
  classical
  obtain ⟨u1, u2, rfl, r1, r2⟩ := hasGame hr
  have h := (((Loc.start H0).lent r2).lent r1).lent hr
  have nilS : ∀ H, Has RS H [.slice none 0 0] ([] : List Int) := fun H => ⟨[], .inl ⟨rfl, rfl, .inl rfl⟩⟩
  refine f19.enter ?_
  unfold f19.w
  refine Wl.box (cs := [u1, u2]) h fun H b h => Wl.getA (b := b) h rfl (Wi.call (fn57 (h.rd (cs := [u1, u2]) (x := g)) hw fun H t l ht => ?_))
  have h := h.to l
  cases t with
  | false =>
    simp only [gw]
    have := hQ H (.slice none 0 0) (.slice none 0 0) h.le
    unfold remRes at this
    rw [if_neg (fun q => Bool.noConfusion (ht.2 q))] at this
    exact this (nilS _) (nilS _)
  | true =>
  have hg := ht.1 rfl
  have k1 := hg.k1
  have k4 := hg.k4
  have l1 := hg.l1
  have l4 := hg.l4
  have bl := hg.bl
  have hres : remRes g = (remL (tabA g) (tabB g) (nG g) (upL g.1.length) (upL (lw g)), 0) := by unfold remRes; rw [if_pos hg]
  simp only [gw]
  refine Wl.lit0 (ty := 2) Rd.int rfl h fun H vr h => Wl.lit0 (ty := 2) Rd.int rfl h fun H vc h => ?_
  refine Wi.fieldAddr (Wl.get (b := b) (o := 1) h rfl (Wi.call (fn77 (h.rd (cs := [u2]) (r := RSS) (x := g.2)) (by omega) (by omega) (fun r hr => (hg.b r hr).1) (by omega) fun H vt f => ?_)))
  rw [bl] at f
  have h := h.addG f
  have h : Ab.Loc H0 [.grow RS 35 vt (turnL g.1.length (lw g) g.2), .grow Rd.int 2 vc (upL 0), .grow Rd.int 2 vr (upL 0), .box b [u1, u2], .lent RGame [u1, u2] g, .lent RSS [u1] g.1, .lent RSS [u2] g.2] H := h
  have eup : ∀ x, upL x ++ [(x : Int)] = upL (x + 1) := fun x => by simp [upL, List.range_succ]
  refine W.for_rule g.1.length (fun x st H => ∃ vr, st = (vr, .int .i64 (x : Nat), ()) ∧ Ab.Loc H0 [.grow RS 35 vt (turnL g.1.length (lw g) g.2), .grow Rd.int 2 vc (upL 0), .grow Rd.int 2 vr (upL x), .box b [u1, u2], .lent RGame [u1, u2] g, .lent RSS [u1] g.1, .lent RSS [u2] g.2] H) ⟨vr, rfl, h⟩ ?_
  rintro x st H J hx ⟨vr, rfl, h⟩ hJ
  unfold f19.l1
  refine Wi.fieldAddr0 (Wl.get (b := b) h rfl (Wl.len (v := u1) (xs := g.1) h (Wi.lssC (fun hlt => Wi.tru ?_) fun hge => Wi.fls ?_)))
  · have hxn : x < g.1.length := by omega
    refine Wl.pushP (r := Rd.int) (x := ((x : Nat) : Int)) (i := 2) rfl rfl rfl (fun _ => ⟨rfl, rfl, by unfold I64; omega⟩) h (by rw [upL_len]; omega) fun H w h => Wi.add (by unfold I64; omega) (hJ _ _ hxn ⟨w, rfl, ?_⟩)
    rw [eup] at h
    exact h
  have hxn : x = g.1.length := by omega
  subst hxn
  clear hJ
  refine W.for_rule (lw g) (fun y st H => ∃ vc, st = (vc, .int .i64 (y : Nat), ()) ∧ Ab.Loc H0 [.grow RS 35 vt (turnL g.1.length (lw g) g.2), .grow Rd.int 2 vc (upL y), .grow Rd.int 2 vr (upL g.1.length), .box b [u1, u2], .lent RGame [u1, u2] g, .lent RSS [u1] g.1, .lent RSS [u2] g.2] H) ⟨vc, rfl, h⟩ ?_
  rintro y st H J hy ⟨vc, rfl, h⟩ hJ
  unfold f19.l2
  refine Wi.fieldAddr0 (Wl.get (b := b) h rfl (Wl.at1H rfl (h.rd (cs := [u1]) (r := RSS) (x := g.1)) (i := 0) (by omega) fun w0 hw0 => Wl.lenH hw0 ?_))
  rw [← lw_at (by omega)]
  refine Wi.lssC (fun hlt => Wi.tru ?_) fun hge => Wi.fls ?_
  · have hyn : y < lw g := by omega
    refine Wl.pushP (r := Rd.int) (x := ((y : Nat) : Int)) (i := 1) rfl rfl rfl (fun _ => ⟨rfl, rfl, by unfold I64; omega⟩) h (by rw [upL_len]; omega) fun H w h => Wi.add (by unfold I64; omega) (hJ _ _ hyn ⟨w, rfl, ?_⟩)
    rw [eup] at h
    exact h
  have hyn : y = lw g := by omega
  subst hyn
  clear hJ
  have h : Ab.Loc H0 [.grow Rd.int 2 vc (upL (lw g)), .grow Rd.int 2 vr (upL g.1.length), .grow RS 35 vt (turnL g.1.length (lw g) g.2), .box b [u1, u2], .lent RGame [u1, u2] g, .lent RSS [u1] g.1, .lent RSS [u2] g.2] H := (h.front 2 rfl).front 2 rfl
  have ne : ∀ n, 1 ≤ n → upL n ≠ [] := fun n hn e => by have := upL_len n; rw [e] at this; simp at this; omega
  refine W.for_rule (nG g) (fun m st H => ∃ vr vc r c, st = (vr, vc, ()) ∧ remL (tabA g) (tabB g) (nG g - m) r c = (remRes g).1 ∧ r.length + c.length + m ≤ nG g ∧ r ≠ [] ∧ c ≠ [] ∧ (∀ x ∈ r, x ∈ upL g.1.length) ∧ (∀ x ∈ c, x ∈ upL (lw g)) ∧
    Ab.Loc H0 [.grow Rd.int 2 vc c, .grow Rd.int 2 vr r, .grow RS 35 vt (turnL g.1.length (lw g) g.2), .box b [u1, u2], .lent RGame [u1, u2] g, .lent RSS [u1] g.1, .lent RSS [u2] g.2] H) ⟨vr, vc, _, _, rfl, by rw [hres, Nat.sub_zero], by rw [upL_len, upL_len]; exact Nat.le_refl _, ne _ k1, ne _ l1, fun x hx => hx, fun x hx => hx, h⟩ ?_
  rintro m st H J hm ⟨vr, vc, r, c, rfl, hrem, hlen, hrn, hcn, hrr, hcc, h⟩ hJ
  unfold f19.l3
  have hn5 : nG g ≤ 5 := hg.kl
  have hr1 : 1 ≤ r.length := by cases r with | nil => exact absurd rfl hrn | cons a l => simp
  have hc1 : 1 ≤ c.length := by cases c with | nil => exact absurd rfl hcn | cons a l => simp
  obtain ⟨d, hd⟩ : ∃ d, nG g - m = d + 1 := ⟨nG g - m - 1, by omega⟩
  rw [hd] at hrem
  unfold remL at hrem
  have tl : (turnL g.1.length (lw g) g.2).length = lw g := by simp [turnL]
  refine Wi.fieldAddr0 (Wl.get (b := b) h rfl (Wi.call (fn78 (t := tabA g) (h.rd (cs := [u1]) (r := RSS) (x := g.1)) (h.rd (cs := [vr]) (r := RS) (x := r)) (h.rd (cs := [vc]) (r := RS) (x := c)) hcn
    (fun x hx => let ⟨k, h1, h2⟩ := mem_upL.1 (hrr x hx); ⟨k, h2, h1⟩) (fun y hy => let ⟨k, h1, h2⟩ := mem_upL.1 (hcc y hy); ⟨k, h2, fun q hq => by rw [(hg.a q hq).1]; exact h1⟩) (fun x _ y _ => rfl) (by omega) (by omega) ?_)))
  refine Wi.geqC (fun hge => Wi.tru ?_) fun hlt => Wi.fls ?_
  · rw [if_pos hge] at hrem
    obtain ⟨w1, w2, w3, w4, _⟩ := worst_facts hcn hge
    refine Wi.call (fn79 (h.rd (cs := [vr]) (r := RS) (x := r)) (by omega) fun H w f => ?_)
    have h := h.addG f
    unfold f19.j1
    have := lessL_len w1
    refine hJ _ _ (by omega) ⟨w, vc, _, c, rfl, ?_, by omega, lessL_ne ⟨w2, w3, w4⟩, hcn, fun x hx => hrr x (lessL_sub hx), hcc, ((h.cut 2).front 1 rfl)⟩
    rw [show nG g - (m + 1) = d by omega]
    exact hrem
  · rw [if_neg (by omega)] at hrem
    refine Wi.call (fn78 (t := tabB g) (h.rd (cs := [vt]) (r := RSS)) (h.rd (cs := [vc]) (r := RS) (x := c)) (h.rd (cs := [vr]) (r := RS) (x := r)) hrn
      (fun x hx => let ⟨k, h1, h2⟩ := mem_upL.1 (hcc x hx); ⟨k, h2, by rw [tl]; exact h1⟩) (fun y hy => let ⟨k, h1, h2⟩ := mem_upL.1 (hrr y hy); ⟨k, h2, fun q hq => by
        obtain ⟨j, _, rfl⟩ := List.mem_map.1 hq
        simpa using h1⟩) (fun x hx y hy => by
        obtain ⟨j, h1, rfl⟩ := mem_upL.1 (hcc x hx)
        obtain ⟨i, h2, rfl⟩ := mem_upL.1 (hrr y hy)
        unfold tabB
        rw [Int.toNat_natCast, Int.toNat_natCast]
        have e : mAt (turnL g.1.length (lw g) g.2) j i = mAt g.2 i j := by
          unfold turnL
          conv => lhs; unfold mAt
          simp [List.getD_eq_getElem?_getD, h1, h2]
        exact e.symm) (by omega) (by omega) ?_)
    refine Wi.lssC (fun hl => Wi.tru ?_) fun hge => Wi.fls ?_
    · rw [if_pos hl] at hrem
      have := hQ H vr vc h.le
      rw [← hrem] at this
      rw [show (remRes g).2 = 0 by rw [hres]] at this
      exact this (h.rd (cs := [vr]) (r := RS) (x := r)) (h.rd (cs := [vc]) (r := RS) (x := c))
    · rw [if_neg (by omega)] at hrem
      obtain ⟨w1, w2, w3, w4, _⟩ := worst_facts hrn (Int.not_lt.1 hge)
      refine Wi.call (fn79 (h.rd (cs := [vc]) (r := RS) (x := c)) (by omega) fun H w f => ?_)
      have h := h.addG f
      unfold f19.j1
      have := lessL_len w1
      refine hJ _ _ (by omega) ⟨vr, w, r, _, rfl, ?_, by omega, hrn, lessL_ne ⟨w2, w3, w4⟩, hrr, fun x hx => hcc x (lessL_sub hx), h.cut 1⟩
      rw [show nG g - (m + 1) = d by omega]
      exact hrem

end Go.Proofs.YtbcfknboheghkaaGreat
