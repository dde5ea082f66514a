/- A game's problem, the reference's; the contracts of GameProblem. No condition. -/
import Derived.Test.YtbcfknboheghkaaGreatGGM
import Derived.Test.YtbcfknboheghkaaGreatGEQ
import Derived.Test.YtbcfknboheghkaaGreatGLL
namespace Go.Proofs.YtbcfknboheghkaaGreat
open Go.Ab

/- loop.example/g01343/spec.l07Problem -/
def f58.j1 (Q : Post) (j_8 : Value) (I2 : St [8] → Heap → Prop) (H : Heap) : Prop :=
  W.bin .add j_8 (.int .i64 1) H fun v35 H =>
  I2 (v35, ()) H
def f58.j2 (Q : Post) (j_8 : Value) (I2 : St [8] → Heap → Prop) (H : Heap) : Prop :=
  f58.j1 Q j_8 I2 H
def f58.l2 (Q : Post) (v5 : Value) (v10 : Value) (i_6 : Value) (v1 : Value) (v18 : Value) (v14 : Value) (I1 : St [6] → Heap → Prop) (I2 : St [8] → Heap → Prop) (j_8 : Value) (H : Heap) : Prop :=
  W.bin .add v5 v10 H fun v19 H =>
  W.bin .lss j_8 v19 H fun v20 H =>
  W.cond v20 H
  (fun H => W.bin .lss i_6 v5 H fun v21 H =>
   W.guarded v21 true (fun H k => k j_8 H) H fun v22 H =>
   W.guarded v21 true (fun H k => k v5 H) H fun v23 H =>
   W.guarded v21 true (fun H k => W.bin .geq v22 v23 H k) H fun v24 H =>
   W.pick v21 v24 (.bool false) H fun v25 H =>
   W.cond v25 H
   (fun H => W.fieldAddr 0 v1 H fun v26 H =>
    W.get v26 H fun v27 H =>
    W.indexAddr 1 v27 i_6 H fun v28 H =>
    W.get v28 H fun v29 H =>
    W.bin .sub j_8 v5 H fun v30 H =>
    W.indexAddr 1 v29 v30 H fun v31 H =>
    W.get v31 H fun v32 H =>
    W.un .neg v32 H fun v33 H =>
    W.indexAddr 1 v18 j_8 H fun v34 H =>
    W.put v34 v33 H fun _ H =>
    f58.j1 Q j_8 I2 H)
   (fun H => W.bin .geq i_6 v5 H fun v36 H =>
    W.guarded v36 true (fun H k => k j_8 H) H fun v37 H =>
    W.guarded v36 true (fun H k => k v5 H) H fun v38 H =>
    W.guarded v36 true (fun H k => W.bin .lss v37 v38 H k) H fun v39 H =>
    W.pick v36 v39 (.bool false) H fun v40 H =>
    W.cond v40 H
    (fun H => W.fieldAddr 1 v1 H fun v41 H =>
     W.get v41 H fun v42 H =>
     W.indexAddr 1 v42 j_8 H fun v43 H =>
     W.get v43 H fun v44 H =>
     W.bin .sub i_6 v5 H fun v45 H =>
     W.indexAddr 1 v44 v45 H fun v46 H =>
     W.get v46 H fun v47 H =>
     W.un .neg v47 H fun v48 H =>
     W.indexAddr 1 v18 j_8 H fun v49 H =>
     W.put v49 v48 H fun _ H =>
     f58.j2 Q j_8 I2 H)
    (fun H => f58.j2 Q j_8 I2 H)))
  (fun H => W.fieldAddr 0 v14 H fun v50 H =>
   W.get v50 H fun v51 H =>
   W.lit 1 [(.slice none 0 0)] 35 [(0, 1, v18)] H fun v52 H =>
   W.append 1 35 v51 v52 H fun v53 H =>
   W.fieldAddr 0 v14 H fun v54 H =>
   W.put v54 v53 H fun _ H =>
   W.fieldAddr 1 v14 H fun v55 H =>
   W.get v55 H fun v56 H =>
   W.lit 1 [(.int .i64 0)] 2 [(0, 1, (.int .i64 1))] H fun v57 H =>
   W.append 1 2 v56 v57 H fun v58 H =>
   W.fieldAddr 1 v14 H fun v59 H =>
   W.put v59 v58 H fun _ H =>
   W.bin .add i_6 (.int .i64 1) H fun v60 H =>
   I1 (v60, ()) H)
def f58.l1 (Q : Post) (v5 : Value) (v10 : Value) (v1 : Value) (v14 : Value) (v2 : Value) (I1 : St [6] → Heap → Prop) (i_6 : Value) (H : Heap) : Prop :=
  W.bin .add v5 v10 H fun v15 H =>
  W.bin .lss i_6 v15 H fun v16 H =>
  W.cond v16 H
  (fun H => W.bin .add v5 v10 H fun v17 H =>
   W.make [(.int .i64 0)] 2 v17 v17 H fun v18 H =>
   W.loop (S := St [8]) (fun I2 s H => f58.l2 Q v5 v10 i_6 v1 v18 v14 I1 I2 s.1 H) ((.int .i64 0), ()) H)
  (fun H => W.getN 2 v14 H fun v61 H =>
   W.putN 2 v2 v61 H fun _ H =>
   W.getN 2 v2 H fun v62 H => Q v62 H)
def f58.w (Q : Post) (g_0 : Value) (H : Heap) : Prop :=
  W.box g_0 26 H fun v1 H =>
  W.new [(.slice none 0 0), (.slice none 0 0)] 43 H fun v2 H =>
  W.fieldAddr 0 v1 H fun v3 H =>
  W.get v3 H fun v4 H =>
  W.len v4 H fun v5 H =>
  W.fieldAddr 0 v1 H fun v6 H =>
  W.get v6 H fun v7 H =>
  W.indexAddr 1 v7 (.int .i64 0) H fun v8 H =>
  W.get v8 H fun v9 H =>
  W.len v9 H fun v10 H =>
  W.lit 0 [(.slice none 0 0)] 35 [] H fun v11 H =>
  W.lit 0 [(.int .i64 0)] 2 [] H fun v12 H =>
  W.build [(.slice none 0 0), (.slice none 0 0)] [(0, 1, v11), (1, 1, v12)] H fun v13 H =>
  W.new [(.slice none 0 0), (.slice none 0 0)] 43 H fun v14 H =>
  W.putN 2 v14 v13 H fun _ H =>
  W.loop (S := St [6]) (fun I1 s H => f58.l1 Q v5 v10 v1 v14 v2 I1 s.1 H) ((.int .i64 0), ()) H
theorem f58.enter {Q : Post} {g_0 : Value} {H : Heap} (h : f58.w Q g_0 H) : Runs Tryz.prog 58 #[g_0] H Q :=
  fn_enter (ann := [(4, [6]), (8, [8])]) (by kernel_rfl) Tryz.func58 rfl (by kernel_rfl) h (by kernel_rfl)

/- loop.example/g01343/impl.GameProblem -/
/- loop.example/g01343/spec.GameProblem -/
theorem fn58 {H0 : Heap} {Q : Post} {cs : List Value} {g : Game} (hr : Has RGame H0 cs g) (hg : IsGm g) (hQ : ∀ H' w1 w2, Fresh RProblem H0 [w1, w2] (gmP g) H' → Q (.agg #[w1, w2]) H') : Runs Tryz.prog 58 #[.agg cs.toArray] H0 Q := by
  obtain ⟨u1, u2, rfl, r1, r2⟩ := hasGame hr
  have k1 := hg.k1; have k4 := hg.k4; have l1 := hg.l1; have l4 := hg.l4; have kl := hg.kl; have bl := hg.bl
  have hk0 : 0 < g.1.length := by omega
  have hlw := lw_at hk0
  have h := ((Loc.start H0).lent r1).lent r2
  refine f58.enter ?_
  unfold f58.w
  refine Wl.box h fun H b h => Wl.new h fun H b2 h => Wi.fieldAddr0 (Wl.get h rfl (Wl.len h (Wi.fieldAddr0 (Wl.get h rfl (Wl.at1 (i := 0) rfl h hk0 fun w hw => Wl.lenH hw ?_)))))
  rw [← hlw]
  have hkl : ((g.1.length : Nat) : Int) + ((lw g : Nat) : Int) = ((nG g : Nat) : Int) := by simp [nG]
  have hn5 : nG g ≤ 5 := kl
  have hnn : nG g = g.1.length + lw g := rfl
  refine Wl.lit0 (ty := 35) RS rfl h fun H m h => Wl.lit0 (ty := 2) Rd.int rfl h fun H q h => ?_
  have km := (h.rd (cs := [m]))
  have kq := (h.rd (cs := [q]))
  have kall : ∀ (m q : Value) (H : Heap) (xs : List (List Int)) (ys : List Int), Has RSS H [m] xs → Has RS H [q] ys → [m, q].all isCell = true := fun m q H xs ys h1 h2 => by
    have k1 := h1.cell
    have k3 := h2.cell
    simp only [List.all_cons, List.all_nil, Bool.and_true] at k1 k3 ⊢
    rw [k1, k3]
    rfl
  refine Wi.build (cells := [m, q]) (by simp [fillA, km.one, kq.one]) (Wl.new h fun H b3 h => Wl.putA h rfl rfl (kall _ _ _ _ _ km kq) fun H h => ?_)
  refine W.for_rule (nG g) (fun i st H => ∃ m q, st = (.int .i64 (i : Nat), ()) ∧ Ab.Loc H0 [.box b3 [m, q], .grow Rd.int 2 q (List.replicate i 1), .grow RS 35 m ((List.range i).map fun r => (List.range (nG g)).map (gmE g r)), .box b2 [.slice none 0 0, .slice none 0 0], .box b [u1, u2], .lent RSS [u2] g.2, .lent RSS [u1] g.1] H) ⟨_, _, rfl, h⟩ ?_
  rintro i st H J hi ⟨m, q, rfl, h⟩ hJ
  refine Wi.add (by unfold I64; omega) ?_
  rw [hkl]
  refine Wi.lssC (fun hlt => Wi.tru ?_) fun hge => Wi.fls ?_
  · have hin : i < nG g := by omega
    refine Wi.add (by unfold I64; omega) ?_
    rw [hkl]
    refine Wl.make (r := Rd.int) (z := 0) (m := nG g) (fun _ => ⟨rfl, rfl, by unfold I64; omega⟩) h (by omega) (by decide) fun H u h => ?_
    have e0 : List.replicate (nG g) (0 : Int) = (List.range (nG g)).map fun c => if c < 0 then gmE g i c else 0 := by
      apply List.ext_getElem <;> simp
    rw [e0] at h
    refine W.for_rule (nG g) (fun j st H => st = (.int .i64 (j : Nat), ()) ∧ Ab.Loc H0 [.grow Rd.int 2 u ((List.range (nG g)).map fun c => if c < j then gmE g i c else 0), .box b3 [m, q], .grow Rd.int 2 q (List.replicate i 1), .grow RS 35 m ((List.range i).map fun r => (List.range (nG g)).map (gmE g r)), .box b2 [.slice none 0 0, .slice none 0 0], .box b [u1, u2], .lent RSS [u2] g.2, .lent RSS [u1] g.1] H) ⟨rfl, h⟩ ?_
    rintro j st H J2 hj ⟨rfl, h⟩ hJ2
    refine Wi.add (by unfold I64; omega) ?_
    rw [hkl]
    refine Wi.lssC (fun hlt2 => Wi.tru ?_) fun hge2 => Wi.fls ?_
    · have hjn : j < nG g := by omega
      have hI : I64 ((j : Int) + 1) := by unfold I64; omega
      have hul : j < ((List.range (nG g)).map fun c => if c < j then gmE g i c else 0).length := by simpa using hjn
      have set : ∀ y, gmE g i j = y → ((List.range (nG g)).map fun c => if c < j then gmE g i c else 0).set j y = (List.range (nG g)).map fun c => if c < j + 1 then gmE g i c else 0 := fun y hy =>
        range_set2 (by simp [hy]) fun k _ hk => by
          by_cases q : k < j
          · simp [q, show k < j + 1 by omega]
          · simp [q, show ¬ k < j + 1 by omega]
      have same : gmE g i j = 0 → ((List.range (nG g)).map fun c => if c < j then gmE g i c else 0) = (List.range (nG g)).map fun c => if c < j + 1 then gmE g i c else 0 := fun hy => List.map_congr_left fun k _ => by
        by_cases q : k < j
        · simp [q, show k < j + 1 by omega]
        · by_cases q2 : k = j
          · subst q2; simp [hy]
          · simp [q, show ¬ k < j + 1 by omega]
      refine Wi.lssC (fun hik => ?_) fun hik => ?_
      · have hik : i < g.1.length := by omega
        have ha := hg.a _ (List.getElem_mem hik)
        simp only [gw]
        refine Wi.geqC (fun hjk => ?_) fun hjk => ?_
        · simp only [gw]
          have hja : j - g.1.length < g.1[i].length := by omega
          have va := ha.2 _ (List.getElem_mem hja)
          refine Wi.fieldAddr0 (Wl.get h rfl (Wl.at1 rfl h hik fun wa hwa => Wi.sub (by unfold I64; omega) ?_))
          rw [show ((j : Nat) : Int) - ((g.1.length : Nat) : Int) = ((j - g.1.length : Nat) : Int) by omega]
          refine Wl.atIntH hwa hja fun _ => Wi.neg (by unfold I64; omega) (Wl.setG h hul (by unfold I64; omega) fun H h => ?_)
          unfold f58.j1
          refine Wi.add hI (hJ2 _ _ hjn ⟨rfl, ?_⟩)
          rw [set _ (by unfold gmE; rw [if_pos ⟨hik, by omega⟩, mAt_at hik hja])] at h
          exact h
        · simp only [gw]
          refine Wi.geqC (fun g2 => by omega) fun _ => ?_
          simp only [gw]
          unfold f58.j2 f58.j1
          refine Wi.add hI (hJ2 _ _ hjn ⟨rfl, ?_⟩)
          rw [same (by unfold gmE; rw [if_neg (by omega), if_neg (by omega)])] at h
          exact h
      · simp only [gw]
        refine Wi.geqC (fun hki => ?_) fun g2 => by omega
        simp only [gw]
        refine Wi.lssC (fun hjk => ?_) fun hjk => ?_
        · simp only [gw]
          have hjb : j < g.2.length := by omega
          have hb := hg.b _ (List.getElem_mem hjb)
          have hib : i - g.1.length < g.2[j].length := by omega
          have vb := hb.2 _ (List.getElem_mem hib)
          refine Wi.fieldAddr (Wl.get h rfl (Wl.at1 rfl h hjb fun wa hwa => Wi.sub (by unfold I64; omega) ?_))
          rw [show ((i : Nat) : Int) - ((g.1.length : Nat) : Int) = ((i - g.1.length : Nat) : Int) by omega]
          refine Wl.atIntH hwa hib fun _ => Wi.neg (by unfold I64; omega) (Wl.setG h hul (by unfold I64; omega) fun H h => ?_)
          unfold f58.j2 f58.j1
          refine Wi.add hI (hJ2 _ _ hjn ⟨rfl, ?_⟩)
          rw [set _ (by unfold gmE; rw [if_neg (by omega), if_pos ⟨by omega, by omega⟩, mAt_at hjb hib])] at h
          exact h
        · simp only [gw]
          unfold f58.j2 f58.j1
          refine Wi.add hI (hJ2 _ _ hjn ⟨rfl, ?_⟩)
          rw [same (by unfold gmE; rw [if_neg (by omega), if_neg (by omega)])] at h
          exact h
    · have hjn : j = nG g := by omega
      have er : ((List.range (nG g)).map fun c => if c < j then gmE g i c else 0) = (List.range (nG g)).map (gmE g i) := List.map_congr_left fun k hk => by
        have hk : k < nG g := by simpa using hk
        rw [if_pos (by omega)]
      rw [er] at h
      refine Wi.fieldAddr0 (Wl.get h rfl (Wl.pushG h (by simp; omega) fun H m' h => Wi.fieldAddr0 (Wl.put h (h.rd (cs := [m'])).cell1 (by simp) fun H h => ?_)))
      refine Wi.fieldAddr (Wl.get h rfl (Wl.pushP (r := Rd.int) (x := 1) rfl rfl rfl (fun _ => ⟨rfl, rfl, by unfold I64; omega⟩) h (i := 1) (by simp; omega) fun H q' h => ?_))
      simp only [List.set_cons_succ, List.set_cons_zero] at h
      refine Wi.fieldAddr (Wl.put h (h.rd (cs := [q'])).cell1 (by simp) fun H h => Wi.add (by unfold I64; omega) (hJ _ _ hin ⟨m', q', rfl, ?_⟩))
      rw [← List.replicate_succ'] at h
      have ep : (List.range i).map (fun r => (List.range (nG g)).map (gmE g r)) ++ [(List.range (nG g)).map (gmE g i)] = (List.range (i + 1)).map fun r => (List.range (nG g)).map (gmE g r) := by
        rw [List.range_succ, List.map_append]
        rfl
      rw [ep] at h
      exact h
  · have : i = nG g := by omega
    subst this
    have h := (h.asData (i := 1) rfl).asData (i := 2) rfl
    refine Wl.getA h rfl (Wl.putA h rfl rfl (kall _ _ _ _ _ (h.rd (cs := [m])) (h.rd (cs := [q]))) fun H h => Wl.getA h rfl (hQ _ _ _ ?_))
    exact h.ret2 (i := 2) (j := 1) rfl rfl (by omega)

end Go.Proofs.YtbcfknboheghkaaGreat
/-! The contract of the reference's RemainingChoices. No condition. -/
namespace Go.Proofs.YtbcfknboheghkaaGreat
open Go.Ab

/- loop.example/g01343/spec.l07Worse -/
/- loop.example/g01343/spec.l07Turn -/
def f77.l2 (Q : Post) (table_0 : Value) (j_4 : Value) (out_3 : Value) (I1 : St [3, 4] → Heap → Prop) (I2 : St [5, 6] → Heap → Prop) (row_5 : Value) (i_6 : Value) (H : Heap) : Prop :=
  W.len table_0 H fun v7 H =>
  W.bin .lss i_6 v7 H fun v8 H =>
  W.cond v8 H
  (fun H => W.indexAddr 1 table_0 i_6 H fun v9 H =>
   W.get v9 H fun v10 H =>
   W.indexAddr 1 v10 j_4 H fun v11 H =>
   W.get v11 H fun v12 H =>
   W.lit 1 [(.int .i64 0)] 2 [(0, 1, v12)] H fun v13 H =>
   W.append 1 2 row_5 v13 H fun v14 H =>
   W.bin .add i_6 (.int .i64 1) H fun v15 H =>
   I2 (v14, v15, ()) H)
  (fun H => W.lit 1 [(.slice none 0 0)] 35 [(0, 1, row_5)] H fun v16 H =>
   W.append 1 35 out_3 v16 H fun v17 H =>
   W.bin .add j_4 (.int .i64 1) H fun v18 H =>
   I1 (v17, v18, ()) H)
def f77.l1 (Q : Post) (table_0 : Value) (I1 : St [3, 4] → Heap → Prop) (out_3 : Value) (j_4 : Value) (H : Heap) : Prop :=
  W.indexAddr 1 table_0 (.int .i64 0) H fun v2 H =>
  W.get v2 H fun v3 H =>
  W.len v3 H fun v4 H =>
  W.bin .lss j_4 v4 H fun v5 H =>
  W.cond v5 H
  (fun H => W.lit 0 [(.int .i64 0)] 2 [] H fun v6 H =>
   W.loop (S := St [5, 6]) (fun I2 s H => f77.l2 Q table_0 j_4 out_3 I1 I2 s.1 s.2.1 H) (v6, (.int .i64 0), ()) H)
  (fun H => Q out_3 H)
def f77.w (Q : Post) (table_0 : Value) (H : Heap) : Prop :=
  W.lit 0 [(.slice none 0 0)] 35 [] H fun v1 H =>
  W.loop (S := St [3, 4]) (fun I1 s H => f77.l1 Q table_0 I1 s.1 s.2.1 H) (v1, (.int .i64 0), ()) H
theorem f77.enter {Q : Post} {table_0 : Value} {H : Heap} (h : f77.w Q table_0 H) : Runs Tryz.prog 77 #[table_0] H Q :=
  fn_enter (ann := [(3, [3, 4]), (7, [5, 6])]) (by kernel_rfl) Tryz.func77 rfl (by kernel_rfl) h (by kernel_rfl)

/- loop.example/g01343/spec.l07Less -/
/- loop.example/g01343/spec.RemainingChoices -/
def lessB (b0 : Bool) (t : Int → Int → Int) (x y : Int) (others : List Int) (j : Nat) : Bool := b0 && (others.take j).all fun z => decide (t x z < t y z)

def turnL (k l : Nat) (T : List (List Int)) : List (List Int) := (List.range l).map fun j => (List.range k).map fun i => mAt T i j

theorem fn77 {H0 : Heap} {Q : Post} {v : Value} {T : List (List Int)} {l : Nat} (hr : Has RSS H0 [v] T) (hk : 0 < T.length) (hk2 : T.length ≤ 100) (hT : ∀ r ∈ T, r.length = l) (hl : l ≤ 100) (hQ : ∀ H' u, FreshG RS 35 H0 u (turnL T.length l T) H' → Q u H') :
    Runs Tryz.prog 77 #[v] H0 Q := by
  have h := (Loc.start H0).lent hr
  have hT0 := hT _ (List.getElem_mem hk)
  refine f77.enter ?_
  unfold f77.w
  refine Wl.lit0 (ty := 35) RS rfl h fun H o h => ?_
  refine W.for_rule l (fun j st H => ∃ o, st = (o, .int .i64 (j : Nat), ()) ∧ Ab.Loc H0 [.grow RS 35 o (turnL T.length j T), .lent RSS [v] T] H) ⟨o, rfl, h⟩ ?_
  rintro j st H J hj ⟨o, rfl, h⟩ hJ
  unfold f77.l1
  refine Wl.at1H rfl (h.rd (cs := [v]) (r := RSS) (x := T)) (i := 0) hk fun w hw => Wl.lenH hw ?_
  rw [hT0]
  refine Wi.lssC (fun hlt => Wi.tru ?_) fun hge => Wi.fls ?_
  · have hjl : j < l := by omega
    refine Wl.lit0 (ty := 2) Rd.int rfl h fun H q h => ?_
    refine W.for_rule T.length (fun i st H => ∃ q, st = (q, .int .i64 (i : Nat), ()) ∧ Ab.Loc H0 [.grow Rd.int 2 q ((List.range i).map fun i => mAt T i j), .grow RS 35 o (turnL T.length j T), .lent RSS [v] T] H) ⟨q, rfl, h⟩ ?_
    rintro i st H J2 hi ⟨q, rfl, h⟩ hJ2
    unfold f77.l2
    refine Wl.len (v := v) (xs := T) h (Wi.lssC (fun hlt2 => Wi.tru ?_) fun hge2 => Wi.fls ?_)
    · have hit : i < T.length := by omega
      have hjr : j < T[i].length := by rw [hT _ (List.getElem_mem hit)]; exact hjl
      refine Wl.at1H rfl (h.rd (cs := [v]) (r := RSS) (x := T)) hit fun w hw => Wl.atIntH hw hjr fun hI => ?_
      refine Wl.pushP (r := Rd.int) (x := T[i][j]) (i := 0) rfl rfl rfl (fun _ => ⟨rfl, rfl, hI⟩) h (by simp; omega) fun H q' h => Wi.add (by unfold I64; omega) (hJ2 _ _ hit ⟨q', rfl, ?_⟩)
      have e : ((List.range i).map fun i => mAt T i j) ++ [T[i][j]] = (List.range (i + 1)).map fun i => mAt T i j := by
        rw [List.range_succ, List.map_append]
        congr 1
        simp only [List.map_cons, List.map_nil]
        unfold mAt
        rw [getD_row hit, getD_at hjr]
      rw [e] at h
      exact h
    · have hit : i = T.length := by omega
      subst hit
      have h := h.asData (i := 0) rfl
      have hcu := (h.rd (cs := [q]) (r := RS)).one
      refine Wl.pushO (r := RS) (u := q) (x := (List.range T.length).map fun i => mAt T i j) (i := 1) (j := 0) (L2 := fun v' => [.data RS [q] ((List.range T.length).map fun i => mAt T i j), .grow RS 35 v' (turnL T.length j T ++ [(List.range T.length).map fun i => mAt T i j]), .lent RSS [v] T]) (L3 := fun v' => [.emp, .grow RS 35 v' (turnL T.length j T ++ [(List.range T.length).map fun i => mAt T i j]), .lent RSS [v] T]) rfl h (by decide) hcu (by simp [turnL]; omega) fun H o' h => Wi.add (by unfold I64; omega) (hJ _ _ hjl ⟨o', rfl, ?_⟩)
      have e : turnL T.length j T ++ [(List.range T.length).map fun i => mAt T i j] = turnL T.length (j + 1) T := by
        unfold turnL
        rw [List.range_succ (n := j), List.map_append]
        rfl
      rw [e] at h
      exact h.tl
  · have hjl : j = l := by omega
    subst hjl
    exact hQ _ o (h.retGG (i := 0) rfl)

end Go.Proofs.YtbcfknboheghkaaGreat
