/- The contracts of the reference's mixes and EquilibriaBySets. No condition. -/
import Derived.Test.YtbcfknboheghkaaGreatEB1
import Derived.Test.YtbcfknboheghkaaGreatV2
import Derived.Test.YtbcfknboheghkaaGreatGRC
import Derived.Test.YtbcfknboheghkaaGreatGLS
namespace Go.Proofs.YtbcfknboheghkaaGreat
open Go.Ab

/- loop.example/g01343/spec.EquilibriaBySets -/
def f23.j1 (Q : Post) (s_6 : Value) (I1 : St [5, 6] → Heap → Prop) (out_5' : Value) (H : Heap) : Prop :=
  W.bin .add s_6 (.int .i64 1) H fun v24 H =>
  I1 (out_5', v24, ()) H
def f23.j3 (Q : Post) (z_10 : Value) (total_11 : Value) (i_12 : Value) (v34 : Value) (I2 : St [9, 10, 11, 12] → Heap → Prop) (own_13' : Value) (H : Heap) : Prop :=
  W.lit 1 [(.int .i64 0)] 2 [(0, 1, own_13')] H fun v39 H =>
  W.append 1 2 z_10 v39 H fun v40 H =>
  W.bin .add total_11 own_13' H fun v41 H =>
  W.bin .add i_12 (.int .i64 1) H fun v42 H =>
  I2 (v34, v40, v41, v42, ()) H
def f23.j2 (Q : Post) (good_9 : Value) (i_12 : Value) (s_6 : Value) (z_10 : Value) (total_11 : Value) (I2 : St [9, 10, 11, 12] → Heap → Prop) (own_13 : Value) (H : Heap) : Prop :=
  W.guarded good_9 true (fun H k => k own_13 H) H fun v32 H =>
  W.guarded good_9 true (fun H k => W.bin .geq v32 (.int .i64 0) H k) H fun v33 H =>
  W.pick good_9 v33 (.bool false) H fun v34 H =>
  W.conv .u64 i_12 H fun v35 H =>
  W.bin .shr s_6 v35 H fun v36 H =>
  W.bin .and v36 (.int .i64 1) H fun v37 H =>
  W.bin .eql v37 (.int .i64 0) H fun v38 H =>
  W.cond v38 H
  (fun H => f23.j3 Q z_10 total_11 i_12 v34 I2 (.int .i64 0) H)
  (fun H => f23.j3 Q z_10 total_11 i_12 v34 I2 own_13 H)
def f23.j4 (Q : Post) (s_6 : Value) (I1 : St [5, 6] → Heap → Prop) (out_5'' : Value) (H : Heap) : Prop :=
  f23.j1 Q s_6 I1 out_5'' H
def f23.l3 (Q : Post) (out_5 : Value) (v51 : Value) (s_6 : Value) (I1 : St [5, 6] → Heap → Prop) (I3 : St [16, 17] → Heap → Prop) (known_16 : Value) (i_17 : Value) (H : Heap) : Prop :=
  W.len out_5 H fun v54 H =>
  W.bin .lss i_17 v54 H fun v55 H =>
  W.cond v55 H
  (fun H => W.guarded known_16 false (fun H k => k out_5 H) H fun v56 H =>
   W.guarded known_16 false (fun H k => k i_17 H) H fun v57 H =>
   W.guarded known_16 false (fun H k => W.indexAddr 1 v56 v57 H k) H fun v58 H =>
   W.guarded known_16 false (fun H k => W.get v58 H k) H fun v59 H =>
   W.guarded known_16 false (fun H k => k v51 H) H fun v60 H =>
   W.guarded known_16 false (fun H k => W.call Tryz.prog (.func (.func 90) #[] #[]) #[v59, v60] H k) H fun v61 H =>
   W.pick known_16 (.bool true) v61 H fun v62 H =>
   W.bin .add i_17 (.int .i64 1) H fun v63 H =>
   I3 (v62, v63, ()) H)
  (fun H => W.un .not known_16 H fun v64 H =>
   W.cond v64 H
   (fun H => W.lit 1 [(.slice none 0 0)] 29 [(0, 1, v51)] H fun v65 H =>
    W.append 1 29 out_5 v65 H fun v66 H =>
    f23.j4 Q s_6 I1 v66 H)
   (fun H => f23.j4 Q s_6 I1 out_5 H))
def f23.l2 (Q : Post) (v21 : Value) (v22 : Value) (s_6 : Value) (out_5 : Value) (v1 : Value) (I1 : St [5, 6] → Heap → Prop) (I2 : St [9, 10, 11, 12] → Heap → Prop) (good_9 : Value) (z_10 : Value) (total_11 : Value) (i_12 : Value) (H : Heap) : Prop :=
  W.len v21 H fun v26 H =>
  W.bin .lss i_12 v26 H fun v27 H =>
  W.cond v27 H
  (fun H => W.indexAddr 1 v21 i_12 H fun v28 H =>
   W.get v28 H fun v29 H =>
   W.bin .lss v22 (.int .i64 0) H fun v30 H =>
   W.cond v30 H
   (fun H => W.un .neg v29 H fun v31 H =>
    f23.j2 Q good_9 i_12 s_6 z_10 total_11 I2 v31 H)
   (fun H => f23.j2 Q good_9 i_12 s_6 z_10 total_11 I2 v29 H))
  (fun H => W.un .not good_9 H fun v43 H =>
   W.guarded v43 false (fun H k => k total_11 H) H fun v44 H =>
   W.guarded v43 false (fun H k => W.bin .eql v44 (.int .i64 0) H k) H fun v45 H =>
   W.pick v43 (.bool true) v45 H fun v46 H =>
   W.cond v46 H
   (fun H => f23.j1 Q s_6 I1 out_5 H)
   (fun H => W.fieldAddr 0 v1 H fun v47 H =>
    W.get v47 H fun v48 H =>
    W.len v48 H fun v49 H =>
    W.call Tryz.prog (.func (.func 64) #[] #[]) #[z_10, v49] H fun v50 H =>
    W.extract 0 v50 H fun v51 H =>
    W.extract 1 v50 H fun v52 H =>
    W.bin .neq v52 (.int .i64 0) H fun v53 H =>
    W.cond v53 H
    (fun H => Q (.tuple #[(.slice none 0 0), v52]) H)
    (fun H => W.loop (S := St [16, 17]) (fun I3 s H => f23.l3 Q out_5 v51 s_6 I1 I3 s.1 s.2.1 H) ((.bool false), (.int .i64 0), ()) H)))
def f23.l1 (Q : Post) (v8 : Value) (v1 : Value) (I1 : St [5, 6] → Heap → Prop) (out_5 : Value) (s_6 : Value) (H : Heap) : Prop :=
  W.fieldAddr 1 v8 H fun v9 H =>
  W.get v9 H fun v10 H =>
  W.len v10 H fun v11 H =>
  W.conv .u64 v11 H fun v12 H =>
  W.bin .shl (.int .i64 1) v12 H fun v13 H =>
  W.bin .lss s_6 v13 H fun v14 H =>
  W.cond v14 H
  (fun H => W.fieldAddr 0 v8 H fun v15 H =>
   W.get v15 H fun v16 H =>
   W.callQ Tryz.prog (.func (.func 89) #[] #[]) #[v16, s_6] H fun v17 H =>
   W.fieldAddr 1 v8 H fun v18 H =>
   W.get v18 H fun v19 H =>
   W.callQ Tryz.prog (.func (.func 88) #[] #[]) #[v17, v19] H fun v20 H =>
   W.extract 0 v20 H fun v21 H =>
   W.extract 1 v20 H fun v22 H =>
   W.bin .eql v22 (.int .i64 0) H fun v23 H =>
   W.cond v23 H
   (fun H => f23.j1 Q s_6 I1 out_5 H)
   (fun H => W.lit 0 [(.int .i64 0)] 2 [] H fun v25 H =>
    W.loop (S := St [9, 10, 11, 12]) (fun I2 s H => f23.l2 Q v21 v22 s_6 out_5 v1 I1 I2 s.1 s.2.1 s.2.2.1 s.2.2.2.1 H) ((.bool true), v25, (.int .i64 0), (.int .i64 0), ()) H))
  (fun H => Q (.tuple #[out_5, (.int .i64 0)]) H)
def f23.w (Q : Post) (g_0 : Value) (H : Heap) : Prop :=
  W.box g_0 26 H fun v1 H =>
  W.getN 2 v1 H fun v2 H =>
  W.call Tryz.prog (.func (.func 57) #[] #[]) #[v2] H fun v3 H =>
  W.un .not v3 H fun v4 H =>
  W.cond v4 H
  (fun H => Q (.tuple #[(.slice none 0 0), (.int .i64 1)]) H)
  (fun H => W.getN 2 v1 H fun v5 H =>
   W.call Tryz.prog (.func (.func 58) #[] #[]) #[v5] H fun v6 H =>
   W.lit 0 [(.slice none 0 0)] 29 [] H fun v7 H =>
   W.new [(.slice none 0 0), (.slice none 0 0)] 43 H fun v8 H =>
   W.putN 2 v8 v6 H fun _ H =>
   W.loop (S := St [5, 6]) (fun I1 s H => f23.l1 Q v8 v1 I1 s.1 s.2.1 H) (v7, (.int .i64 1), ()) H)
theorem f23.enter {Q : Post} {g_0 : Value} {H : Heap} (h : f23.w Q g_0 H) : Runs Tryz.prog 23 #[g_0] H Q :=
  fn_enter (ann := [(5, [5, 6]), (12, [9, 10, 11, 12]), (28, [16, 17])]) (by kernel_rfl) Tryz.func23 rfl (by kernel_rfl) h (by kernel_rfl)


theorem eqTo_full (g : Game) : ∀ m, ∀ e ∈ (eqTo g m).1, e.length = nG g
  | 0 => by simp [eqTo]
  | m + 1 => by
    have h2 := eqTo_full g m
    show ∀ e ∈ ((if (eqTo g m).2 = 0 then eqStep g (m + 1) (eqTo g m).1 else eqTo g m)).1, e.length = nG g
    split
    · unfold eqStep
      split
      · split
        · exact h2
        · split
          · rename_i hm
            split
            · exact h2
            · intro e he
              rcases List.mem_append.1 he with he | he
              · exact h2 e he
              · simp at he
                subst he
                rw [mixV_full hm, eqZ_len]
          · simp
      · exact h2
    · exact h2

theorem pt_at2 {n : Nat} {p : Prob} {s i : Nat} (hi : i < n) : (ptOf n p s).getD i 0 = sgI (det n (mAt (colL n p.1 s))) * (solveL n (colL n p.1 s) p.2).getD i 0 := by
  have h1 := ptOf_len (n := n) (p := p) s
  have h2 := solveL_len n (colL n p.1 s) p.2
  rw [atD (by omega), atD (by omega)]
  simp [ptOf, pointL]

theorem fnG23 {H0 : Heap} {Q : Post} {cs : List Value} {g : Game} (hr : Has RGame H0 cs g) (hw : wGame g ≤ 1048576) (hQ : ∀ H' u, Fresh (Rd.slice RFG) H0 [u] (eqRes g).1 H' → Q (.tuple #[u, .int .i64 (eqRes g).2]) H') : Runs Tryz.prog 23 #[.agg cs.toArray] H0 Q := by
  obtain ⟨u1, u2, rfl, r1, r2⟩ := hasGame hr
  have hz : ∀ H c, H0.Le H → eqRes g = ([], c) → Q (.tuple #[.slice none 0 0, .int .i64 c]) H := fun H c l e => by
    have := hQ H (.slice none 0 0) (by rw [e]; exact fresh_nil l)
    rw [e] at this
    exact this
  have h := ((Loc.start H0).lent r1).lent hr
  refine f23.enter ?_
  unfold f23.w
  refine Wl.box h fun H b h => Wl.getA h rfl (Wi.call (fn57 (h.rd (cs := [u1, u2])) hw fun H t l ht => ?_))
  have h := h.to l
  cases t with
  | false =>
    simp only [gw]
    exact hz _ _ h.le (by unfold eqRes; rw [if_neg (fun g => Bool.noConfusion (ht.2 g))])
  | true =>
  have hg := ht.1 rfl
  have hpb := gm_pb hg
  have hn5 : nG g ≤ 5 := hg.kl
  have h32 := pow5 hn5
  have hql : (gmP g).2.length = nG g := hpb.ql
  have hres : eqRes g = eqTo g (2 ^ nG g - 1) := by unfold eqRes; rw [if_pos hg]
  have hnn : nG g = g.1.length + lw g := rfl
  simp only [gw]
  refine Wl.getA h rfl (Wi.call (fn58 (h.rd (cs := [u1, u2])) hg fun H w1 w2 f => ?_))
  have h := h.add f
  refine Wl.lit0 (ty := 29) RFG rfl h fun H o h => ?_
  refine Wl.new h fun H b8 h => Wl.putA h rfl (h.rd (cs := [w1, w2])).len (h.rd (cs := [w1, w2])).cell fun H h => ?_
  have hp1 : 1 ≤ 2 ^ nG g := Nat.one_le_two_pow
  refine W.for_rule (2 ^ nG g - 1) (fun i st H => ∃ o, st = (o, .int .i64 ((i + 1 : Nat) : Int), ()) ∧ Ab.Loc H0 [.box b8 [w1, w2], .grow RFG 29 o (eqTo g i).1, .data RProblem [w1, w2] (gmP g), .box b [u1, u2], .lent RGame [u1, u2] g, .lent RSS [u1] g.1] H ∧ (eqTo g i).2 = 0) ⟨_, rfl, h, rfl⟩ ?_
  rintro i st H J hi ⟨o, rfl, h, h0⟩ hJ
  obtain ⟨y1, y2, ey, q1, q2⟩ := hasProb (h.rd (cs := [w1, w2]))
  cases ey
  refine Wi.fieldAddr (Wl.get h rfl (Wl.lenH q2 (Wi.convN (by omega) (Wi.shl1 (by omega) ?_))))
  rw [hql]
  have hlo := eqTo_len g i
  refine Wi.lssC (fun hlt => Wi.tru ?_) fun hge => Wi.fls ?_
  · have hiN : i + 1 < 2 ^ nG g := by omega
    have hI : I64 (((i + 1 : Nat) : Int) + 1) := by unfold I64; omega
    have hnext := eqTo_next h0
    have skip : eqStep g (i + 1) (eqTo g i).1 = ((eqTo g i).1, 0) → ∀ H, Ab.Loc H0 [.box b8 [w1, w2], .grow RFG 29 o (eqTo g i).1, .data RProblem [w1, w2] (gmP g), .box b [u1, u2], .lent RGame [u1, u2] g, .lent RSS [u1] g.1] H → f23.j1 Q (.int .i64 ((i + 1 : Nat) : Int)) J o H := fun e H h => by
      unfold f23.j1
      refine Wi.add hI (hJ _ _ (by omega) ⟨o, rfl, ?_, ?_⟩)
      · rw [hnext, e]; exact h
      · rw [hnext, e]
    have hcs := tabL_sq (nG g) (colE (gmP g).1 (i + 1))
    have hcb : ∀ r c, r < nG g → c < nG g → (mAt (colL (nG g) (gmP g).1 (i + 1)) r c).natAbs ≤ 20 := fun r c hr hc => by rw [colL_at hr hc]; exact colE_abs (hpb.m r c)
    refine Wi.fieldAddr0 (Wl.get h rfl (Wi.callQ (fn89 (n := nG g) q1 hpb.sq hn5 hpb.m (by omega) fun H v f => ⟨f.le, ?_⟩)))
    have q2' := q2.le f.le
    have h := (h.addG f).asData (i := 0) rfl
    refine Wi.fieldAddr (Wl.get h rfl (Wi.callQ (fn88 (n := nG g) (h.rd (cs := [v])) q2' hcs hn5 hql hcb hpb.q fun H a f => ⟨f.le, ?_⟩)))
    have h := h.add f
    simp only [gw]
    have hsl := solveL_len (nG g) (colL (nG g) (gmP g).1 (i + 1)) (gmP g).2
    have hsa := solve_leib (n := nG g) (i + 1) hn5 hpb.m hpb.q
    refine Wi.eqlC (fun hz0 => Wi.tru ?_) fun hnz => Wi.fls ?_
    · exact skip (by unfold eqStep; rw [if_neg (by rw [eqB_no hz0]; exact Bool.false_ne_true)]) _ h.tl.tl
    have hpl := ptOf_len (n := nG g) (p := gmP g) (i + 1)
    have hpa := ptOf_abs2 hpb (i + 1)
    have hpt := fun k (hk : k < nG g) => pt_at2 (p := gmP g) (s := i + 1) hk
    have hsg : sgI (det (nG g) (mAt (colL (nG g) (gmP g).1 (i + 1)))) = if det (nG g) (mAt (colL (nG g) (gmP g).1 (i + 1))) < 0 then -1 else 1 := by
      unfold sgI
      split
      · rfl
      · rw [if_pos (by omega)]
    have hmc := eqB_of (n := nG g) (p := gmP g) (s := i + 1) hnz
    have hza := eqZ_abs hg (i + 1)
    have hzl := eqZ_len g (i + 1)
    have hzd : eqZ g (i + 1) = (List.range (nG g)).map fun k => if (i + 1).testBit k then (ptOf (nG g) (gmP g) (i + 1)).getD k 0 else 0 := rfl
    refine Wl.lit0 (ty := 2) Rd.int rfl h fun H z0 h => ?_
    generalize hP : ptOf (nG g) (gmP g) (i + 1) = pt' at *
    refine W.for_rule (nG g) (fun k st H => ∃ z, st = (.bool ((pt'.take k).all fun e => decide (0 ≤ e)), z, .int .i64 ((eqZ g (i + 1)).take k).sum, .int .i64 (k : Nat), ()) ∧ Ab.Loc H0 [.grow Rd.int 2 z ((eqZ g (i + 1)).take k), .data RS [a] (solveL (nG g) (colL (nG g) (gmP g).1 (i + 1)) (gmP g).2), .data RG [v] (colL (nG g) (gmP g).1 (i + 1)), .box b8 [w1, w2], .grow RFG 29 o (eqTo g i).1, .data RProblem [w1, w2] (gmP g), .box b [u1, u2], .lent RGame [u1, u2] g, .lent RSS [u1] g.1] H) ⟨_, by simp; rfl, by simpa using h⟩ ?_
    rintro k st H J2 hk ⟨z, rfl, h⟩ hJ2
    refine Wl.len h ?_
    rw [hsl]
    refine Wi.lssC (fun hlt2 => Wi.tru ?_) fun hge2 => Wi.fls ?_
    · have hkn : k < nG g := by omega
      have hI2 : I64 ((k : Int) + 1) := by unfold I64; omega
      have hkp : k < pt'.length := by omega
      have hkz : k < (eqZ g (i + 1)).length := by omega
      have hka : k < (solveL (nG g) (colL (nG g) (gmP g).1 (i + 1)) (gmP g).2).length := by omega
      have ha := hpa _ (List.getElem_mem hkp)
      have hzk := hza _ (List.getElem_mem hkz)
      have hpi : pt'.getD k 0 = pt'[k] := atD hkp
      have hpe := hpt k hkn
      have hsk : (solveL (nG g) (colL (nG g) (gmP g).1 (i + 1)) (gmP g).2).getD k 0 = (solveL (nG g) (colL (nG g) (gmP g).1 (i + 1)) (gmP g).2)[k] := atD hka
      have ez : (eqZ g (i + 1))[k] = if (i + 1).testBit k then pt'[k] else 0 := by
        rw [← hpi]
        have : (eqZ g (i + 1))[k] = (if (i + 1).testBit k then (ptOf (nG g) (gmP g) (i + 1)).getD k 0 else 0) := onlyL_at hkz
        rw [hP] at this
        exact this
      have bs := sum_take hza (k + 1)
      rw [sum_step hkz, hzl] at bs
      have b5 := Nat.mul_le_mul_right 1920000000 hn5
      have j2 : f23.j2 Q (.bool ((pt'.take k).all fun e => decide (0 ≤ e))) (.int .i64 (k : Nat)) (.int .i64 ((i + 1 : Nat) : Int)) z (.int .i64 ((eqZ g (i + 1)).take k).sum) J2 (.int .i64 pt'[k]) H := by
        have et : ((pt'.take (k + 1)).all fun e => decide (0 ≤ e)) = (((pt'.take k).all fun e => decide (0 ≤ e)) && decide (0 ≤ pt'[k])) := by
          rw [List.take_succ_eq_append_getElem hkp, List.all_append]
          simp
        have j3 : ∀ c y, c = ((pt'.take (k + 1)).all fun e => decide (0 ≤ e)) → y = (eqZ g (i + 1))[k] → f23.j3 Q z (.int .i64 ((eqZ g (i + 1)).take k).sum) (.int .i64 (k : Nat)) (.bool c) J2 (.int .i64 y) H := fun c y hc hy => by
          subst hc hy
          unfold f23.j3
          refine Wl.pushP (r := Rd.int) (x := (eqZ g (i + 1))[k]) rfl rfl rfl (fun _ => ⟨rfl, rfl, by unfold I64; omega⟩) h (by simp; omega) fun H z' h => ?_
          refine Wi.add (by unfold I64; omega) (Wi.add hI2 (hJ2 _ _ hkn ⟨z', by rw [sum_step hkz]; rfl, ?_⟩))
          rw [List.take_succ_eq_append_getElem hkz]
          exact h
        have fin : ∀ c, c = ((pt'.take (k + 1)).all fun e => decide (0 ≤ e)) → W.conv .u64 (.int .i64 (k : Nat)) H fun v35 H => W.bin .shr (.int .i64 ((i + 1 : Nat) : Int)) v35 H fun v36 H => W.bin .and v36 (.int .i64 1) H fun v37 H => W.bin .eql v37 (.int .i64 0) H fun v38 H =>
            W.cond v38 H (fun H => f23.j3 Q z (.int .i64 ((eqZ g (i + 1)).take k).sum) (.int .i64 (k : Nat)) (.bool c) J2 (.int .i64 0) H) (fun H => f23.j3 Q z (.int .i64 ((eqZ g (i + 1)).take k).sum) (.int .i64 (k : Nat)) (.bool c) J2 (.int .i64 pt'[k]) H) := fun c hcc => by
          refine Wi.convN (by omega) (Wi.shrN (by omega) (by omega) (Wi.and1 (Wi.eqlC (fun hz0 => Wi.tru ?_) fun hnz0 => Wi.fls ?_)))
          · have hb : (i + 1).testBit k = false := by
              cases hb : (i + 1).testBit k with
              | false => rfl
              | true => have := bit_iff.2 hb; omega
            exact j3 c 0 hcc (by rw [ez, hb]; rfl)
          · have hb : (i + 1).testBit k = true := bit_iff.1 (by omega)
            exact j3 c _ hcc (by rw [ez, if_pos hb])
        unfold f23.j2
        generalize hg2 : ((pt'.take k).all fun e => decide (0 ≤ e)) = c at *
        cases c with
        | false =>
          simp only [gw]
          exact fin _ (by rw [et]; rfl)
        | true =>
          simp only [gw]
          exact Wi.geq (fin _ (by rw [et]; rfl))
      refine Wl.atInt h hka fun _ => ?_
      rw [← hsk]
      refine Wi.lssC (fun hneg => Wi.tru ?_) fun hpos => Wi.fls ?_
      · rw [hsg, if_pos hneg] at hpe
        refine Wi.neg (by unfold I64; omega) ?_
        rw [show -((solveL (nG g) (colL (nG g) (gmP g).1 (i + 1)) (gmP g).2).getD k 0) = pt'[k] by omega]
        exact j2
      · rw [hsg, if_neg hpos, Int.one_mul] at hpe
        rw [show (solveL (nG g) (colL (nG g) (gmP g).1 (i + 1)) (gmP g).2).getD k 0 = pt'[k] by omega]
        exact j2
    · have hkn : k = nG g := by omega
      rw [hkn] at h ⊢
      rw [show (eqZ g (i + 1)).take (nG g) = eqZ g (i + 1) from List.take_of_length_le (by omega)] at h ⊢
      rw [show pt'.take (nG g) = pt' from List.take_of_length_le (by omega), ← hmc]
      cases hm : eqB (nG g) (gmP g) (i + 1) with
      | false =>
        simp only [gw]
        exact skip (by unfold eqStep; rw [if_neg (by rw [hm]; exact Bool.false_ne_true)]) _ h.tl.tl.tl
      | true =>
      simp only [gw]
      refine Wi.eqlC (fun hs0 => ?_) fun hs0 => ?_
      · simp only [gw]
        exact skip (by unfold eqStep; rw [if_pos hm, if_pos hs0]) _ h.tl.tl.tl
      simp only [gw]
      have hf : ∀ x ∈ pt', 0 ≤ x := fun x hx => by
        rw [hm] at hmc
        exact of_decide_eq_true (List.all_eq_true.1 hmc.symm x hx)
      obtain ⟨p1, p2⟩ := eq_parts hg hnz (by rw [hP]; exact hf) hs0
      refine Wi.fieldAddr0 (Wl.get h rfl (Wl.len h (Wi.call (fnG64 (h.rd (cs := [z])) (by omega) (by omega) hza p1 p2 fun H e f => ?_))))
      have h := (h.addG f).asG (i := 0) rfl
      simp only [gw]
      have hstep : eqStep g (i + 1) (eqTo g i).1 = if (mixV g.1.length (eqZ g (i + 1))).2 = 0 then (if ((eqTo g i).1.any fun o => decide ((mixV g.1.length (eqZ g (i + 1))).1 = o)) = true then ((eqTo g i).1, 0) else ((eqTo g i).1 ++ [(mixV g.1.length (eqZ g (i + 1))).1], 0)) else ([], (mixV g.1.length (eqZ g (i + 1))).2) := by
        unfold eqStep
        rw [if_pos hm, if_neg hs0]
      have hmf := mixV_full (k := g.1.length) (z := eqZ g (i + 1))
      generalize mixV g.1.length (eqZ g (i + 1)) = mv at *
      refine Wi.neqC (fun hne => Wi.tru ?_) fun he => Wi.fls ?_
      · exact hz _ _ h.le (eqRes_bad hg (m := i + 1) (by omega) hne (by rw [hnext, hstep, if_neg hne]))
      rw [if_pos he] at hstep
      have hmf := hmf he
      have hfull := eqTo_full g i
      generalize hO : (eqTo g i).1 = out at *
      have hol : out.length ≤ 32 := by omega
      refine W.for_rule out.length (fun j st H' => H' = H ∧ st = (.bool ((out.take j).any fun o => decide (mv.1 = o)), .int .i64 (j : Nat), ())) ⟨rfl, by simp; rfl⟩ ?_
      rintro j st H' J3 hj ⟨rfl, rfl⟩ hJ3
      refine Wl.len h (Wi.lssC (fun hlt3 => Wi.tru ?_) fun hge3 => Wi.fls ?_)
      · have hjo : j < out.length := by omega
        have hI3 : I64 ((j : Int) + 1) := by unfold I64; omega
        have et : ((out.take (j + 1)).any fun o => decide (mv.1 = o)) = (((out.take j).any fun o => decide (mv.1 = o)) || decide (mv.1 = out[j])) := by
          rw [List.take_succ_eq_append_getElem hjo, List.any_append]
          simp
        generalize hg2 : ((out.take j).any fun o => decide (mv.1 = o)) = c at *
        cases c with
        | true =>
          simp only [gw]
          exact Wi.add hI3 (hJ3 _ _ hjo ⟨rfl, by rw [et]; rfl⟩)
        | false =>
          simp only [gw]
          refine Wl.at1 rfl h hjo fun u hu => Wi.call (fn90 hu.ofG1 (h.rd (cs := [e]) (r := RFG)).ofG1 (by rw [hfull _ (List.getElem_mem hjo)]; omega) ?_)
          refine Wi.add hI3 (hJ3 _ _ hjo ⟨rfl, ?_⟩)
          rw [et, Bool.false_or, show decide (out[j] = mv.1) = decide (mv.1 = out[j]) from decide_eq_decide.2 eq_comm]
          rfl
      · have hje : j = out.length := by omega
        rw [hje, List.take_length]
        cases ha : out.any fun o => decide (mv.1 = o) with
        | true =>
          rw [if_pos ha] at hstep
          refine Wi.not (Wi.fls ?_)
          unfold f23.j4
          exact skip hstep _ h.tl.tl.tl.tl
        | false =>
          rw [if_neg (by rw [ha]; exact Bool.false_ne_true)] at hstep
          refine Wi.not (Wi.tru (Wl.pushO rfl h (by decide) (h.rd (cs := [e]) (r := RFG)).ofG1.one (by omega) fun H o' h => ?_))
          unfold f23.j4 f23.j1
          refine Wi.add hI (hJ _ _ (by omega) ⟨o', rfl, ?_, ?_⟩)
          · rw [hnext, hstep]; exact h.tl.tl.tl.tl
          · rw [hnext, hstep]
  · have : i = 2 ^ nG g - 1 := by omega
    subst this
    have := hQ H o (by rw [hres]; exact (h.asData (i := 1) rfl).ret (i := 1) rfl)
    rw [hres, h0] at this
    exact this

end Go.Proofs.YtbcfknboheghkaaGreat
