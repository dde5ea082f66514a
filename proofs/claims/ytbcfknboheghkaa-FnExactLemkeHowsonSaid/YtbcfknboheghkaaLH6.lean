/- The contract of the reference's LemkeHowson. No condition. -/
import Derived.Test.YtbcfknboheghkaaLH5
import Derived.Test.YtbcfknboheghkaaMXT
import Derived.Test.YtbcfknboheghkaaGM2
namespace Go.Proofs.Ytbcfknboheghkaa
open Go.Ab

/- loop.example/g01343/spec.LemkeHowson -/
def f5.j1 (Q : Post) (k_15 : Value) (I2 : St [15] → Heap → Prop) (H : Heap) : Prop :=
  W.bin .add k_15 (.int .i64 1) H fun v63 H =>
  I2 (v63, ()) H
def f5.l2 (Q : Post) (v18 : Value) (v10 : Value) (v35 : Value) (v1 : Value) (v27 : Value) (I2 : St [15] → Heap → Prop) (k_15 : Value) (H : Heap) : Prop :=
  W.fieldAddr 2 v18 H fun v36 H =>
  W.get v36 H fun v37 H =>
  W.len v37 H fun v38 H =>
  W.bin .lss k_15 v38 H fun v39 H =>
  W.cond v39 H
  (fun H => W.fieldAddr 2 v18 H fun v40 H =>
   W.get v40 H fun v41 H =>
   W.indexAddr 1 v41 k_15 H fun v42 H =>
   W.get v42 H fun v43 H =>
   W.bin .geq v43 v10 H fun v44 H =>
   W.cond v44 H
   (fun H => W.fieldAddr 2 v18 H fun v45 H =>
    W.get v45 H fun v46 H =>
    W.indexAddr 1 v46 k_15 H fun v47 H =>
    W.get v47 H fun v48 H =>
    W.bin .sub v48 v10 H fun v49 H =>
    W.fieldAddr 0 v18 H fun v50 H =>
    W.get v50 H fun v51 H =>
    W.indexAddr 1 v51 k_15 H fun v52 H =>
    W.get v52 H fun v53 H =>
    W.fieldAddr 0 v18 H fun v54 H =>
    W.get v54 H fun v55 H =>
    W.indexAddr 1 v55 k_15 H fun v56 H =>
    W.get v56 H fun v57 H =>
    W.len v57 H fun v58 H =>
    W.bin .sub v58 (.int .i64 1) H fun v59 H =>
    W.indexAddr 1 v53 v59 H fun v60 H =>
    W.get v60 H fun v61 H =>
    W.indexAddr 1 v35 v49 H fun v62 H =>
    W.put v62 v61 H fun _ H =>
    f5.j1 Q k_15 I2 H)
   (fun H => f5.j1 Q k_15 I2 H))
  (fun H => W.fieldAddr 0 v1 H fun v64 H =>
   W.get v64 H fun v65 H =>
   W.len v65 H fun v66 H =>
   W.call Try.prog (.func (.func 21) #[] #[]) #[v35, v66] H fun v67 H =>
   W.extract 0 v67 H fun v68 H =>
   W.extract 1 v67 H fun v69 H =>
   W.bin .neq v69 (.int .i64 0) H fun v70 H =>
   W.cond v70 H
   (fun H => Q (.tuple #[(.slice none 0 0), (.int .i64 0), v69]) H)
   (fun H => Q (.tuple #[v68, v27, (.int .i64 0)]) H))
def f5.l1 (Q : Post) (v18 : Value) (a_1 : Value) (v10 : Value) (v1 : Value) (I1 : St [10, 11] → Heap → Prop) (enter_10 : Value) (steps_11 : Value) (H : Heap) : Prop :=
  W.getN 3 v18 H fun v19 H =>
  W.call Try.prog (.func (.func 18) #[] #[]) #[v19, enter_10] H fun v20 H =>
  W.fieldAddr 2 v18 H fun v21 H =>
  W.get v21 H fun v22 H =>
  W.indexAddr 1 v22 v20 H fun v23 H =>
  W.get v23 H fun v24 H =>
  W.getN 3 v18 H fun v25 H =>
  W.call Try.prog (.func (.func 19) #[] #[]) #[v25, v20, enter_10] H fun v26 H =>
  W.putN 3 v18 v26 H fun _ H =>
  W.bin .add steps_11 (.int .i64 1) H fun v27 H =>
  W.bin .eql v24 a_1 H fun v28 H =>
  W.guarded v28 false (fun H k => k v24 H) H fun v29 H =>
  W.guarded v28 false (fun H k => k v10 H) H fun v30 H =>
  W.guarded v28 false (fun H k => k a_1 H) H fun v31 H =>
  W.guarded v28 false (fun H k => W.bin .add v30 v31 H k) H fun v32 H =>
  W.guarded v28 false (fun H k => W.bin .eql v29 v32 H k) H fun v33 H =>
  W.pick v28 (.bool true) v33 H fun v34 H =>
  W.cond v34 H
  (fun H => W.make [(.int .i64 0)] 2 v10 v10 H fun v35 H =>
   W.loop (S := St [15]) (fun I2 s H => f5.l2 Q v18 v10 v35 v1 v27 I2 s.1 H) ((.int .i64 0), ()) H)
  (fun H => W.bin .eql v27 (.int .i64 200) H fun v71 H =>
   W.cond v71 H
   (fun H => Q (.tuple #[(.slice none 0 0), (.int .i64 0), (.int .i64 3)]) H)
   (fun H => W.call Try.prog (.func (.func 20) #[] #[]) #[v24, v10] H fun v72 H =>
    I1 (v72, v27, ()) H))
def f5.w (Q : Post) (g_0 : Value) (a_1 : Value) (H : Heap) : Prop :=
  W.box g_0 29 H fun v1 H =>
  W.getN 2 v1 H fun v2 H =>
  W.call Try.prog (.func (.func 14) #[] #[]) #[v2] H fun v3 H =>
  W.un .not v3 H fun v4 H =>
  W.cond v4 H
  (fun H => Q (.tuple #[(.slice none 0 0), (.int .i64 0), (.int .i64 1)]) H)
  (fun H => W.getN 2 v1 H fun v5 H =>
   W.call Try.prog (.func (.func 15) #[] #[]) #[v5] H fun v6 H =>
   W.new [(.slice none 0 0), (.slice none 0 0)] 40 H fun v7 H =>
   W.putN 2 v7 v6 H fun _ H =>
   W.fieldAddr 1 v7 H fun v8 H =>
   W.get v8 H fun v9 H =>
   W.len v9 H fun v10 H =>
   W.bin .sub v10 (.int .i64 1) H fun v11 H =>
   W.call Try.prog (.func (.func 16) #[] #[]) #[a_1, (.int .i64 0), v11] H fun v12 H =>
   W.un .not v12 H fun v13 H =>
   W.cond v13 H
   (fun H => Q (.tuple #[(.slice none 0 0), (.int .i64 0), (.int .i64 2)]) H)
   (fun H => W.getN 2 v7 H fun v14 H =>
    W.lit 0 [(.int .i64 0)] 2 [] H fun v15 H =>
    W.call Try.prog (.func (.func 17) #[] #[]) #[v14, v15] H fun v16 H =>
    W.bin .add v10 a_1 H fun v17 H =>
    W.new [(.slice none 0 0), (.int .i64 0), (.slice none 0 0)] 44 H fun v18 H =>
    W.putN 3 v18 v16 H fun _ H =>
    W.loop (S := St [10, 11]) (fun I1 s H => f5.l1 Q v18 a_1 v10 v1 I1 s.1 s.2.1 H) (v17, (.int .i64 0), ()) H))
theorem f5.enter {Q : Post} {g_0 : Value} {a_1 : Value} {H : Heap} (h : f5.w Q g_0 a_1 H) : Runs Try.prog 5 #[g_0, a_1] H Q :=
  fn_enter (ann := [(8, [10, 11]), (18, [15])]) (by kernel_rfl) Try.func5 rfl (by kernel_rfl) h (by kernel_rfl)


theorem fn5 {H0 : Heap} {Q : Post} {cs : List Value} {g : Game} {a : Int} (hr : Has RGame H0 cs g) (ha : I64 a) (hw : wGame g ≤ 1048576) (hQ : ∀ H' u, Fresh RFS H0 [u] (lhRes g a).1 H' → Q (.tuple #[u, .int .i64 (lhRes g a).2.1, .int .i64 (lhRes g a).2.2]) H') :
    Runs Try.prog 5 #[.agg cs.toArray, .int .i64 a] H0 Q := by
  obtain ⟨u1, u2, rfl, r1, r2⟩ := hasGame hr
  have hz : ∀ H c, H0.Le H → lhRes g a = ([], 0, c) → Q (.tuple #[.slice none 0 0, .int .i64 0, .int .i64 c]) H := fun H c l e => by
    have := hQ H (.slice none 0 0) (by rw [e]; exact fresh_nil l)
    rw [e] at this
    exact this
  have h := ((Loc.start H0).lent r1).lent hr
  refine f5.enter ?_
  unfold f5.w
  refine Wl.box (cs := [u1, u2]) h fun H b1 h => Wl.getA (b := b1) h rfl (Wi.call (fn14 (h.rd (cs := [u1, u2]) (x := g)) hw fun H t l ht => ?_))
  have h := h.to l
  cases t with
  | false =>
    simp only [gw]
    exact hz _ _ h.le (by unfold lhRes; rw [if_neg (fun q => Bool.noConfusion (ht.2 q))])
  | true =>
  have hg := ht.1 rfl
  have k1 := hg.k1
  have hnn : nG g = g.1.length + lw g := rfl
  have n5 : nG g ≤ 5 := hg.kl
  have hql : (gmP g).2.length = nG g := by simp [gmP]
  simp only [gw]
  refine Wl.getA (b := b1) h rfl (Wi.call (fn15 (h.rd (cs := [u1, u2]) (x := g)) hg fun H w1 w2 f => ?_))
  have h := h.add f
  have kp := (h.rd (cs := [w1, w2]) (r := RProblem) (x := gmP g)).cell
  have hq2 : Has RS H [w2] (gmP g).2 := by
    obtain ⟨y1, y2, e, _, q2⟩ := hasProb (h.rd (cs := [w1, w2]) (r := RProblem) (x := gmP g))
    cases e
    exact q2
  refine Wl.new h fun H7 b7 h => Wl.putA (b := b7) (i := 0) h rfl rfl kp fun H7 h => ?_
  have hq2 : Has RS H7 [w2] (gmP g).2 := by
    obtain ⟨y1, y2, e, _, q2⟩ := hasProb (h.rd (cs := [w1, w2]) (r := RProblem) (x := gmP g))
    cases e
    exact q2
  refine Wi.fieldAddr (Wl.get (b := b7) (o := 1) h rfl (Wl.lenH hq2 ?_))
  rw [hql]
  refine Wi.sub (by unfold I64; omega) (Wi.call (fn16 ?_))
  cases hin : inR 0 ((nG g : Nat) - 1 : Int) a with
  | false =>
    simp only [gw]
    refine hz _ _ h.le ?_
    unfold lhRes
    rw [if_pos hg, if_neg fun q => ?_]
    have : inR 0 ((nG g : Nat) - 1 : Int) a = true := inR_iff.2 ⟨q.1, by omega⟩
    rw [hin] at this
    cases this
  | true =>
  have hin := inR_iff.1 hin
  obtain ⟨a, rfl⟩ : ∃ k : Nat, a = (k : Int) := ⟨a.toNat, by omega⟩
  have han : a < nG g := by omega
  simp only [gw]
  refine Wl.getA (b := b7) h rfl (Wl.lit0 (ty := 2) Rd.int rfl h fun H vc h => ?_)
  have h := h.asData (i := 0) rfl
  have h : Ab.Loc H0 [.data RS [vc] [], .box b7 [w1, w2], .data RProblem [w1, w2] (gmP g), .box b1 [u1, u2], .lent RGame [u1, u2] g, .lent RSS [u1] g.1] H := h
  refine Wi.call (fn17 hg (h.rd (cs := [w1, w2]) (x := gmP g)) (h.rd (cs := [vc]) (x := ([] : List Int))) fun H u w k => ?_)
  have h : Ab.Loc H0 [.data RSS [u] (lhRows0 g), .data RS [w] (bas0 (nG g)), .data RS [vc] [], .box b7 [w1, w2], .data RProblem [w1, w2] (gmP g), .box b1 [u1, u2], .lent RGame [u1, u2] g, .lent RSS [u1] g.1] H := h.join (M' := [.data RSS [u] (lhRows0 g), .data RS [w] (bas0 (nG g))]) k fun j a hj => by
    match j, hj with
    | 0, hj => simp at hj; subst hj; exact ⟨_, rfl, fun bs h => h⟩
    | 1, hj => simp at hj; subst hj; exact ⟨_, rfl, fun bs h => h⟩
    | j + 2, hj => simp at hj
  have h := h.cut 2
  have cells : ∀ {H : Heap} {L : List (Atom H0.next)} {u w : Value} {rows : List (List Int)} {bas : List Int} {d : Int}, Ab.Loc H0 (.data RSS [u] rows :: .data RS [w] bas :: L) H → [u, .int .i64 d, w].all isCell = true := fun {H L u w rows bas d} h => by
    have k3 := (h.rd (cs := [u]) (r := RSS) (x := rows)).cell1
    have k4 := (h.tl.rd (cs := [w]) (r := RS) (x := bas)).cell1
    rw [List.all_cons, List.all_cons, List.all_cons, List.all_nil, k3, k4]
    rfl
  refine Wi.add (by unfold I64; omega) (Wl.new h fun H b h => Wl.putA (b := b) (i := 0) h rfl rfl (cells h.tl) fun H h => ?_)
  have h : Ab.Loc H0 [.box b [u, .int .i64 (lhIt g a 0).den, w], .data RSS [u] (lhIt g a 0).rows, .data RS [w] (lhIt g a 0).bas, .box b7 [w1, w2], .data RProblem [w1, w2] (gmP g), .box b1 [u1, u2], .lent RGame [u1, u2] g, .lent RSS [u1] g.1] H := h
  have inv := lh_inv hg han
  rw [show ((nG g : Nat) : Int) + ((a : Nat) : Int) = (((lhIt g a 0).v : Nat) : Int) by show _ = ((nG g + a : Nat) : Int); omega]
  refine W.for_rule 200 (fun m st H => ∃ u w, st = (.int .i64 ((lhIt g a m).v : Nat), .int .i64 (m : Nat), ()) ∧ m < 200 ∧ (∀ j, j < m → ¬ lhEnd g a j) ∧ Ab.Loc H0 [.box b [u, .int .i64 (lhIt g a m).den, w], .data RSS [u] (lhIt g a m).rows, .data RS [w] (lhIt g a m).bas, .box b7 [w1, w2], .data RProblem [w1, w2] (gmP g), .box b1 [u1, u2], .lent RGame [u1, u2] g, .lent RSS [u1] g.1] H) ⟨u, w, rfl, by omega, fun j hj => by omega, h⟩ ?_
  rintro m st H J hm ⟨u, w, rfl, hm2, hno, h⟩ hJ
  unfold f5.l1
  generalize htop : (200 : Int) = top
  have hI := inv m
  have hT := hI.rowsT hg
  obtain ⟨hl, hle2⟩ := hI.least hg
  have hv2 := hI.vl
  have hrb : lhRow (nG g) (lhIt g a m) < (lhIt g a m).bas.length := by rw [hI.bl]; exact hl.lt
  have hlb : lhLeft (nG g) (lhIt g a m) < 2 * nG g := (hI.bas hl.lt).2
  have eleft : (lhIt g a m).bas[lhRow (nG g) (lhIt g a m)] = ((lhLeft (nG g) (lhIt g a m) : Nat) : Int) := by
    rw [← atD hrb]
    exact (hI.bas hl.lt).1
  refine Wl.getA (b := b) h rfl (Wi.call (fn18 (h.rd (cs := [u]) (r := RSS) (x := (lhIt g a m).rows)) hT (v := (lhIt g a m).v) (by omega) fun H l => ?_))
  have h := h.to l
  rw [hle2]
  refine Wi.fieldAddr (Wl.get (b := b) (o := 2) h rfl (Wl.atIntH (h.rd (cs := [w]) (r := RS) (x := (lhIt g a m).bas)) hrb fun _ => ?_))
  rw [eleft]
  refine Wl.getA (b := b) h rfl (Wi.call (fn19 hg hI (h.rd (cs := [u]) (r := RSS) (x := (lhIt g a m).rows)) (h.rd (cs := [w]) (r := RS) (x := (lhIt g a m).bas)) fun H u' w' k => ?_))
  have h : Ab.Loc H0 [.data RSS [u'] (lhIt g a (m + 1)).rows, .data RS [w'] (lhIt g a (m + 1)).bas, .box b [u, .int .i64 (lhIt g a m).den, w], .data RSS [u] (lhIt g a m).rows, .data RS [w] (lhIt g a m).bas, .box b7 [w1, w2], .data RProblem [w1, w2] (gmP g), .box b1 [u1, u2], .lent RGame [u1, u2] g, .lent RSS [u1] g.1] H := h.join (M' := [.data RSS [u'] (lhIt g a (m + 1)).rows, .data RS [w'] (lhIt g a (m + 1)).bas]) k fun j a' hj => by
    match j, hj with
    | 0, hj => simp at hj; subst hj; exact ⟨_, rfl, fun bs h => h⟩
    | 1, hj => simp at hj; subst hj; exact ⟨_, rfl, fun bs h => h⟩
    | j + 2, hj => simp at hj
  refine Wl.putA (b := b) (i := 2) h rfl rfl (cells (d := (lhIt g a (m + 1)).den) h) fun H h => ?_
  have h : Ab.Loc H0 [.data RSS [u'] (lhIt g a (m + 1)).rows, .data RS [w'] (lhIt g a (m + 1)).bas, .box b [u', .int .i64 (lhIt g a (m + 1)).den, w'], .data RSS [u] (lhIt g a m).rows, .data RS [w] (lhIt g a m).bas, .box b7 [w1, w2], .data RProblem [w1, w2] (gmP g), .box b1 [u1, u2], .lent RGame [u1, u2] g, .lent RSS [u1] g.1] H := h
  have h : Ab.Loc H0 [.box b [u', .int .i64 (lhIt g a (m + 1)).den, w'], .data RSS [u'] (lhIt g a (m + 1)).rows, .data RS [w'] (lhIt g a (m + 1)).bas, .box b7 [w1, w2], .data RProblem [w1, w2] (gmP g), .box b1 [u1, u2], .lent RGame [u1, u2] g, .lent RSS [u1] g.1] H := ((h.cut 3).cut 3).front 2 rfl
  have hI2 := inv (m + 1)
  refine Wi.add (by unfold I64; omega) ?_
  rw [show ((m : Nat) : Int) + 1 = ((m + 1 : Nat) : Int) by omega]
  by_cases hend : lhEnd g a m
  · have hres := lhRes_some hg han hm2 hno hend
    obtain ⟨s1, s2⟩ := lh_parts hg han hno hend
    have hzl := zOf_len (nG g) (lhIt g a (m + 1))
    have hza : ∀ x ∈ zOf (nG g) (lhIt g a (m + 1)), x.natAbs ≤ 1920000000 := fun x hx => by have := (zOf_abs hg hI2 x hx).2; omega
    have go : W.make [.int .i64 0] 2 (.int .i64 (nG g : Nat)) (.int .i64 (nG g : Nat)) H fun v35 H => W.loop (S := St [15]) (fun I2 s H => f5.l2 Q (pt b 0) (.int .i64 (nG g : Nat)) v35 (pt b1 0) (.int .i64 ((m + 1 : Nat) : Int)) I2 s.1 H) ((.int .i64 0), ()) H := by
      refine Wl.make (r := Rd.int) (z := 0) (m := nG g) (fun _ => ⟨rfl, rfl, by unfold I64; omega⟩) h (by omega) (by decide) fun H v h => ?_
      have hT2 := hI2.rowsT hg
      have hbas := fun k (hk : k < nG g) => hI2.bas hk
      have hbl := hI2.bl
      refine W.for_rule (nG g) (fun i st H => st = (.int .i64 (i : Nat), ()) ∧ Ab.Loc H0 [.grow Rd.int 2 v (zTo (nG g) (lhIt g a (m + 1)) i), .box b [u', .int .i64 (lhIt g a (m + 1)).den, w'], .data RSS [u'] (lhIt g a (m + 1)).rows, .data RS [w'] (lhIt g a (m + 1)).bas, .box b7 [w1, w2], .data RProblem [w1, w2] (gmP g), .box b1 [u1, u2], .lent RGame [u1, u2] g, .lent RSS [u1] g.1] H) ⟨rfl, h⟩ ?_
      rintro i st H J2 hi ⟨rfl, h⟩ hJ2
      refine Wi.fieldAddr (Wl.get (b := b) (o := 2) h rfl (Wl.lenH (h.rd (cs := [w']) (r := RS) (x := (lhIt g a (m + 1)).bas)) ?_))
      rw [hbl]
      refine Wi.lssC (fun hlt => Wi.tru ?_) fun hge => Wi.fls ?_
      · have hin : i < nG g := by omega
        have hib : i < (lhIt g a (m + 1)).bas.length := by omega
        have hir : i < (lhIt g a (m + 1)).rows.length := by rw [hT2.rl]; exact hin
        have hrw := hT2.rw _ (List.getElem_mem hir)
        obtain ⟨e1, e2⟩ := hbas i hin
        have eb : (lhIt g a (m + 1)).bas[i] = ((basF (lhIt g a (m + 1)) i : Nat) : Int) := by rw [← e1, atD hib]
        have hab := hT2.ab i (2 * nG g) hin (by omega)
        have hzt := zTo_len (nG g) (lhIt g a (m + 1)) i
        refine Wi.fieldAddr (Wl.get (b := b) (o := 2) h rfl (Wl.atIntH (h.rd (cs := [w']) (r := RS) (x := (lhIt g a (m + 1)).bas)) hib fun _ => ?_))
        rw [eb]
        refine Wi.geqC (fun hc => Wi.tru ?_) fun hc => Wi.fls ?_
        · refine Wi.fieldAddr (Wl.get (b := b) (o := 2) h rfl (Wl.atIntH (h.rd (cs := [w']) (r := RS) (x := (lhIt g a (m + 1)).bas)) hib fun _ => ?_))
          rw [eb]
          refine Wi.sub (by unfold I64; omega) (Wi.fieldAddr0 (Wl.get (b := b) h rfl (Wl.at1H rfl (h.rd (cs := [u']) (r := RSS) (x := (lhIt g a (m + 1)).rows)) hir fun r hr => Wi.fieldAddr0 (Wl.get (b := b) h rfl (Wl.at1H rfl (h.rd (cs := [u']) (r := RSS) (x := (lhIt g a (m + 1)).rows)) hir fun r2 hr2 => Wl.lenH hr2 (Wi.sub (by unfold I64; omega) ?_))))))
          rw [hrw, show ((2 * nG g + 1 : Nat) : Int) - 1 = ((2 * nG g : Nat) : Int) by omega, show ((basF (lhIt g a (m + 1)) i : Nat) : Int) - ((nG g : Nat) : Int) = ((basF (lhIt g a (m + 1)) i - nG g : Nat) : Int) by omega]
          refine Wl.atIntH hr (i := 2 * nG g) (by omega) fun _ => ?_
          rw [hT2.at]
          refine Wl.setG (v := v) (j := 0) h (i := basF (lhIt g a (m + 1)) i - nG g) (by omega) (by unfold I64; omega) fun H h => ?_
          unfold f5.j1
          refine Wi.add (by unfold I64; omega) (hJ2 _ _ hin ⟨rfl, ?_⟩)
          unfold zTo
          rw [if_pos (by omega)]
          exact h
        · unfold f5.j1
          refine Wi.add (by unfold I64; omega) (hJ2 _ _ hin ⟨rfl, ?_⟩)
          unfold zTo
          rw [if_neg (by omega)]
          exact h
      · have hin : i = nG g := by omega
        subst hin
        have h := h.asData (i := 0) rfl
        have h : Ab.Loc H0 [.data RS [v] (zOf (nG g) (lhIt g a (m + 1))), .box b [u', .int .i64 (lhIt g a (m + 1)).den, w'], .data RSS [u'] (lhIt g a (m + 1)).rows, .data RS [w'] (lhIt g a (m + 1)).bas, .box b7 [w1, w2], .data RProblem [w1, w2] (gmP g), .box b1 [u1, u2], .lent RGame [u1, u2] g, .lent RSS [u1] g.1] H := h
        refine Wi.fieldAddr0 (Wl.get (b := b1) h rfl (Wl.len (v := u1) (xs := g.1) h ?_))
        refine Wi.call (fn21 (h.rd (cs := [v]) (x := zOf (nG g) (lhIt g a (m + 1)))) (by omega) (by omega) hza s1 s2 fun H x f => ?_)
        have h := h.add f
        simp only [gw]
        refine Wi.neqC (fun hne => Wi.tru ?_) fun he => Wi.fls ?_
        · exact hz _ _ h.le (by rw [hres, if_neg hne])
        · have := hQ H x (by rw [hres, if_pos he]; exact h.ret (i := 0) rfl)
          rw [hres, if_pos he] at this
          exact this
    by_cases e1 : lhLeft (nG g) (lhIt g a m) = a
    · refine Wi.eqlC (fun _ => ?_) fun q => absurd (by rw [e1]) q
      simp only [gw]
      exact go
    · have e2 := hend.resolve_left e1
      refine Wi.eqlC (fun q => absurd (by omega) e1) fun _ => ?_
      simp only [gw]
      refine Wi.add (by unfold I64; omega) (Wi.eqlC (fun _ => ?_) fun q => absurd (by rw [e2]; omega) q)
      simp only [gw]
      exact go
  · refine Wi.eqlC (fun q => absurd (.inl (by omega)) hend) fun _ => ?_
    simp only [gw]
    refine Wi.add (by unfold I64; omega) (Wi.eqlC (fun q => absurd (.inr (by omega)) hend) fun _ => ?_)
    simp only [gw]
    have hno2 : ∀ j, j < m + 1 → ¬ lhEnd g a j := fun j hj => by
      by_cases c : j = m
      · subst c; exact hend
      · exact hno j (by omega)
    refine Wi.eqlC (fun q => Wi.tru ?_) fun q => Wi.fls ?_
    · have hm3 : m + 1 = 200 := by omega
      rw [hm3] at hno2
      exact hz _ _ h.le (lhRes_none hg han hno2)
    · refine Wi.call (fn20 n5 hlb ?_)
      exact hJ _ _ hm2 ⟨u', w', rfl, by omega, hno2, h⟩

end Go.Proofs.Ytbcfknboheghkaa
