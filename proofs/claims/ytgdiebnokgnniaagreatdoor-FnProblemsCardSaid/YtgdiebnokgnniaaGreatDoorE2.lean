/- The contract of the program's RenumberProblem. No condition. -/
import Derived.Test.YtgdiebnokgnniaaGreatDoorGAB
import Derived.Test.YtgdiebnokgnniaaGreatDoorGDS
import Derived.Test.YtgdiebnokgnniaaGreatDoorD7
namespace Go.Proofs.YtgdiebnokgnniaaGreatDoor
open Go.Ab

/- loop.example/g01343/impl.RenumberProblem -/
def f19.l2 (Q : Post) (v33 : Value) (v23 : Value) (v17 : Value) (list_1 : Value) (x_27 : Value) (I1 : St [27] → Heap → Prop) (I2 : St [46] → Heap → Prop) (x_46 : Value) (H : Heap) : Prop :=
  W.bin .lss x_46 v33 H fun v34 H =>
  W.cond v34 H
  (fun H => W.indexAddr 1 v23 x_46 H fun v35 H =>
   W.get v35 H fun v36 H =>
   W.fieldAddr 0 v17 H fun v37 H =>
   W.get v37 H fun v38 H =>
   W.indexAddr 1 list_1 x_27 H fun v39 H =>
   W.get v39 H fun v40 H =>
   W.indexAddr 1 v38 v40 H fun v41 H =>
   W.get v41 H fun v42 H =>
   W.indexAddr 1 list_1 x_46 H fun v43 H =>
   W.get v43 H fun v44 H =>
   W.indexAddr 1 v42 v44 H fun v45 H =>
   W.put v45 v36 H fun _ H =>
   W.bin .add x_46 (.int .i64 1) H fun v46 H =>
   I2 (v46, ()) H)
  (fun H => W.bin .add x_27 (.int .i64 1) H fun v47 H =>
   I1 (v47, ()) H)
def f19.l1 (Q : Post) (v20 : Value) (v19 : Value) (v17 : Value) (list_1 : Value) (v1 : Value) (v2 : Value) (I1 : St [27] → Heap → Prop) (x_27 : Value) (H : Heap) : Prop :=
  W.bin .lss x_27 v20 H fun v21 H =>
  W.cond v21 H
  (fun H => W.indexAddr 1 v19 x_27 H fun v22 H =>
   W.get v22 H fun v23 H =>
   W.fieldAddr 1 v17 H fun v24 H =>
   W.get v24 H fun v25 H =>
   W.indexAddr 1 list_1 x_27 H fun v26 H =>
   W.get v26 H fun v27 H =>
   W.fieldAddr 1 v1 H fun v28 H =>
   W.get v28 H fun v29 H =>
   W.indexAddr 1 v29 x_27 H fun v30 H =>
   W.get v30 H fun v31 H =>
   W.indexAddr 1 v25 v27 H fun v32 H =>
   W.put v32 v31 H fun _ H =>
   W.len v23 H fun v33 H =>
   W.loop (S := St [46]) (fun I2 s H => f19.l2 Q v33 v23 v17 list_1 x_27 I1 I2 s.1 H) ((.int .i64 0), ()) H)
  (fun H => W.getN 2 v17 H fun v48 H =>
   W.putN 2 v2 v48 H fun _ H =>
   W.getN 2 v2 H fun v49 H => Q (.tuple #[v49, (.int .i64 0)]) H)
def f19.w (Q : Post) (p_0 : Value) (list_1 : Value) (H : Heap) : Prop :=
  W.box p_0 27 H fun v1 H =>
  W.new [(.slice none 0 0), (.slice none 0 0)] 27 H fun v2 H =>
  W.getN 2 v1 H fun v3 H =>
  W.call Tryz.prog (.func (.func 11) #[] #[]) #[v3] H fun v4 H =>
  W.un .not v4 H fun v5 H =>
  W.cond v5 H
  (fun H => W.build [(.slice none 0 0), (.slice none 0 0)] [] H fun v6 H =>
   W.putN 2 v2 v6 H fun _ H =>
   W.getN 2 v2 H fun v7 H => Q (.tuple #[v7, (.int .i64 1)]) H)
  (fun H => W.fieldAddr 1 v1 H fun v8 H =>
   W.get v8 H fun v9 H =>
   W.len v9 H fun v10 H =>
   W.call Tryz.prog (.func (.func 63) #[] #[]) #[list_1, v10] H fun v11 H =>
   W.un .not v11 H fun v12 H =>
   W.cond v12 H
   (fun H => W.build [(.slice none 0 0), (.slice none 0 0)] [] H fun v13 H =>
    W.putN 2 v2 v13 H fun _ H =>
    W.getN 2 v2 H fun v14 H => Q (.tuple #[v14, (.int .i64 2)]) H)
   (fun H => W.getN 2 v1 H fun v15 H =>
    W.call Tryz.prog (.func (.func 64) #[] #[]) #[v15] H fun v16 H =>
    W.new [(.slice none 0 0), (.slice none 0 0)] 27 H fun v17 H =>
    W.putN 2 v17 v16 H fun _ H =>
    W.fieldAddr 0 v1 H fun v18 H =>
    W.get v18 H fun v19 H =>
    W.len v19 H fun v20 H =>
    W.loop (S := St [27]) (fun I1 s H => f19.l1 Q v20 v19 v17 list_1 v1 v2 I1 s.1 H) ((.int .i64 0), ()) H))
theorem f19.enter {Q : Post} {p_0 : Value} {list_1 : Value} {H : Heap} (h : f19.w Q p_0 list_1 H) : Runs Tryz.prog 19 #[p_0, list_1] H Q :=
  fn_enter (ann := [(7, [27]), (11, [46])]) (by kernel_rfl) Tryz.func19 rfl (by kernel_rfl) h (by kernel_rfl)


theorem fn19 {H0 : Heap} {Q : Post} {cs : List Value} {vl : Value} {p : Prob} {l : List Int} (hr : Has RProblem H0 cs p) (hl : Has RS H0 [vl] l) (_ : wProblem p ≤ 1048576) (_ : l.length ≤ 1048576)
    (hQ : ∀ H' cs', Fresh RProblem H0 cs' (renRes p l).1 H' → Q (.tuple #[.agg cs'.toArray, .int .i64 (renRes p l).2]) H') : Runs Tryz.prog 19 #[.agg cs.toArray, vl] H0 Q := by
  obtain ⟨u1, u2, rfl, r1, r2⟩ := hasProb hr
  refine f19.enter ?_
  unfold f19.w
  have h := ((((Loc.start H0).lent r1).lent r2).lent hl).lent hr
  refine Wl.box h fun H b h => Wl.new h fun H b2 h => Wl.getA h rfl ?_
  obtain ⟨_, q⟩ := h.rd (cs := [u1, u2])
  refine Wi.call (fn11 q fun H hle => ?_)
  have h := h.to hle
  cases hb : isProb p with
  | false =>
    simp only [g7, g10]
    refine Wi.build (cells := [.slice none 0 0, .slice none 0 0]) rfl (Wl.putA h rfl rfl rfl fun H h => Wl.getA h rfl ?_)
    have := hQ H [.slice none 0 0, .slice none 0 0]
    simp only [renRes, hb] at this
    exact this (fresh_nil2 h.le)
  | true =>
  obtain ⟨ok1, ok2, ok3, ok4, ok5, ok6⟩ := isProb_rows hb
  simp only [g8, g9]
  obtain ⟨_, ql⟩ := h.rd (cs := [vl])
  refine Wi.fieldAddr0 (Wl.get h rfl (Wl.len h (Wi.call (fn63 (by omega) ql ?_))))
  cases hO : isOrd p.2.length l with
  | false =>
    simp only [g7, g10]
    refine Wi.build (cells := [.slice none 0 0, .slice none 0 0]) rfl (Wl.putA h rfl rfl rfl fun H h => Wl.getA h rfl ?_)
    have := hQ H [.slice none 0 0, .slice none 0 0]
    simp only [renRes, hb, hO] at this
    exact this (fresh_nil2 h.le)
  | true =>
  obtain ⟨o1, o2, o3⟩ := isOrd_iff.1 hO
  have hQ' : ∀ H' cs', Fresh RProblem H0 cs' (probPut p l p.1.length) H' → Q (.tuple #[.agg cs'.toArray, .int .i64 0]) H' := fun H' cs' f => by
    have := hQ H' cs'
    simp only [renRes, hb, hO, if_true] at this
    exact this f
  clear hQ
  simp only [g8, g9]
  refine Wl.getA h rfl (Wi.call (fn64 h.rd ⟨by omega, fun r hr => by have := (ok5 r hr).1; omega⟩ (by omega) fun H w1 w2 f => ?_))
  have kc := f.read.cell
  have h := h.add2 (c1 := [w1]) (c2 := [w2]) rfl f
  refine Wl.new h fun H b3 h => Wl.putA h rfl rfl kc fun H h => ?_
  obtain ⟨us, hus, h⟩ := h.heads (i := 1) rfl rfl
  have hat : ∀ i (hi : i < l.length), ∃ a : Nat, l[i] = (a : Int) ∧ a < p.1.length := fun i hi => ⟨l[i].toNat, by have := o3 _ (List.getElem_mem hi); omega, by have := o3 _ (List.getElem_mem hi); omega⟩
  refine Wi.fieldAddr0 (Wl.get h rfl (Wl.len h ?_))
  refine W.for_rule p.1.length (fun i s H => s = (.int .i64 (i : Nat), ()) ∧ Ab.Loc H0 [.box b3 [w1, w2], .rows RS w1 us (probPut p l i).1, .data RS [w2] (probPut p l i).2, .box b2 [.slice none 0 0, .slice none 0 0], .box b [u1, u2], .lent RProblem [u1, u2] p, .lent RS [vl] l, .lent RS [u2] p.2, .lent RSS [u1] p.1] H) ⟨rfl, h⟩ ?_
  rintro i s H J hi ⟨rfl, h⟩ hJ
  obtain ⟨pl1, pl2⟩ := probPut_len p l i
  refine Wi.lssC (fun hlt => Wi.tru ?_) fun hge => Wi.fls ?_
  · have hix : i < p.1.length := by omega
    have hil : i < l.length := by omega
    have hiq : i < p.2.length := by omega
    obtain ⟨a, ea, ha⟩ := hat i hil
    have hx := ok5 _ (List.getElem_mem hix)
    have eg1 : (l.getD i 0).toNat = a := by rw [List.getD_eq_getElem?_getD, List.getElem?_eq_getElem hil, Option.getD_some, ea]; rfl
    have eg2 : p.2.getD i 0 = p.2[i] := by rw [List.getD_eq_getElem?_getD, List.getElem?_eq_getElem hiq]; rfl
    have eg3 : p.1.getD i [] = p.1[i] := by rw [List.getD_eq_getElem?_getD, List.getElem?_eq_getElem hix]; rfl
    have ha1 : a < (probPut p l i).1.length := by omega
    have ha2 : a < (probPut p l i).2.length := by omega
    have eg4 : (probPut p l i).1.getD a [] = (probPut p l i).1[a] := by rw [List.getD_eq_getElem?_getD, List.getElem?_eq_getElem ha1]; rfl
    refine Wl.atL rfl h hix fun w h => Wi.fieldAddr0 (Wl.get h rfl (Wl.atInt h hil fun _ => Wi.fieldAddr0 (Wl.get h rfl (Wl.atInt h hiq fun hq64 => ?_))))
    rw [ea]
    refine Wl.setInt h ha2 hq64 fun H h => Wl.len h ?_
    have hsucc := probPut_succ p l i
    rw [eg1, eg2, eg3, eg4] at hsucc
    obtain ⟨u, hu⟩ : ∃ u, us[a]? = some u := ⟨us[a]'(by omega), by simp⟩
    refine W.for_rule p.1[i].length (fun k s H => s = (.int .i64 (k : Nat), ()) ∧ Ab.Loc H0 [.lent RS [w] p.1[i], .box b3 [w1, w2], .rows RS w1 us ((probPut p l i).1.set a (rowPut l p.1[i] (probPut p l i).1[a] k)), .data RS [w2] ((probPut p l i).2.set a p.2[i]), .box b2 [.slice none 0 0, .slice none 0 0], .box b [u1, u2], .lent RProblem [u1, u2] p, .lent RS [vl] l, .lent RS [u2] p.2, .lent RSS [u1] p.1] H) ⟨rfl, by
      rw [rowPut_zero, List.set_getElem_self]; exact h⟩ ?_
    rintro k s H J2 hk ⟨rfl, h⟩ hJ2
    refine Wi.lssC (fun hlt => Wi.tru ?_) fun hge => Wi.fls ?_
    · have hkx : k < p.1[i].length := by omega
      have hkl : k < l.length := by omega
      obtain ⟨c, ec, hc⟩ := hat k hkl
      have ha3 : a < ((probPut p l i).1.set a (rowPut l p.1[i] (probPut p l i).1[a] k)).length := by rw [List.length_set]; exact ha1
      have hrl : (probPut p l i).1[a].length = p.1.length := probPut_rows (fun r hr => (ok5 r hr).1) i _ (List.getElem_mem ha1)
      have eS : ((probPut p l i).1.set a (rowPut l p.1[i] (probPut p l i).1[a] k))[a] = rowPut l p.1[i] (probPut p l i).1[a] k := by simp
      refine Wl.atInt h hkx fun hn64 => Wi.fieldAddr0 (Wl.get h rfl (Wl.atInt h hil fun _ => ?_))
      rw [ea]
      refine Wl.atRow rfl h ha3 fun u' hu' _ => Wl.atInt h hkl fun _ => ?_
      rw [ec]
      refine Wl.rowSet h (j := 2) rfl hu' ha3 (by rw [eS, rowPut_length]; omega) hn64 fun H h => Wi.add (by unfold I64; omega) (hJ2 _ _ hkx ⟨rfl, ?_⟩)
      rw [eS, List.set_set] at h
      have e2 : rowPut l p.1[i] (probPut p l i).1[a] (k + 1) = (rowPut l p.1[i] (probPut p l i).1[a] k).set c p.1[i][k] := by
        rw [rowPut_succ]
        congr 1
        · rw [List.getD_eq_getElem?_getD, List.getElem?_eq_getElem hkl, Option.getD_some, ec]; rfl
        · rw [List.getD_eq_getElem?_getD, List.getElem?_eq_getElem hkx]; rfl
      rw [e2]
      exact h
    · have : k = p.1[i].length := by omega
      subst this
      refine Wi.add (by unfold I64; omega) (hJ _ _ hix ⟨rfl, ?_⟩)
      rw [hsucc]
      have h := h.tl
      rw [hx.1] at h
      exact h
  · have : i = p.1.length := by omega
    subst this
    refine Wl.getA h rfl (Wl.putA h rfl rfl kc fun H h => Wl.getA h rfl (hQ' _ [w1, w2] ?_))
    exact (h.unrows (i := 1) rfl).ret2 (i := 1) (j := 2) rfl rfl (by omega)

end Go.Proofs.YtgdiebnokgnniaaGreatDoor
