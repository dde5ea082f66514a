/- The contracts of total, mixes and EquilibriaBySets, the program's. No condition. -/
import Derived.Test.YtbcfknboheghkaaGreatPAL
import Derived.Test.YtbcfknboheghkaaGreatGGM
import Derived.Test.YtbcfknboheghkaaGreatEB0
import Derived.Test.YtbcfknboheghkaaGreatGVV
import Derived.Test.YtbcfknboheghkaaGreatV3
import Derived.Test.YtbcfknboheghkaaGreatGQQ
namespace Go.Proofs.YtbcfknboheghkaaGreat
open Go.Ab

/- loop.example/g01343/impl.EquilibriaBySets -/
def f22.j1 (Q : Post) (s_6 : Value) (I1 : St [5, 6] → Heap → Prop) (out_5' : Value) (H : Heap) : Prop :=
  W.bin .add s_6 (.int .i64 1) H fun v21 H =>
  I1 (out_5', v21, ()) H
def f22.j2 (Q : Post) (s_6 : Value) (I1 : St [5, 6] → Heap → Prop) (out_5'' : Value) (H : Heap) : Prop :=
  f22.j1 Q s_6 I1 out_5'' H
def f22.l1 (Q : Post) (v7 : Value) (v1 : Value) (I1 : St [5, 6] → Heap → Prop) (out_5 : Value) (s_6 : Value) (H : Heap) : Prop :=
  W.getN 2 v7 H fun v8 H =>
  W.call Tryz.prog (.func (.func 80) #[] #[]) #[v8] H fun v9 H =>
  W.bin .lss s_6 v9 H fun v10 H =>
  W.cond v10 H
  (fun H => W.getN 2 v7 H fun v11 H =>
   W.call Tryz.prog (.func (.func 81) #[] #[]) #[v11, s_6] H fun v12 H =>
   W.extract 0 v12 H fun v13 H =>
   W.extract 1 v12 H fun v14 H =>
   W.extract 2 v12 H fun v15 H =>
   W.un .not v15 H fun v16 H =>
   W.guarded v16 false (fun H k => k v13 H) H fun v17 H =>
   W.guarded v16 false (fun H k => W.call Tryz.prog (.func (.func 82) #[] #[]) #[v17] H k) H fun v18 H =>
   W.guarded v16 false (fun H k => W.un .not v18 H k) H fun v19 H =>
   W.pick v16 (.bool true) v19 H fun v20 H =>
   W.cond v20 H
   (fun H => f22.j1 Q s_6 I1 out_5 H)
   (fun H => W.call Tryz.prog (.func (.func 83) #[] #[]) #[v13, s_6] H fun v22 H =>
    W.call Tryz.prog (.func (.func 84) #[] #[]) #[v22] H fun v23 H =>
    W.bin .eql v23 (.int .i64 0) H fun v24 H =>
    W.cond v24 H
    (fun H => f22.j1 Q s_6 I1 out_5 H)
    (fun H => W.getN 2 v1 H fun v25 H =>
     W.call Tryz.prog (.func (.func 54) #[] #[]) #[v25, v22] H fun v26 H =>
     W.extract 0 v26 H fun v27 H =>
     W.extract 1 v26 H fun v28 H =>
     W.new [(.slice none 0 0)] 29 H fun v29 H =>
     W.put v29 v27 H fun _ H =>
     W.bin .neq v28 (.int .i64 0) H fun v30 H =>
     W.cond v30 H
     (fun H => Q (.tuple #[(.slice none 0 0), v28]) H)
     (fun H => W.call Tryz.prog (.func (.func 85) #[] #[]) #[out_5, (.func (.func 86) #[] #[v29])] H fun v31 H =>
      W.un .not v31 H fun v32 H =>
      W.cond v32 H
      (fun H => W.get v29 H fun v33 H =>
       W.lit 1 [(.slice none 0 0)] 29 [(0, 1, v33)] H fun v34 H =>
       W.append 1 29 out_5 v34 H fun v35 H =>
       f22.j2 Q s_6 I1 v35 H)
      (fun H => f22.j2 Q s_6 I1 out_5 H)))))
  (fun H => Q (.tuple #[out_5, (.int .i64 0)]) H)
def f22.w (Q : Post) (g_0 : Value) (H : Heap) : Prop :=
  W.box g_0 26 H fun v1 H =>
  W.getN 2 v1 H fun v2 H =>
  W.call Tryz.prog (.func (.func 28) #[] #[]) #[v2] H fun v3 H =>
  W.un .not v3 H fun v4 H =>
  W.cond v4 H
  (fun H => Q (.tuple #[(.slice none 0 0), (.int .i64 1)]) H)
  (fun H => W.getN 2 v1 H fun v5 H =>
   W.call Tryz.prog (.func (.func 51) #[] #[]) #[v5] H fun v6 H =>
   W.new [(.slice none 0 0), (.slice none 0 0)] 43 H fun v7 H =>
   W.putN 2 v7 v6 H fun _ H =>
   W.loop (S := St [5, 6]) (fun I1 s H => f22.l1 Q v7 v1 I1 s.1 s.2.1 H) ((.slice none 0 0), (.int .i64 1), ()) H)
theorem f22.enter {Q : Post} {g_0 : Value} {H : Heap} (h : f22.w Q g_0 H) : Runs Tryz.prog 22 #[g_0] H Q :=
  fn_enter (ann := [(6, [5, 6])]) (by kernel_rfl) Tryz.func22 rfl (by kernel_rfl) h (by kernel_rfl)

/- loop.example/g01343/impl.EquilibriaBySets$1 -/
def f86.w (Q : Post) (other_0 : Value) (x_1 : Value) (H : Heap) : Prop :=
  W.get x_1 H fun v1 H =>
  W.call Tryz.prog (.func (.func 87) #[] #[]) #[v1, other_0] H fun v2 H =>
  Q v2 H
theorem f86.enter {Q : Post} {other_0 : Value} {x_1 : Value} {H : Heap} (h : f86.w Q other_0 x_1 H) : Runs Tryz.prog 86 #[other_0, x_1] H Q :=
  fn_enter (ann := []) (by kernel_rfl) Tryz.func86 rfl (by kernel_rfl) h (by kernel_rfl)


theorem eqTo_next {g : Game} {m : Nat} (h : (eqTo g m).2 = 0) : eqTo g (m + 1) = eqStep g (m + 1) (eqTo g m).1 := by
  show (if (eqTo g m).2 = 0 then eqStep g (m + 1) (eqTo g m).1 else eqTo g m) = _
  rw [if_pos h]

theorem eqRes_bad {g : Game} (hg : IsGm g) {m : Nat} {c : Int} (hm : m ≤ 2 ^ nG g - 1) (hc : c ≠ 0) (h : eqTo g m = ([], c)) : eqRes g = ([], c) := by
  unfold eqRes
  rw [if_pos hg]
  have := eqTo_bad (g := g) (m := m) (by rw [h]; exact hc) (2 ^ nG g - 1 - m)
  rw [show m + (2 ^ nG g - 1 - m) = 2 ^ nG g - 1 by omega] at this
  rw [this, h]

/-- Rows of which the size of the elements is known. -/
abbrev RFG : Rd (List Frac) := Rd.gslice RFrac 39

theorem fnG22 {H0 : Heap} {Q : Post} {cs : List Value} {g : Game} (hr : Has RGame H0 cs g) (hw : wGame g ≤ 1048576) (hQ : ∀ H' u, Fresh (Rd.slice RFG) H0 [u] (eqRes g).1 H' → Q (.tuple #[u, .int .i64 (eqRes g).2]) H') : Runs Tryz.prog 22 #[.agg cs.toArray] H0 Q := by
  have hlen := hr.len
  have hz : ∀ H c, H0.Le H → eqRes g = ([], c) → Q (.tuple #[.slice none 0 0, .int .i64 c]) H := fun H c l e => by
    have := hQ H (.slice none 0 0) (by rw [e]; exact fresh_nil l)
    rw [e] at this
    exact this
  have h := (Loc.start H0).lent hr
  refine f22.enter ?_
  unfold f22.w
  refine Wl.box h fun H b h => Wl.getA h hlen (Wi.call (fn28 (h.rd (cs := cs)) hw fun H t l ht => ?_))
  have h := h.to l
  cases t with
  | false =>
    simp only [gw]
    exact hz _ _ h.le (by unfold eqRes; rw [if_neg (fun g => Bool.noConfusion (ht.2 g))])
  | true =>
  have hg := ht.1 rfl
  have hpb := gm_pb hg
  have hn5 : nG g ≤ 5 := hg.kl
  have h32 := pow5 hn5
  have hql : (gmP g).2.length = nG g := hpb.ql
  have hres : eqRes g = eqTo g (2 ^ nG g - 1) := by unfold eqRes; rw [if_pos hg]
  simp only [gw]
  refine Wl.getA h hlen (Wi.call (fn51 (h.rd (cs := cs)) hg fun H w1 w2 f => ?_))
  have h := h.add f
  refine Wl.new h fun H b7 h => Wl.putA h rfl (h.rd (cs := [w1, w2])).len (h.rd (cs := [w1, w2])).cell fun H h => ?_
  have hp1 : 1 ≤ 2 ^ nG g := Nat.one_le_two_pow
  refine W.for_rule (2 ^ nG g - 1) (fun i st H => ∃ o, st = (o, .int .i64 ((i + 1 : Nat) : Int), ()) ∧ Ab.Loc H0 [.grow RFG 29 o (eqTo g i).1, .box b7 [w1, w2], .data RProblem [w1, w2] (gmP g), .box b cs, .lent RGame cs g] H ∧ (eqTo g i).2 = 0) ⟨_, rfl, h.nilG RFG 29, rfl⟩ ?_
  rintro i st H J hi ⟨o, rfl, h, h0⟩ hJ
  refine Wl.getA h rfl (Wi.call (f80.enter (Wl.box h fun H b4 h => Wi.fieldAddr (Wl.get h rfl ?_))))
  obtain ⟨y1, y2, ey, _, q2⟩ := hasProb (h.rd (cs := [w1, w2]))
  cases ey
  refine Wl.lenH q2 (Wi.shl1 (by omega) ?_)
  have h := h.tl
  rw [hql]
  have hlo := eqTo_len g i
  refine Wi.lssC (fun hlt => Wi.tru ?_) fun hge => Wi.fls ?_
  · have hiN : i + 1 < 2 ^ nG g := by omega
    have hI : I64 (((i + 1 : Nat) : Int) + 1) := by unfold I64; omega
    have hnext := eqTo_next h0
    have skip : eqStep g (i + 1) (eqTo g i).1 = ((eqTo g i).1, 0) → ∀ H, Ab.Loc H0 [.grow RFG 29 o (eqTo g i).1, .box b7 [w1, w2], .data RProblem [w1, w2] (gmP g), .box b cs, .lent RGame cs g] H → f22.j1 Q (.int .i64 ((i + 1 : Nat) : Int)) J o H := fun e H h => by
      unfold f22.j1
      refine Wi.add hI (hJ _ _ (by omega) ⟨o, rfl, ?_, ?_⟩)
      · rw [hnext, e]; exact h
      · rw [hnext, e]
    refine Wl.getA h rfl (Wi.call (fn81 (n := nG g) (h.rd (cs := [w1, w2])) hpb (by omega) (fun hz0 H l => ?_) fun hnz H w f => ?_))
    · have h := h.to l
      simp only [gw]
      exact skip (by unfold eqStep; rw [if_neg (by rw [eqB_no hz0]; exact Bool.false_ne_true)]) _ h
    · have h := h.add f
      simp only [gw]
      refine Wi.call (fn82 (h.rd (cs := [w])) fun H t l ht => ?_)
      have h := h.to l
      have hm : eqB (nG g) (gmP g) (i + 1) = t := by
        rw [eqB_of hnz, Bool.eq_iff_iff, List.all_eq_true]
        show _ ↔ t = true
        rw [ht]
        simp [ptOf]
      cases t with
      | false =>
        simp only [gw]
        exact skip (by unfold eqStep; rw [if_neg (by rw [hm]; exact Bool.false_ne_true)]) _ h.tl
      | true =>
      simp only [gw]
      have hf : ∀ x ∈ ptOf (nG g) (gmP g) (i + 1), 0 ≤ x := ht.1 rfl
      have hza := eqZ_abs hg (i + 1)
      have hzl := eqZ_len g (i + 1)
      refine Wi.call (fnG83 (h.rd (cs := [w])) (ptOf_len (i + 1)) hn5 (by omega) fun H z f => ?_)
      have h := (h.addG f).asG (i := 0) rfl
      have h : Ab.Loc H0 (.data (Rd.gslice Rd.int 2) [z] (eqZ g (i + 1)) :: _) H := h
      refine Wi.call (fn84 (B := 1920000000) (h.rd (cs := [z])).ofG1 hza (by omega) ?_)
      refine Wi.eqlC (fun hs0 => Wi.tru ?_) fun hs0 => Wi.fls ?_
      · exact skip (by unfold eqStep; rw [if_pos hm, if_pos hs0]) _ h.tl.tl
      obtain ⟨p1, p2⟩ := eq_parts hg hnz hf hs0
      refine Wl.getA h hlen (Wi.call (fnG54 (h.rd (cs := cs)) hg (h.rd (cs := [z])) hzl hza p1 p2 fun H e f => ?_))
      have h := (h.addG f).asG (i := 0) rfl
      simp only [gw]
      refine Wl.new h fun H b29 h => Wl.put h (h.rd (cs := [e]) (r := RFG)).ofG1.cell1 (by simp) fun H h => ?_
      have hstep : eqStep g (i + 1) (eqTo g i).1 = if (mixV g.1.length (eqZ g (i + 1))).2 = 0 then (if ((eqTo g i).1.any fun o => decide ((mixV g.1.length (eqZ g (i + 1))).1 = o)) = true then ((eqTo g i).1, 0) else ((eqTo g i).1 ++ [(mixV g.1.length (eqZ g (i + 1))).1], 0)) else ([], (mixV g.1.length (eqZ g (i + 1))).2) := by
        unfold eqStep
        rw [if_pos hm, if_neg hs0]
      generalize mixV g.1.length (eqZ g (i + 1)) = mv at *
      refine Wi.neqC (fun hne => Wi.tru ?_) fun he => Wi.fls ?_
      · exact hz _ _ h.le (eqRes_bad hg (m := i + 1) (by omega) hne (by rw [hnext, hstep, if_neg hne]))
      rw [if_pos he] at hstep
      obtain ⟨_, q⟩ := Has.ofG (h.rd (cs := [o]) (r := Rd.slice RFG))
      refine Wi.call (contains85 _ _ _ _ _ (fun o => decide (mv.1 = o)) _ q ?_ fun H2 l2 => ?_)
      · intro H' bs u x K l hx hK
        have h := h.to l
        exact Wi.callV (f86.enter (Wl.get h rfl (Wi.call (fn87 (h.rd (cs := [e]) (r := RFG)).ofG1 ⟨_, hx⟩ (hK _ (.refl _))))))
      · have h := h.to l2
        cases ha : (eqTo g i).1.any fun o => decide (mv.1 = o) with
        | true =>
          rw [if_pos ha] at hstep
          refine Wi.not (Wi.fls ?_)
          unfold f22.j2
          exact skip hstep _ h.tl.tl.tl.tl
        | false =>
          rw [if_neg (by rw [ha]; exact Bool.false_ne_true)] at hstep
          refine Wi.not (Wi.tru (Wl.get h rfl (Wl.pushO rfl h (by decide) (h.rd (cs := [e]) (r := RFG)).ofG1.one (by omega) fun H o' h => ?_)))
          unfold f22.j2 f22.j1
          refine Wi.add hI (hJ _ _ (by omega) ⟨o', rfl, ?_, ?_⟩)
          · rw [hnext, hstep]; exact h.tl.tl.tl.tl
          · rw [hnext, hstep]
  · have : i = 2 ^ nG g - 1 := by omega
    subst this
    have := hQ H o (by rw [hres]; exact (h.asData (i := 0) rfl).ret (i := 0) rfl)
    rw [hres, h0] at this
    exact this

end Go.Proofs.YtbcfknboheghkaaGreat
