/- The contracts of total, mixes and EquilibriaBySets, the program's. No condition. -/
import Derived.Test.YtioleipoomgmhaaEB0
import Derived.Test.YtioleipoomgmhaaCF
import Derived.Test.YtioleipoomgmhaaV1
import Derived.Test.YtioleipoomgmhaaV3
import Derived.Test.YtioleipoomgmhaaQ4
namespace Go.Proofs.Ytioleipoomgmhaa
open Go.Ab

/- loop.example/g01343/impl.total -/
def f78.l1 (Q : Post) (v1 : Value) (list_0 : Value) (I1 : St [3, 8] → Heap → Prop) (n_3 : Value) (x_8 : Value) (H : Heap) : Prop :=
  W.bin .lss x_8 v1 H fun v2 H =>
  W.cond v2 H
  (fun H => W.indexAddr 1 list_0 x_8 H fun v3 H =>
   W.get v3 H fun v4 H =>
   W.bin .add n_3 v4 H fun v5 H =>
   W.bin .add x_8 (.int .i64 1) H fun v6 H =>
   I1 (v5, v6, ()) H)
  (fun H => Q n_3 H)
def f78.w (Q : Post) (list_0 : Value) (H : Heap) : Prop :=
  W.len list_0 H fun v1 H =>
  W.loop (S := St [3, 8]) (fun I1 s H => f78.l1 Q v1 list_0 I1 s.1 s.2.1 H) ((.int .i64 0), (.int .i64 0), ()) H
theorem f78.enter {Q : Post} {list_0 : Value} {H : Heap} (h : f78.w Q list_0 H) : Runs Try.prog 78 #[list_0] H Q :=
  fn_enter (ann := [(3, [3, 8])]) (by kernel_rfl) Try.func78 rfl (by kernel_rfl) h (by kernel_rfl)

/- (loop.example/g01343/impl.Game).mixes -/
def f67.w (Q : Post) (g_0 : Value) (z_1 : Value) (H : Heap) : Prop :=
  W.box g_0 31 H fun v1 H =>
  W.getN 2 v1 H fun v2 H =>
  W.call Try.prog (.func (.func 62) #[] #[]) #[v2] H fun v3 H =>
  W.extract 0 v3 H fun v4 H =>
  W.extract 1 v3 H fun v5 H =>
  W.slice 1 z_1 none (some v4) H fun v6 H =>
  W.slice 1 z_1 none (some v4) H fun v7 H =>
  W.callQ Try.prog (.func (.func 78) #[] #[]) #[v7] H fun v8 H =>
  W.callQ Try.prog (.func (.func 97) #[] #[]) #[v6, v8] H fun v9 H =>
  W.extract 0 v9 H fun v10 H =>
  W.extract 1 v9 H fun v11 H =>
  W.bin .neq v11 (.int .i64 0) H fun v12 H =>
  W.cond v12 H
  (fun H => Q (.tuple #[(.slice none 0 0), v11]) H)
  (fun H => W.slice 1 z_1 (some v4) none H fun v13 H =>
   W.slice 1 z_1 (some v4) none H fun v14 H =>
   W.callQ Try.prog (.func (.func 78) #[] #[]) #[v14] H fun v15 H =>
   W.callQ Try.prog (.func (.func 97) #[] #[]) #[v13, v15] H fun v16 H =>
   W.extract 0 v16 H fun v17 H =>
   W.extract 1 v16 H fun v18 H =>
   W.bin .neq v18 (.int .i64 0) H fun v19 H =>
   W.cond v19 H
   (fun H => Q (.tuple #[(.slice none 0 0), v18]) H)
   (fun H => W.lit 2 [(.slice none 0 0)] 48 [(0, 1, v10), (1, 1, v17)] H fun v20 H =>
    W.call Try.prog (.func (.func 98) #[] #[]) #[v20] H fun v21 H =>
    Q (.tuple #[v21, (.int .i64 0)]) H))
theorem f67.enter {Q : Post} {g_0 : Value} {z_1 : Value} {H : Heap} (h : f67.w Q g_0 z_1 H) : Runs Try.prog 67 #[g_0, z_1] H Q :=
  fn_enter (ann := []) (by kernel_rfl) Try.func67 rfl (by kernel_rfl) h (by kernel_rfl)

/- (loop.example/g01343/impl.Problem).all -/
def f74.w (Q : Post) (p_0 : Value) (H : Heap) : Prop :=
  W.box p_0 28 H fun v1 H =>
  W.fieldAddr 1 v1 H fun v2 H =>
  W.get v2 H fun v3 H =>
  W.len v3 H fun v4 H =>
  W.bin .shl (.int .i64 1) v4 H fun v5 H =>
  Q v5 H
theorem f74.enter {Q : Post} {p_0 : Value} {H : Heap} (h : f74.w Q p_0 H) : Runs Try.prog 74 #[p_0] H Q :=
  fn_enter (ann := []) (by kernel_rfl) Try.func74 rfl (by kernel_rfl) h (by kernel_rfl)

/- loop.example/g01343/impl.EquilibriaBySets -/
def f29.j1 (Q : Post) (s_6 : Value) (I1 : St [5, 6] → Heap → Prop) (out_5' : Value) (H : Heap) : Prop :=
  W.bin .add s_6 (.int .i64 1) H fun v21 H =>
  I1 (out_5', v21, ()) H
def f29.j2 (Q : Post) (s_6 : Value) (I1 : St [5, 6] → Heap → Prop) (out_5'' : Value) (H : Heap) : Prop :=
  f29.j1 Q s_6 I1 out_5'' H
def f29.l1 (Q : Post) (v7 : Value) (v1 : Value) (I1 : St [5, 6] → Heap → Prop) (out_5 : Value) (s_6 : Value) (H : Heap) : Prop :=
  W.getN 2 v7 H fun v8 H =>
  W.call Try.prog (.func (.func 74) #[] #[]) #[v8] H fun v9 H =>
  W.bin .lss s_6 v9 H fun v10 H =>
  W.cond v10 H
  (fun H => W.getN 2 v7 H fun v11 H =>
   W.call Try.prog (.func (.func 75) #[] #[]) #[v11, s_6] H fun v12 H =>
   W.extract 0 v12 H fun v13 H =>
   W.extract 1 v12 H fun v14 H =>
   W.extract 2 v12 H fun v15 H =>
   W.un .not v15 H fun v16 H =>
   W.guarded v16 false (fun H k => k v13 H) H fun v17 H =>
   W.guarded v16 false (fun H k => W.call Try.prog (.func (.func 76) #[] #[]) #[v17] H k) H fun v18 H =>
   W.guarded v16 false (fun H k => W.un .not v18 H k) H fun v19 H =>
   W.pick v16 (.bool true) v19 H fun v20 H =>
   W.cond v20 H
   (fun H => f29.j1 Q s_6 I1 out_5 H)
   (fun H => W.call Try.prog (.func (.func 77) #[] #[]) #[v13, s_6] H fun v22 H =>
    W.call Try.prog (.func (.func 78) #[] #[]) #[v22] H fun v23 H =>
    W.bin .eql v23 (.int .i64 0) H fun v24 H =>
    W.cond v24 H
    (fun H => f29.j1 Q s_6 I1 out_5 H)
    (fun H => W.getN 2 v1 H fun v25 H =>
     W.call Try.prog (.func (.func 67) #[] #[]) #[v25, v22] H fun v26 H =>
     W.extract 0 v26 H fun v27 H =>
     W.extract 1 v26 H fun v28 H =>
     W.new [(.slice none 0 0)] 48 H fun v29 H =>
     W.put v29 v27 H fun _ H =>
     W.bin .neq v28 (.int .i64 0) H fun v30 H =>
     W.cond v30 H
     (fun H => Q (.tuple #[(.slice none 0 0), v28]) H)
     (fun H => W.call Try.prog (.func (.func 79) #[] #[]) #[out_5, (.func (.func 80) #[] #[v29])] H fun v31 H =>
      W.un .not v31 H fun v32 H =>
      W.cond v32 H
      (fun H => W.get v29 H fun v33 H =>
       W.lit 1 [(.slice none 0 0)] 48 [(0, 1, v33)] H fun v34 H =>
       W.append 1 48 out_5 v34 H fun v35 H =>
       f29.j2 Q s_6 I1 v35 H)
      (fun H => f29.j2 Q s_6 I1 out_5 H)))))
  (fun H => Q (.tuple #[out_5, (.int .i64 0)]) H)
def f29.w (Q : Post) (g_0 : Value) (H : Heap) : Prop :=
  W.box g_0 31 H fun v1 H =>
  W.getN 2 v1 H fun v2 H =>
  W.call Try.prog (.func (.func 37) #[] #[]) #[v2] H fun v3 H =>
  W.un .not v3 H fun v4 H =>
  W.cond v4 H
  (fun H => Q (.tuple #[(.slice none 0 0), (.int .i64 1)]) H)
  (fun H => W.getN 2 v1 H fun v5 H =>
   W.call Try.prog (.func (.func 38) #[] #[]) #[v5] H fun v6 H =>
   W.new [(.slice none 0 0), (.slice none 0 0)] 28 H fun v7 H =>
   W.putN 2 v7 v6 H fun _ H =>
   W.loop (S := St [5, 6]) (fun I1 s H => f29.l1 Q v7 v1 I1 s.1 s.2.1 H) ((.slice none 0 0), (.int .i64 1), ()) H)
theorem f29.enter {Q : Post} {g_0 : Value} {H : Heap} (h : f29.w Q g_0 H) : Runs Try.prog 29 #[g_0] H Q :=
  fn_enter (ann := [(6, [5, 6])]) (by kernel_rfl) Try.func29 rfl (by kernel_rfl) h (by kernel_rfl)

/- loop.example/g01343/impl.EquilibriaBySets$1 -/
def f80.w (Q : Post) (other_0 : Value) (x_1 : Value) (H : Heap) : Prop :=
  W.get x_1 H fun v1 H =>
  W.call Try.prog (.func (.func 81) #[] #[]) #[v1, other_0] H fun v2 H =>
  Q v2 H
theorem f80.enter {Q : Post} {other_0 : Value} {x_1 : Value} {H : Heap} (h : f80.w Q other_0 x_1 H) : Runs Try.prog 80 #[other_0, x_1] H Q :=
  fn_enter (ann := []) (by kernel_rfl) Try.func80 rfl (by kernel_rfl) h (by kernel_rfl)


theorem sum_take {l : List Int} {B : Nat} (h : ∀ x ∈ l, x.natAbs ≤ B) (i : Nat) : (l.take i).sum.natAbs ≤ l.length * B := by
  have h1 := sum_abs (l := l.take i) fun x hx => h x (List.mem_of_mem_take hx)
  exact Nat.le_trans h1 (Nat.mul_le_mul_right _ (by simp; omega))

theorem fn78 {H0 : Heap} {Q : Post} {v : Value} {l : List Int} {B : Nat} (hr : Has RS H0 [v] l) (hB : ∀ x ∈ l, x.natAbs ≤ B) (hs : l.length * B < 9223372036854775808) (hQ : Q (.int .i64 l.sum) H0) : Runs Try.prog 78 #[v] H0 Q := by
  have hsm := hr.small
  refine f78.enter (Wl.lenH hr (W.for_rule l.length (fun i s H => H = H0 ∧ s = (.int .i64 (l.take i).sum, .int .i64 (i : Nat), ())) ⟨rfl, by simp; rfl⟩ ?_))
  rintro i s H J hi ⟨rfl, rfl⟩ hJ
  refine Wi.lssC (fun hlt => Wi.tru ?_) fun hge => Wi.fls ?_
  · have hix : i < l.length := by omega
    have h1 := sum_take hB (i + 1)
    rw [sum_step hix] at h1
    exact Wl.atIntH hr hix fun _ => Wi.add (by unfold I64; omega) (Wi.add (by unfold I64; omega) (hJ _ _ hix ⟨rfl, by rw [sum_step hix]; rfl⟩))
  · have : i = l.length := by omega
    subst this
    rw [List.take_length]
    exact hQ

theorem sum5 {l : List Int} (hl : l.length ≤ 5) (h : ∀ x ∈ l, x.natAbs ≤ 1920000000) : l.sum.natAbs ≤ 9600000000 := by
  have h1 := sum_abs h
  have := Nat.mul_le_mul_right 1920000000 hl
  omega

theorem fn67 {H0 : Heap} {Q : Post} {cs : List Value} {vz : Value} {g : Game} {z : List Int} (hr : Has RGame H0 cs g) (hg : IsGm g) (hz : Has (Rd.gslice Rd.int 2) H0 [vz] z) (hzl : z.length = nG g) (hza : ∀ x ∈ z, x.natAbs ≤ 1920000000)
    (h1 : (z.take g.1.length).sum ≠ 0) (h2 : (z.drop g.1.length).sum ≠ 0) (hQ : ∀ H' u, Fresh RFS H0 [u] (mixV g.1.length z).1 H' → Q (.tuple #[u, .int .i64 (mixV g.1.length z).2]) H') : Runs Try.prog 67 #[.agg cs.toArray, vz] H0 Q := by
  obtain ⟨u1, u2, rfl, r1, r2⟩ := hasGame hr
  have k1 := hg.k1; have kl := hg.kl
  have hk0 : 0 < g.1.length := by omega
  have hlw := lw_at hk0
  have hnn : nG g = g.1.length + lw g := rfl
  have hbad : ∀ H c, H0.Le H → c = 3 → ¬ ((frAll (z.take g.1.length) (z.take g.1.length).sum).2 = 0 ∧ (frAll (z.drop g.1.length) (z.drop g.1.length).sum).2 = 0) → Q (.tuple #[.slice none 0 0, .int .i64 c]) H := fun H c l e hn => by
    subst e
    have e : mixV g.1.length z = ([], 3) := by unfold mixV; rw [if_neg hn]
    have := hQ H (.slice none 0 0) (by rw [e]; exact fresh_nil l)
    rw [e] at this
    exact this
  have ta : ∀ x ∈ z.take g.1.length, x.natAbs ≤ 1920000000 := fun x hx => hza x (List.mem_of_mem_take hx)
  have da : ∀ x ∈ z.drop g.1.length, x.natAbs ≤ 1920000000 := fun x hx => hza x (List.mem_of_mem_drop hx)
  have tl : (z.take g.1.length).length ≤ 5 := by simp; omega
  have dl : (z.drop g.1.length).length ≤ 5 := by simp; omega
  have ts := sum5 tl ta
  have ds := sum5 dl da
  have h := (((Loc.start H0).lent r1).lent r2).lent hz
  refine f67.enter ?_
  unfold f67.w
  refine Wl.box h fun H b h => Wl.getA h rfl (Wi.call (f62.enter (Wl.box h fun H b3 h => Wi.fieldAddr0 (Wl.get h rfl (Wl.len h (Wi.fieldAddr0 (Wl.get h rfl (Wl.at1 (i := 0) rfl h hk0 fun w hw => Wl.lenH hw ?_))))))))
  have h := h.tl
  simp only [gw]
  refine Wl.cutLoH (h.rd (cs := [vz])).ofG1 (by omega) fun va ha => Wl.cutLoH (h.rd (cs := [vz])).ofG1 (by omega) fun vb hb => Wi.callQ (fn78 (B := 1920000000) hb ta (by omega) ⟨.refl _, ?_⟩)
  refine Wi.callQ (fn97 (d := (z.take g.1.length).sum) ha (fun x hx => by have := ta x hx; unfold B64; omega) (by unfold B64; omega) h1 (by omega) fun H x f => ⟨f.le, ?_⟩)
  have h := h.add f
  simp only [gw]
  refine Wi.neqC (fun hne => Wi.tru (hbad _ _ h.le ((frAll_code _ _).resolve_left hne) fun q => hne q.1)) fun he => Wi.fls ?_
  refine Wl.cutHiG rfl (h.rd (cs := [vz])) (by omega) fun va ha => Wl.cutHiG rfl (h.rd (cs := [vz])) (by omega) fun vb hb => Wi.callQ (fn78 (B := 1920000000) hb da (by omega) ⟨.refl _, ?_⟩)
  refine Wi.callQ (fn97 (d := (z.drop g.1.length).sum) ha (fun x hx => by have := da x hx; unfold B64; omega) (by unfold B64; omega) h2 (by omega) fun H y f => ⟨f.le, ?_⟩)
  have h := h.add f
  simp only [gw]
  refine Wi.neqC (fun hne => Wi.tru (hbad _ _ h.le ((frAll_code _ _).resolve_left hne) fun q => hne q.2)) fun he2 => Wi.fls ?_
  have hmix : mixV g.1.length z = ((frAll (z.take g.1.length) (z.take g.1.length).sum).1 ++ (frAll (z.drop g.1.length) (z.drop g.1.length).sum).1, 0) := by unfold mixV; rw [if_pos ⟨he, he2⟩]
  have l1 := frAll_len (z.take g.1.length) (z.take g.1.length).sum
  have l2 := frAll_len (z.drop g.1.length) (z.drop g.1.length).sum
  generalize (frAll (z.take g.1.length) (z.take g.1.length).sum).1 = xs at *
  generalize (frAll (z.drop g.1.length) (z.drop g.1.length).sum).1 = ys at *
  obtain ⟨bsx, qx⟩ := h.rd (cs := [x])
  obtain ⟨bsy, qy⟩ := h.rd (cs := [y])
  have ex := Has.one ⟨_, qx⟩
  have ey := Has.one ⟨_, qy⟩
  refine Wi.lit (cells := [x, y]) (by simp [fillA, ex, ey, reps]) fun H1 le1 n1' kk1 => ?_
  have h := h.to le1
  have hv : Has (Rd.slice RFS) H1 [.slice (some (adr _ 0)) 2 (2 * 2)] [xs, ys] := ⟨_, .inr ⟨_, 0, _, _, fun i => if i = 0 then bsx else bsy, rfl, rfl, ⟨by omega, kk1, by simp, by simp, by simp [Rd.slice], fun i hi => by
    match i, hi with
    | 0, _ => exact Rd.le _ qx le1
    | 1, _ => exact Rd.le _ qy le1⟩⟩⟩
  refine Wi.call (concat98 _ _ [xs, ys] _ hv (by simp; omega) fun H w3 j => ?_)
  have eF : ([xs, ys] : List (List Frac)).flatten = xs ++ ys := by simp
  rw [eF] at j
  have h := h.add j.plain.fresh
  have := hQ H w3 (by rw [hmix]; exact h.ret (i := 0) rfl)
  rw [hmix] at this
  exact this

theorem eqTo_next {g : Game} {m : Nat} (h : (eqTo g m).2 = 0) : eqTo g (m + 1) = eqStep g (m + 1) (eqTo g m).1 := by
  show (if (eqTo g m).2 = 0 then eqStep g (m + 1) (eqTo g m).1 else eqTo g m) = _
  rw [if_pos h]

theorem eqRes_bad {g : Game} (hg : IsGm g) {m : Nat} {c : Int} (hm : m ≤ 2 ^ nG g - 1) (hc : c ≠ 0) (h : eqTo g m = ([], c)) : eqRes g = ([], c) := by
  unfold eqRes
  rw [if_pos hg]
  have := eqTo_bad (g := g) (m := m) (by rw [h]; exact hc) (2 ^ nG g - 1 - m)
  rw [show m + (2 ^ nG g - 1 - m) = 2 ^ nG g - 1 by omega] at this
  rw [this, h]

theorem fn29 {H0 : Heap} {Q : Post} {cs : List Value} {g : Game} (hr : Has RGame H0 cs g) (hw : wGame g ≤ 1048576) (hQ : ∀ H' u, Fresh RFSS H0 [u] (eqRes g).1 H' → Q (.tuple #[u, .int .i64 (eqRes g).2]) H') : Runs Try.prog 29 #[.agg cs.toArray] H0 Q := by
  have hlen := hr.len
  have hz : ∀ H c, H0.Le H → eqRes g = ([], c) → Q (.tuple #[.slice none 0 0, .int .i64 c]) H := fun H c l e => by
    have := hQ H (.slice none 0 0) (by rw [e]; exact fresh_nil l)
    rw [e] at this
    exact this
  have h := (Loc.start H0).lent hr
  refine f29.enter ?_
  unfold f29.w
  refine Wl.box h fun H b h => Wl.getA h hlen (Wi.call (fn37 (h.rd (cs := cs)) hw fun H t l ht => ?_))
  have h := h.to l
  cases t with
  | false =>
    simp only [gw]
    exact hz _ _ h.le (by unfold eqRes; rw [if_neg (fun g => Bool.noConfusion (ht.2 g))])
  | true =>
  have hg := ht.1 rfl
  have hpb := gm_pb hg
  have hn5 : nG g ≤ 5 := hg.kl
  have h32 := pow5 hn5
  have hql : (gmP g).2.length = nG g := hpb.ql
  have hres : eqRes g = eqTo g (2 ^ nG g - 1) := by unfold eqRes; rw [if_pos hg]
  simp only [gw]
  refine Wl.getA h hlen (Wi.call (fn38 (h.rd (cs := cs)) hg fun H w1 w2 f => ?_))
  have h := h.add f
  refine Wl.new h fun H b7 h => Wl.putA h rfl (h.rd (cs := [w1, w2])).len (h.rd (cs := [w1, w2])).cell fun H h => ?_
  have hp1 : 1 ≤ 2 ^ nG g := Nat.one_le_two_pow
  refine W.for_rule (2 ^ nG g - 1) (fun i st H => ∃ o, st = (o, .int .i64 ((i + 1 : Nat) : Int), ()) ∧ Ab.Loc H0 [.grow RFS 48 o (eqTo g i).1, .box b7 [w1, w2], .data RProblem [w1, w2] (gmP g), .box b cs, .lent RGame cs g] H ∧ (eqTo g i).2 = 0) ⟨_, rfl, h.nilG RFS 48, rfl⟩ ?_
  rintro i st H J hi ⟨o, rfl, h, h0⟩ hJ
  refine Wl.getA h rfl (Wi.call (f74.enter (Wl.box h fun H b4 h => Wi.fieldAddr (Wl.get h rfl ?_))))
  obtain ⟨y1, y2, ey, _, q2⟩ := hasProb (h.rd (cs := [w1, w2]))
  cases ey
  refine Wl.lenH q2 (Wi.shl1 (by omega) ?_)
  have h := h.tl
  rw [hql]
  have hlo := eqTo_len g i
  refine Wi.lssC (fun hlt => Wi.tru ?_) fun hge => Wi.fls ?_
  · have hiN : i + 1 < 2 ^ nG g := by omega
    have hI : I64 (((i + 1 : Nat) : Int) + 1) := by unfold I64; omega
    have hnext := eqTo_next h0
    have skip : eqStep g (i + 1) (eqTo g i).1 = ((eqTo g i).1, 0) → ∀ H, Ab.Loc H0 [.grow RFS 48 o (eqTo g i).1, .box b7 [w1, w2], .data RProblem [w1, w2] (gmP g), .box b cs, .lent RGame cs g] H → f29.j1 Q (.int .i64 ((i + 1 : Nat) : Int)) J o H := fun e H h => by
      unfold f29.j1
      refine Wi.add hI (hJ _ _ (by omega) ⟨o, rfl, ?_, ?_⟩)
      · rw [hnext, e]; exact h
      · rw [hnext, e]
    refine Wl.getA h rfl (Wi.call (fn75 (n := nG g) (h.rd (cs := [w1, w2])) hpb (by omega) (fun hz0 H l => ?_) fun hnz H w f => ?_))
    · have h := h.to l
      simp only [gw]
      exact skip (by unfold eqStep; rw [if_neg (by rw [eqB_no hz0]; exact Bool.false_ne_true)]) _ h
    · have h := h.add f
      simp only [gw]
      refine Wi.call (fn76 (h.rd (cs := [w])) fun H t l ht => ?_)
      have h := h.to l
      have hm : eqB (nG g) (gmP g) (i + 1) = t := by
        rw [eqB_of hnz, Bool.eq_iff_iff, List.all_eq_true]
        show _ ↔ t = true
        rw [ht]
        simp [ptOf]
      cases t with
      | false =>
        simp only [gw]
        exact skip (by unfold eqStep; rw [if_neg (by rw [hm]; exact Bool.false_ne_true)]) _ h.tl
      | true =>
      simp only [gw]
      have hf : ∀ x ∈ ptOf (nG g) (gmP g) (i + 1), 0 ≤ x := ht.1 rfl
      have hza := eqZ_abs hg (i + 1)
      have hzl := eqZ_len g (i + 1)
      refine Wi.call (fnG77 (h.rd (cs := [w])) (ptOf_len (i + 1)) hn5 (by omega) fun H z f => ?_)
      have h := (h.addG f).asG (i := 0) rfl
      have h : Ab.Loc H0 (.data (Rd.gslice Rd.int 2) [z] (eqZ g (i + 1)) :: _) H := h
      refine Wi.call (fn78 (B := 1920000000) (h.rd (cs := [z])).ofG1 hza (by omega) ?_)
      refine Wi.eqlC (fun hs0 => Wi.tru ?_) fun hs0 => Wi.fls ?_
      · exact skip (by unfold eqStep; rw [if_pos hm, if_pos hs0]) _ h.tl.tl
      obtain ⟨p1, p2⟩ := eq_parts hg hnz hf hs0
      refine Wl.getA h hlen (Wi.call (fn67 (h.rd (cs := cs)) hg (h.rd (cs := [z])) hzl hza p1 p2 fun H e f => ?_))
      have h := h.add f
      simp only [gw]
      refine Wl.new h fun H b29 h => Wl.put h (h.rd (cs := [e])).cell1 (by simp) fun H h => ?_
      have hstep : eqStep g (i + 1) (eqTo g i).1 = if (mixV g.1.length (eqZ g (i + 1))).2 = 0 then (if ((eqTo g i).1.any fun o => decide ((mixV g.1.length (eqZ g (i + 1))).1 = o)) = true then ((eqTo g i).1, 0) else ((eqTo g i).1 ++ [(mixV g.1.length (eqZ g (i + 1))).1], 0)) else ([], (mixV g.1.length (eqZ g (i + 1))).2) := by
        unfold eqStep
        rw [if_pos hm, if_neg hs0]
      generalize mixV g.1.length (eqZ g (i + 1)) = mv at *
      refine Wi.neqC (fun hne => Wi.tru ?_) fun he => Wi.fls ?_
      · exact hz _ _ h.le (eqRes_bad hg (m := i + 1) (by omega) hne (by rw [hnext, hstep, if_neg hne]))
      rw [if_pos he] at hstep
      obtain ⟨_, q⟩ := h.rd (cs := [o])
      refine Wi.call (contains79 _ _ _ _ _ (fun o => decide (mv.1 = o)) _ q ?_ fun H2 l2 => ?_)
      · intro H' bs u x K l hx hK
        have h := h.to l
        exact Wi.callV (f80.enter (Wl.get h rfl (Wi.call (fn81 (h.rd (cs := [e])) ⟨_, hx⟩ (hK _ (.refl _))))))
      · have h := h.to l2
        cases ha : (eqTo g i).1.any fun o => decide (mv.1 = o) with
        | true =>
          rw [if_pos ha] at hstep
          refine Wi.not (Wi.fls ?_)
          unfold f29.j2
          exact skip hstep _ h.tl.tl.tl.tl
        | false =>
          rw [if_neg (by rw [ha]; exact Bool.false_ne_true)] at hstep
          refine Wi.not (Wi.tru (Wl.get h rfl (Wl.pushO rfl h (by decide) (h.rd (cs := [e])).one (by omega) fun H o' h => ?_)))
          unfold f29.j2 f29.j1
          refine Wi.add hI (hJ _ _ (by omega) ⟨o', rfl, ?_, ?_⟩)
          · rw [hnext, hstep]; exact h.tl.tl.tl.tl
          · rw [hnext, hstep]
  · have : i = 2 ^ nG g - 1 := by omega
    subst this
    have := hQ H o (by rw [hres]; exact (h.asData (i := 0) rfl).ret (i := 0) rfl)
    rw [hres, h0] at this
    exact this

end Go.Proofs.Ytioleipoomgmhaa
