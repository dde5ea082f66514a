/- The contract of the program's MinimumOf. No condition. -/
import Derived.Test.YtmhbbkidedjefaaGreatMO0
import Derived.Test.YtmhbbkidedjefaaGreatV1
import Derived.Test.YtmhbbkidedjefaaGreatV3
import Derived.Test.YtmhbbkidedjefaaGreatN4
import Derived.Test.YtmhbbkidedjefaaGreatQ4
namespace Go.Proofs.YtmhbbkidedjefaaGreat
open Go.Ab

/- loop.example/g01343/impl.MinimumOf -/
def f7.l1 (Q : Post) (v20 : Value) (v18 : Value) (v2 : Value) (v1 : Value) (v17 : Value) (I1 : St [33] → Heap → Prop) (x_33 : Value) (H : Heap) : Prop :=
  W.bin .lss x_33 v20 H fun v21 H =>
  W.cond v21 H
  (fun H => W.getN 2 v18 H fun v22 H =>
   W.call Tryz.prog (.func (.func 29) #[] #[]) #[v22, x_33] H fun v23 H =>
   W.extract 0 v23 H fun v24 H =>
   W.extract 1 v23 H fun v25 H =>
   W.extract 2 v23 H fun v26 H =>
   W.un .not v26 H fun v27 H =>
   W.guarded v27 false (fun H k => k v24 H) H fun v28 H =>
   W.guarded v27 false (fun H k => W.call Tryz.prog (.func (.func 30) #[] #[]) #[v28] H k) H fun v29 H =>
   W.guarded v27 false (fun H k => W.un .not v29 H k) H fun v30 H =>
   W.pick v27 (.bool true) v30 H fun v31 H =>
   W.cond v31 H
   (fun H => W.bin .add x_33 (.int .i64 1) H fun v32 H =>
    I1 (v32, ()) H)
   (fun H => W.call Tryz.prog (.func (.func 31) #[] #[]) #[v24, x_33] H fun v33 H =>
    W.call Tryz.prog (.func (.func 32) #[] #[]) #[v33, v25] H fun v34 H =>
    W.extract 0 v34 H fun v35 H =>
    W.extract 1 v34 H fun v36 H =>
    W.bin .neq v36 (.int .i64 0) H fun v37 H =>
    W.cond v37 H
    (fun H => W.build [(.int .i64 0), (.int .i64 0)] [] H fun v38 H =>
     W.putN 2 v2 v38 H fun _ H =>
     W.getN 2 v2 H fun v39 H => Q (.tuple #[(.slice none 0 0), (.slice none 0 0), v39, v36]) H)
    (fun H => W.fieldAddr 1 v1 H fun v40 H =>
     W.get v40 H fun v41 H =>
     W.slice 1 v33 none (some v17) H fun v42 H =>
     W.callQ Tryz.prog (.func (.func 34) #[] #[]) #[v41, v42] H fun v43 H =>
     W.fieldAddr 3 v1 H fun v44 H =>
     W.get v44 H fun v45 H =>
     W.slice 1 v33 (some v17) none H fun v46 H =>
     W.callQ Tryz.prog (.func (.func 34) #[] #[]) #[v45, v46] H fun v47 H =>
     W.bin .add v43 v47 H fun v48 H =>
     W.bin .mul (.int .i64 2) v25 H fun v49 H =>
     W.callQ Tryz.prog (.func (.func 33) #[] #[]) #[v48, v49] H fun v50 H =>
     W.extract 0 v50 H fun v51 H =>
     W.extract 1 v50 H fun v52 H =>
     W.new [(.int .i64 0), (.int .i64 0)] 29 H fun v53 H =>
     W.putN 2 v53 v51 H fun _ H =>
     W.bin .neq v52 (.int .i64 0) H fun v54 H =>
     W.cond v54 H
     (fun H => W.build [(.int .i64 0), (.int .i64 0)] [] H fun v55 H =>
      W.putN 2 v2 v55 H fun _ H =>
      W.getN 2 v2 H fun v56 H => Q (.tuple #[(.slice none 0 0), (.slice none 0 0), v56, v52]) H)
     (fun H => W.slice 2 v35 none (some v17) H fun v57 H =>
      W.callQ Tryz.prog (.func (.func 35) #[] #[]) #[v57] H fun v58 H =>
      W.slice 2 v35 (some v17) none H fun v59 H =>
      W.callQ Tryz.prog (.func (.func 35) #[] #[]) #[v59] H fun v60 H =>
      W.getN 2 v53 H fun v61 H =>
      W.putN 2 v2 v61 H fun _ H =>
      W.getN 2 v2 H fun v62 H => Q (.tuple #[v58, v60, v62, (.int .i64 0)]) H))))
  (fun H => W.build [(.int .i64 0), (.int .i64 0)] [] H fun v63 H =>
   W.putN 2 v2 v63 H fun _ H =>
   W.getN 2 v2 H fun v64 H => Q (.tuple #[(.slice none 0 0), (.slice none 0 0), v64, (.int .i64 4)]) H)
def f7.w (Q : Post) (p_0 : Value) (H : Heap) : Prop :=
  W.box p_0 32 H fun v1 H =>
  W.new [(.int .i64 0), (.int .i64 0)] 29 H fun v2 H =>
  W.getN 4 v1 H fun v3 H =>
  W.call Tryz.prog (.func (.func 25) #[] #[]) #[v3] H fun v4 H =>
  W.un .not v4 H fun v5 H =>
  W.cond v5 H
  (fun H => W.build [(.int .i64 0), (.int .i64 0)] [] H fun v6 H =>
   W.putN 2 v2 v6 H fun _ H =>
   W.getN 2 v2 H fun v7 H => Q (.tuple #[(.slice none 0 0), (.slice none 0 0), v7, (.int .i64 1)]) H)
  (fun H => W.getN 4 v1 H fun v8 H =>
   W.call Tryz.prog (.func (.func 26) #[] #[]) #[v8] H fun v9 H =>
   W.un .not v9 H fun v10 H =>
   W.cond v10 H
   (fun H => W.build [(.int .i64 0), (.int .i64 0)] [] H fun v11 H =>
    W.putN 2 v2 v11 H fun _ H =>
    W.getN 2 v2 H fun v12 H => Q (.tuple #[(.slice none 0 0), (.slice none 0 0), v12, (.int .i64 5)]) H)
   (fun H => W.getN 4 v1 H fun v13 H =>
    W.callQ Tryz.prog (.func (.func 27) #[] #[]) #[v13] H fun v14 H =>
    W.fieldAddr 1 v1 H fun v15 H =>
    W.get v15 H fun v16 H =>
    W.len v16 H fun v17 H =>
    W.new [(.slice none 0 0), (.slice none 0 0)] 44 H fun v18 H =>
    W.putN 2 v18 v14 H fun _ H =>
    W.chk (fun H k => W.get v15 H k) v16 H (W.getN 2 v18 H fun v19 H =>
    W.call Tryz.prog (.func (.func 28) #[] #[]) #[v19] H fun v20 H =>
    W.loop (S := St [33]) (fun I1 s H => f7.l1 Q v20 v18 v2 v1 v17 I1 s.1 H) ((.int .i64 0), ()) H)))
theorem f7.enter {Q : Post} {p_0 : Value} {H : Heap} (h : f7.w Q p_0 H) : Runs Tryz.prog 7 #[p_0] H Q :=
  fn_enter (ann := [(7, [33])]) (by kernel_rfl) Tryz.func7 rfl (by kernel_rfl) h (by kernel_rfl)

/- (loop.example/g01343/impl.Problem).all -/
def f28.w (Q : Post) (p_0 : Value) (H : Heap) : Prop :=
  W.box p_0 44 H fun v1 H =>
  W.fieldAddr 1 v1 H fun v2 H =>
  W.get v2 H fun v3 H =>
  W.len v3 H fun v4 H =>
  W.bin .shl (.int .i64 1) v4 H fun v5 H =>
  Q v5 H
theorem f28.enter {Q : Post} {p_0 : Value} {H : Heap} (h : f28.w Q p_0 H) : Runs Tryz.prog 28 #[p_0] H Q :=
  fn_enter (ann := []) (by kernel_rfl) Tryz.func28 rfl (by kernel_rfl) h (by kernel_rfl)


theorem frAll_full {l : List Int} {d : Int} (h : (frAll l d).2 = 0) : (frAll l d).1.length = l.length := by
  unfold frAll at h ⊢
  split
  · simp
  · rename_i g
    rw [if_neg g] at h
    cases h

theorem fn7 {H0 : Heap} {Q : Post} {cs : List Value} {g : Prg} (hr : Has RPrg H0 cs g) (hw : wPrg g ≤ 1048576)
    (hQ : ∀ H' u w, Fresh (RFS.pair RFS) H0 [u, w] ((moRes g).1, (moRes g).2.1) H' → Q (.tuple #[u, w, .agg (frC (moRes g).2.2.1).toArray, .int .i64 (moRes g).2.2.2]) H') : Runs Tryz.prog 7 #[.agg cs.toArray] H0 Q := by
  obtain ⟨u1, u2, u3, u4, rfl, r1, r2, r3, r4⟩ := hasPrg hr
  have hz : ∀ H c, H0.Le H → moRes g = ([], [], (0, 0), c) → Q (.tuple #[.slice none 0 0, .slice none 0 0, .agg (frC (0, 0)).toArray, .int .i64 c]) H := fun H c l e => by
    have := hQ H (.slice none 0 0) (.slice none 0 0) (by rw [e]; exact fresh_nil2 l)
    rw [e] at this
    exact this
  have h := ((((Loc.start H0).lent r2).lent r4).lent hr)
  refine f7.enter ?_
  unfold f7.w
  refine Wl.box h fun H b h => Wl.new h fun H b2 h => Wl.getA h rfl (Wi.call (fn25 (h.rd (cs := [u1, u2, u3, u4])) hw fun H t l ht => ?_))
  have h := h.to l
  cases t with
  | false =>
    simp only [gw]
    exact Wi.build (cells := frC (0, 0)) rfl (Wl.putA h rfl rfl rfl fun H h => Wl.getA h rfl (hz _ _ h.le (by unfold moRes; rw [if_neg (fun g => Bool.noConfusion (ht.2 g))])))
  | true =>
  have hp := ht.1 rfl
  simp only [gw]
  refine Wl.getA h rfl (Wi.call (fn26 (h.rd (cs := [u1, u2, u3, u4])) hp fun H l => ?_))
  have h := h.to l
  cases hc : semiL g.2.1.length g.1 with
  | false =>
    simp only [gw]
    exact Wi.build (cells := frC (0, 0)) rfl (Wl.putA h rfl rfl rfl fun H h => Wl.getA h rfl (hz _ _ h.le (by unfold moRes; rw [if_pos hp, if_neg (by rw [hc]; exact Bool.false_ne_true)])))
  | true =>
  simp only [gw]
  have hpb := prg_pb hp
  have hn := hpb.n5
  have hql := hpb.ql
  have h32 := pow5 hn
  have n1 := hp.n1
  refine Wl.getA h rfl (Wi.callQ (fn27 (h.rd (cs := [u1, u2, u3, u4])) hp fun H w1 w2 f => ⟨f.le, ?_⟩))
  have h := h.add f
  refine Wi.fieldAddr (Wl.get h rfl (Wl.len h (Wl.new h fun H b3 h => Wl.putA h rfl (h.rd (cs := [w1, w2])).len (h.rd (cs := [w1, w2])).cell fun H h => Wi.chk (Wl.get h rfl ⟨rfl, rfl⟩) (Wl.getA h rfl ?_))))
  refine Wi.call (f28.enter (Wl.box h fun H b4 h => Wi.fieldAddr (Wl.get h rfl ?_)))
  obtain ⟨y1, y2, ey, _, q2⟩ := hasProb (h.rd (cs := [w1, w2]))
  cases ey
  refine Wl.lenH q2 (Wi.shl1 (by omega) ?_)
  have h := h.tl
  rw [hql]
  have hsome := fun x => moRes_some (g := g) (s := x) hp hc
  have hnone := moRes_none (g := g) hp hc
  change (∀ x, x < 2 ^ (g.2.1.length + g.2.2.2.length) → _) at hsome
  change ((∀ j, j < 2 ^ (g.2.1.length + g.2.2.2.length) → _) → _) at hnone
  generalize hN : 2 ^ (g.2.1.length + g.2.2.2.length) = N at *
  refine W.for_rule N (fun x st H => st = (.int .i64 (x : Nat), ()) ∧ Ab.Loc H0 [.box b3 [w1, w2], .data RProblem [w1, w2] (prgProblem g), .box b2 [.int .i64 0, .int .i64 0], .box b [u1, u2, u3, u4], .lent RPrg [u1, u2, u3, u4] g, .lent RS [u4] g.2.2.2, .lent RS [u2] g.2.1] H ∧ ∀ j, j < x → mcB (nOf g) (prgProblem g) j = false) ⟨rfl, h, fun j hj => by omega⟩ ?_
  rintro x st H J hx ⟨rfl, h, hbef⟩ hJ
  refine Wi.lssC (fun hlt => Wi.tru ?_) fun hge => Wi.fls ?_
  · have hxN : x < N := by omega
    have hI : I64 ((x : Int) + 1) := by unfold I64; omega
    have next : mcB (nOf g) (prgProblem g) x = false → ∀ j, j < x + 1 → mcB (nOf g) (prgProblem g) j = false := fun hm j hj => by
      by_cases e : j = x
      · subst e; exact hm
      · exact hbef j (by omega)
    refine Wl.getA h rfl (Wi.call (fn29 (h.rd (cs := [w1, w2])) hpb (by omega) (fun hz0 H l => ?_) fun hnz H w f => ?_))
    · have h := h.to l
      simp only [gw]
      exact Wi.add hI (hJ _ _ hxN ⟨rfl, h, next (mcB_no hz0)⟩)
    · have h := h.add f
      simp only [gw]
      refine Wi.call (fn30 (h.rd (cs := [w])) fun H t l ht => ?_)
      have h := h.to l
      have hm : mcB (nOf g) (prgProblem g) x = t := by
        rw [mcB_of hnz, Bool.eq_iff_iff, List.all_eq_true]
        show _ ↔ t = true
        rw [ht]
        simp [ptOf]
      cases t with
      | false =>
        simp only [gw]
        exact Wi.add hI (hJ _ _ hxN ⟨rfl, h.tl, next hm⟩)
      | true =>
      simp only [gw]
      have hmo := hsome x hxN hm hbef
      have hDa : (moD g x).natAbs ≤ 384000000 := by
        have := colL_leib (n := nOf g) x hn hpb.m
        show (((det (nOf g) (mAt (colL (nOf g) (prgProblem g).1 x))).natAbs : Nat) : Int).natAbs ≤ _
        omega
      have hD0 : moD g x ≠ 0 := by
        show (((det (nOf g) (mAt (colL (nOf g) (prgProblem g).1 x))).natAbs : Nat) : Int) ≠ 0
        have : det (nOf g) (mAt (colL (nOf g) (prgProblem g).1 x)) ≠ 0 := hnz
        omega
      have hza := moZ_abs hp x
      have hzl := moZ_len g x
      have hsa := moSum_abs hp x
      have hn5 : nOf g ≤ 5 := hn
      refine Wi.call (fnG31 (h.rd (cs := [w])) (ptOf_len x) hn (by omega) fun H z f => ?_)
      have h := (h.addG f).asG (i := 0) rfl
      have h : Ab.Loc H0 (.data (Rd.gslice Rd.int 2) [z] (moZ g x) :: _) H := h
      refine Wi.call (fnG32 (d := moD g x) (h.rd (cs := [z])).ofG1 (fun n hn => by have := hza n hn; unfold B64; omega) (by unfold B64; omega) hD0 (by omega) fun H y f => ?_)
      have h := (h.addG f).asG (i := 0) rfl
      simp only [gw]
      refine Wi.neqC (fun hne => Wi.tru ?_) fun he => Wi.fls ?_
      · exact Wi.build (cells := frC (0, 0)) rfl (Wl.putA h rfl rfl rfl fun H h => Wl.getA h rfl (hz _ _ h.le (by rw [hmo]; unfold moAt; rw [if_neg hne])))
      have hyl := frAll_full he
      rw [hzl] at hyl
      have hnof : nOf g = g.2.1.length + g.2.2.2.length := rfl
      refine Wi.fieldAddr (Wl.get h rfl (Wl.cutLoH (h.rd (cs := [z])).ofG1 (by omega) fun v hv => Wi.callQ (fn34 (h.rd (cs := [u2])) hv (by simp; omega) (A := 100) (B := 1920000000) (fun e he => by have := hp.c e he; omega) (fun e he => hza e (List.mem_of_mem_take he)) (by omega) ⟨.refl _, ?_⟩)))
      refine Wi.fieldAddr (Wl.get h rfl (Wl.cutHiG rfl (h.rd (cs := [z])) (by omega) fun v hv => Wi.callQ (fn34 (h.rd (cs := [u4])) hv (by simp; omega) (A := 100) (B := 1920000000) (fun e he => by have := hp.b e he; omega) (fun e he => hza e (List.mem_of_mem_drop he)) (by omega) ⟨.refl _, ?_⟩)))
      refine Wi.add (by unfold I64; omega) ?_
      have e2 : (2 * moD g x).natAbs ≤ 768000000 := by omega
      refine Wi.mul (by show I64 (2 * moD g x); unfold I64; omega) (Wi.callQ (fn33 (n := moSum g (moZ g x)) (d := 2 * moD g x) (by unfold B64 moSum; omega) (by unfold B64; omega) (by omega) fun H l => ⟨l, ?_⟩))
      have h := h.to l
      simp only [gw]
      refine Wl.new h fun H b5 h => Wl.putA (vs := frC _) h rfl rfl rfl fun H h => Wi.neqC (fun hne => Wi.tru ?_) fun he3 => Wi.fls ?_
      · exact Wi.build (cells := frC (0, 0)) rfl (Wl.putA h rfl rfl rfl fun H h => Wl.getA h rfl (hz _ _ h.le (by rw [hmo]; unfold moAt; rw [if_pos he, if_neg hne])))
      refine Wl.cutLoH (h.rd (cs := [y])).ofG1 (by omega) fun v hv => Wi.callQ (fn35 hv (by simp; omega) fun H c1 f => ⟨f.le, ?_⟩)
      have h := (h.addG f).asData (i := 0) rfl
      refine Wl.cutHiG rfl (h.rd (cs := [y])) (by omega) fun v hv => Wi.callQ (fn35 hv (by simp; omega) fun H c2 f => ⟨f.le, ?_⟩)
      have h := (h.addG f).asData (i := 0) rfl
      refine Wl.getA h rfl (Wl.putA h rfl rfl rfl fun H h => Wl.getA h rfl ?_)
      have hfin : moAt g x = ((frAll (moZ g x) (moD g x)).1.take g.2.1.length, (frAll (moZ g x) (moD g x)).1.drop g.2.1.length, (fracT (moSum g (moZ g x)) (2 * moD g x)).1, 0) := by
        unfold moAt
        rw [if_pos he, if_pos he3]
      have := hQ H c1 c2 (by rw [hmo, hfin]; exact h.ret2 (i := 1) (j := 0) rfl rfl (by decide))
      rw [hmo, hfin] at this
      exact this
  · have : x = N := by omega
    subst this
    exact Wi.build (cells := frC (0, 0)) rfl (Wl.putA h rfl rfl rfl fun H h => Wl.getA h rfl (hz _ _ h.le (hnone hbef)))

end Go.Proofs.YtmhbbkidedjefaaGreat
