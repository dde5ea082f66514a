/- The contract of the program's LeastAlong. No condition. -/
import Derived.Test.YtdchibdcfdbcpaaGreatM1
import Derived.Test.YtdchibdcfdbcpaaGreatGDD
namespace Go.Proofs.YtdchibdcfdbcpaaGreat
open Go.Ab

/- loop.example/g01343/impl.LeastAlong -/
def f19.w (Q : Post) (p_0 : Value) (x_1 : Value) (u_2 : Value) (H : Heap) : Prop :=
  W.box p_0 27 H fun v1 H =>
  W.new [(.int .i64 0), (.int .i64 0)] 34 H fun v2 H =>
  W.new [(.int .i64 0), (.int .i64 0)] 34 H fun v3 H =>
  W.getN 4 v1 H fun v4 H =>
  W.call Tryz.prog (.func (.func 28) #[] #[]) #[v4] H fun v5 H =>
  W.un .not v5 H fun v6 H =>
  W.cond v6 H
  (fun H => W.build [(.int .i64 0), (.int .i64 0)] [] H fun v7 H =>
   W.build [(.int .i64 0), (.int .i64 0)] [] H fun v8 H =>
   W.putN 2 v2 v7 H fun _ H =>
   W.putN 2 v3 v8 H fun _ H =>
   W.getN 2 v2 H fun v9 H => W.getN 2 v3 H fun v10 H => Q (.tuple #[v9, v10, (.int .i64 1)]) H)
  (fun H => W.len x_1 H fun v11 H =>
   W.fieldAddr 1 v1 H fun v12 H =>
   W.get v12 H fun v13 H =>
   W.len v13 H fun v14 H =>
   W.bin .neq v11 v14 H fun v15 H =>
   W.guarded v15 false (fun H k => k u_2 H) H fun v16 H =>
   W.guarded v15 false (fun H k => W.len v16 H k) H fun v17 H =>
   W.guarded v15 false (fun H k => W.fieldAddr 1 v1 H k) H fun v18 H =>
   W.guarded v15 false (fun H k => W.get v18 H k) H fun v19 H =>
   W.guarded v15 false (fun H k => W.len v19 H k) H fun v20 H =>
   W.guarded v15 false (fun H k => W.bin .neq v17 v20 H k) H fun v21 H =>
   W.pick v15 (.bool true) v21 H fun v22 H =>
   W.guarded v22 false (fun H k => k x_1 H) H fun v23 H =>
   W.guarded v22 false (fun H k => W.call Tryz.prog (.func (.func 85) #[] #[]) #[v23, (.int .i64 100)] H k) H fun v24 H =>
   W.guarded v22 false (fun H k => W.un .not v24 H k) H fun v25 H =>
   W.pick v22 (.bool true) v25 H fun v26 H =>
   W.guarded v26 false (fun H k => k u_2 H) H fun v27 H =>
   W.guarded v26 false (fun H k => W.call Tryz.prog (.func (.func 85) #[] #[]) #[v27, (.int .i64 100)] H k) H fun v28 H =>
   W.guarded v26 false (fun H k => W.un .not v28 H k) H fun v29 H =>
   W.pick v26 (.bool true) v29 H fun v30 H =>
   W.cond v30 H
   (fun H => W.build [(.int .i64 0), (.int .i64 0)] [] H fun v31 H =>
    W.build [(.int .i64 0), (.int .i64 0)] [] H fun v32 H =>
    W.putN 2 v2 v31 H fun _ H =>
    W.putN 2 v3 v32 H fun _ H =>
    W.getN 2 v2 H fun v33 H => W.getN 2 v3 H fun v34 H => Q (.tuple #[v33, v34, (.int .i64 2)]) H)
   (fun H => W.fieldAddr 0 v1 H fun v35 H =>
    W.get v35 H fun v36 H =>
    W.call Tryz.prog (.func (.func 86) #[] #[]) #[v36, u_2, u_2] H fun v37 H =>
    W.bin .leq v37 (.int .i64 0) H fun v38 H =>
    W.cond v38 H
    (fun H => W.build [(.int .i64 0), (.int .i64 0)] [] H fun v39 H =>
     W.build [(.int .i64 0), (.int .i64 0)] [] H fun v40 H =>
     W.putN 2 v2 v39 H fun _ H =>
     W.putN 2 v3 v40 H fun _ H =>
     W.getN 2 v2 H fun v41 H => W.getN 2 v3 H fun v42 H => Q (.tuple #[v41, v42, (.int .i64 5)]) H)
    (fun H => W.getN 4 v1 H fun v43 H =>
     W.call Tryz.prog (.func (.func 87) #[] #[]) #[v43, x_1, (.int .i64 1)] H fun v44 H =>
     W.call Tryz.prog (.func (.func 67) #[] #[]) #[u_2, v44] H fun v45 H =>
     W.fieldAddr 0 v1 H fun v46 H =>
     W.get v46 H fun v47 H =>
     W.callQ Tryz.prog (.func (.func 86) #[] #[]) #[v47, x_1, x_1] H fun v48 H =>
     W.fieldAddr 1 v1 H fun v49 H =>
     W.get v49 H fun v50 H =>
     W.callQ Tryz.prog (.func (.func 67) #[] #[]) #[v50, x_1] H fun v51 H =>
     W.bin .mul (.int .i64 2) v51 H fun v52 H =>
     W.bin .add v48 v52 H fun v53 H =>
     W.un .neg v45 H fun v54 H =>
     W.call Tryz.prog (.func (.func 66) #[] #[]) #[v54, v37] H fun v55 H =>
     W.extract 0 v55 H fun v56 H =>
     W.extract 1 v55 H fun v57 H =>
     W.new [(.int .i64 0), (.int .i64 0)] 34 H fun v58 H =>
     W.putN 2 v58 v56 H fun _ H =>
     W.bin .mul v53 v37 H fun v59 H =>
     W.bin .mul v45 v45 H fun v60 H =>
     W.bin .sub v59 v60 H fun v61 H =>
     W.bin .mul (.int .i64 2) v37 H fun v62 H =>
     W.call Tryz.prog (.func (.func 66) #[] #[]) #[v61, v62] H fun v63 H =>
     W.extract 0 v63 H fun v64 H =>
     W.extract 1 v63 H fun v65 H =>
     W.new [(.int .i64 0), (.int .i64 0)] 34 H fun v66 H =>
     W.putN 2 v66 v64 H fun _ H =>
     W.bin .neq v57 (.int .i64 0) H fun v67 H =>
     W.guarded v67 false (fun H k => k v65 H) H fun v68 H =>
     W.guarded v67 false (fun H k => W.bin .neq v68 (.int .i64 0) H k) H fun v69 H =>
     W.pick v67 (.bool true) v69 H fun v70 H =>
     W.cond v70 H
     (fun H => W.build [(.int .i64 0), (.int .i64 0)] [] H fun v71 H =>
      W.build [(.int .i64 0), (.int .i64 0)] [] H fun v72 H =>
      W.putN 2 v2 v71 H fun _ H =>
      W.putN 2 v3 v72 H fun _ H =>
      W.getN 2 v2 H fun v73 H => W.getN 2 v3 H fun v74 H => Q (.tuple #[v73, v74, (.int .i64 3)]) H)
     (fun H => W.getN 2 v58 H fun v75 H =>
      W.getN 2 v66 H fun v76 H =>
      W.putN 2 v2 v75 H fun _ H =>
      W.chk (fun H k => W.getN 2 v66 H k) v76 H (W.putN 2 v3 v76 H fun _ H =>
      W.getN 2 v2 H fun v77 H => W.getN 2 v3 H fun v78 H => Q (.tuple #[v77, v78, (.int .i64 0)]) H)))))
theorem f19.enter {Q : Post} {p_0 : Value} {x_1 : Value} {u_2 : Value} {H : Heap} (h : f19.w Q p_0 x_1 u_2 H) : Runs Tryz.prog 19 #[p_0, x_1, u_2] H Q :=
  fn_enter (ann := []) (by kernel_rfl) Tryz.func19 rfl (by kernel_rfl) h (by kernel_rfl)


theorem fn19 {H0 : Heap} {Q : Post} {cs : List Value} {vx vu : Value} {p : Prg} {x u : List Int} (hr : Has RPrg H0 cs p) (hx : Has RS H0 [vx] x) (hu : Has RS H0 [vu] u) (hw : wPrg p ≤ 1048576) (_ : x.length ≤ 1048576) (_ : u.length ≤ 1048576)
    (hQ : ∀ H', H0.Le H' → Q (.tuple #[.agg (frC (laRes p x u).1).toArray, .agg (frC (laRes p x u).2.1).toArray, .int .i64 (laRes p x u).2.2]) H') : Runs Tryz.prog 19 #[.agg cs.toArray, vx, vu] H0 Q := by
  obtain ⟨u1, u2, u3, u4, rfl, r1, r2, r3, r4⟩ := hasPrg hr
  refine f19.enter ?_
  unfold f19.w
  have hz : ∀ H c, H0.Le H → laRes p x u = (zFr, zFr, c) → Q (.tuple #[.agg (frC zFr).toArray, .agg (frC zFr).toArray, .int .i64 c]) H := fun H c l e => by
    have := hQ H l
    rw [e] at this
    exact this
  have h := (((((Loc.start H0).lent hu).lent hx).lent r2).lent r1).lent hr
  refine Wl.box h fun H b h => Wl.new h fun H b2 h => Wl.new h fun H b3 h => Wl.getA h rfl (Wi.call (fn28 (h.rd (cs := [u1, u2, u3, u4])) hw fun H t l ht => ?_))
  have h := h.to l
  cases t with
  | false =>
    have hp : ¬ IsPrg p := fun g => Bool.noConfusion (ht.2 g)
    simp only [g7, g10]
    exact Wi.build (cells := frC zFr) rfl (Wi.build (cells := frC zFr) rfl (Wl.putA h rfl rfl rfl fun H h => Wl.putA h rfl rfl rfl fun H h => Wl.getA h rfl (Wl.getA h rfl (hz _ _ h.le (by simp only [laRes, if_neg hp])))))
  | true =>
  have hp := ht.1 rfl
  have n1 := hp.n1; have nm := hp.nm; have dl := hp.dl
  simp only [g8, g9]
  have bad : ∀ H, Ab.Loc H0 [.box b3 [.int .i64 0, .int .i64 0], .box b2 [.int .i64 0, .int .i64 0]] H → ¬ laOK p x u → W.build [.int .i64 0, .int .i64 0] [] H fun v31 H => W.build [.int .i64 0, .int .i64 0] [] H fun v32 H => W.putN 2 (pt b2 0) v31 H fun _ H => W.putN 2 (pt b3 0) v32 H fun _ H => W.getN 2 (pt b2 0) H fun v33 H => W.getN 2 (pt b3 0) H fun v34 H => Q (.tuple #[v33, v34, .int .i64 2]) H := fun H h hn =>
    Wi.build (cells := frC zFr) rfl (Wi.build (cells := frC zFr) rfl (Wl.putA h rfl rfl rfl fun H h => Wl.putA h rfl rfl rfl fun H h => Wl.getA h rfl (Wl.getA h rfl (hz _ _ h.le (by simp only [laRes, if_pos hp, if_neg hn])))))
  refine Wl.len h (Wi.fieldAddr0 (Wl.get h rfl (Wl.len h (Wi.neqC (fun hne => ?_) fun hxl => ?_))))
  · simp only [gw]
    exact bad _ (h.first 2) fun g => hne (by rw [g.1])
  simp only [gw]
  refine Wl.len h (Wi.fieldAddr0 (Wl.get h rfl (Wl.len h (Wi.neqC (fun hne => ?_) fun hul => ?_))))
  · simp only [gw]
    exact bad _ (h.first 2) fun g => hne (by rw [g.2.1])
  simp only [gw]
  obtain ⟨bsx, qx⟩ := h.rd (cs := [vx])
  refine Wi.call (fn85 (by unfold I64; omega) qx fun H l => ?_)
  have h := h.to l
  cases hxu : allUp 100 x with
  | false =>
    simp only [gw]
    exact bad _ (h.first 2) fun g => by rw [g.2.2.1] at hxu; cases hxu
  | true =>
  simp only [gw]
  obtain ⟨bsu, qu⟩ := h.rd (cs := [vu])
  refine Wi.call (fn85 (by unfold I64; omega) qu fun H l => ?_)
  have h := h.to l
  cases huu : allUp 100 u with
  | false =>
    simp only [gw]
    exact bad _ (h.first 2) fun g => by rw [g.2.2.2] at huu; cases huu
  | true =>
  simp only [gw]
  have ok : laOK p x u := ⟨by omega, by omega, hxu, huu⟩
  have hX := up_abs hxu
  have hU := up_abs huu
  have hM : ∀ n : Nat, n = p.2.1.length → ∀ r ∈ p.1, (r.length ≤ 5 ∧ ∀ e ∈ r, e.natAbs ≤ 20) ∧ r.length ≤ n := fun n hn r hr => by
    have := hp.d r hr
    exact ⟨⟨by omega, fun e he => by have := this.2 e he; omega⟩, by omega⟩
  have h5 := mul5 (n := p.1.length) (N := 100 * (5 * (20 * 100))) (by omega)
  refine Wi.fieldAddr0 (Wl.get h rfl (Wi.call (fn86 (N := 5) (M := 20) (X := 100) (Y := 100) (h.rd (cs := [u1])) (h.rd (cs := [vu])) (h.rd (cs := [vu])) (by omega) (hM _ (by omega)) hU hU (by omega) (by omega) ?_)))
  refine Wi.leqC (fun hle => Wi.tru ?_) fun hgt => Wi.fls ?_
  · refine Wi.build (cells := frC zFr) rfl (Wi.build (cells := frC zFr) rfl (Wl.putA h rfl rfl rfl fun H h => Wl.putA h rfl rfl rfl fun H h => Wl.getA h rfl (Wl.getA h rfl (hz _ _ h.le ?_))))
    simp only [laRes, if_pos hp, if_pos ok]
    rw [if_neg (by unfold bendV; omega)]
  have hb : 0 < bendV p u := by unfold bendV; omega
  have b1 : (bendV p u).natAbs ≤ 5000000 := bend_abs hp hU hU
  have b2' := slope_abs hp (u := u) (by omega) hX hU
  have b3' := twice_abs hp hX
  have b4 := bend_abs hp hX hX
  have b5 := dotc_abs hp hX
  have hla : laRes p x u = (if (fracT (-slopeV p x u) (bendV p u)).2 = 0 ∧ (fracT (twiceV p x * bendV p u - slopeV p x u * slopeV p x u) (2 * bendV p u)).2 = 0 then
      ((fracT (-slopeV p x u) (bendV p u)).1, (fracT (twiceV p x * bendV p u - slopeV p x u * slopeV p x u) (2 * bendV p u)).1, 0) else (zFr, zFr, 3)) := by
    simp only [laRes, if_pos hp, if_pos ok, if_pos hb]
  have m1 := mul_abs b3' b1
  have m2 := mul_abs b2' b2'
  refine Wl.getA h rfl (Wi.call (fn87 (h.rd (cs := [u1, u2, u3, u4])) (h.rd (cs := [vx])) hp (by omega) hX fun H s l hs => ?_))
  have h := h.to l
  have hsl : (slopesV p x).length = p.1.length := by simp [slopesV]
  have h6 := mul5 (n := u.length) (N := 100 * 10100) (by omega)
  refine Wi.call (fn67 (h.rd (cs := [vu])) hs (by omega) hU (slopes_abs hp hX) (by omega) ?_)
  refine Wi.fieldAddr0 (Wl.get h rfl (Wi.callQ (fn86 (N := 5) (M := 20) (X := 100) (Y := 100) (h.rd (cs := [u1])) (h.rd (cs := [vx])) (h.rd (cs := [vx])) (by omega) (hM _ (by omega)) hX hX (by omega) (by omega) ⟨.refl _, ?_⟩)))
  have h7 := mul5 (n := p.2.1.length) (N := 100 * 100) (by omega)
  have hca : ∀ e ∈ p.2.1, e.natAbs ≤ 100 := fun e he => by have := hp.c e he; omega
  refine Wi.fieldAddr0 (Wl.get h rfl (Wi.callQ (fn67 (h.rd (cs := [u2])) (h.rd (cs := [vx])) (by omega) hca hX (by omega) ⟨.refl _, ?_⟩)))
  have eb : formV p.1 u u = bendV p u := rfl
  have es : dot u (slopesV p x) = slopeV p x u := rfl
  have et : formV p.1 x x + 2 * dot p.2.1 x = twiceV p x := rfl
  rw [eb, es]
  refine Wi.mul (by unfold I64; omega) (Wi.add (by unfold I64; omega) (Wi.neg (by unfold I64; omega) ?_))
  rw [et]
  refine Wi.call (fn66 (by unfold B64; omega) (by unfold B64; omega) (by omega) fun H l => ?_)
  have h := h.to l
  simp only [g13, g14, g11, g12]
  refine Wl.new h fun H bt h => Wl.putA h rfl rfl rfl fun H h => ?_
  refine Wi.mul (by unfold I64; omega) (Wi.mul (by unfold I64; omega) (Wi.sub (by unfold I64; omega) (Wi.mul (by unfold I64; omega) ?_)))
  refine Wi.call (fn66 (by unfold B64; omega) (by unfold B64; omega) (by omega) fun H l => ?_)
  have h := h.to l
  simp only [g13, g14, g11, g12]
  refine Wl.new h fun H bv h => Wl.putA h rfl rfl rfl fun H h => ?_
  generalize e1 : fracT (-slopeV p x u) (bendV p u) = t1 at *
  generalize e2 : fracT (twiceV p x * bendV p u - slopeV p x u * slopeV p x u) (2 * bendV p u) = t2 at *
  have big : ∀ H, Ab.Loc H0 [.box b3 [.int .i64 0, .int .i64 0], .box b2 [.int .i64 0, .int .i64 0]] H → ¬ (t1.2 = 0 ∧ t2.2 = 0) → W.build [.int .i64 0, .int .i64 0] [] H fun v31 H => W.build [.int .i64 0, .int .i64 0] [] H fun v32 H => W.putN 2 (pt b2 0) v31 H fun _ H => W.putN 2 (pt b3 0) v32 H fun _ H => W.getN 2 (pt b2 0) H fun v33 H => W.getN 2 (pt b3 0) H fun v34 H => Q (.tuple #[v33, v34, .int .i64 3]) H := fun H h hn =>
    Wi.build (cells := frC zFr) rfl (Wi.build (cells := frC zFr) rfl (Wl.putA h rfl rfl rfl fun H h => Wl.putA h rfl rfl rfl fun H h => Wl.getA h rfl (Wl.getA h rfl (hz _ _ h.le (by rw [hla, if_neg hn])))))
  have hsub : Ab.Loc H0 [.box b3 [.int .i64 0, .int .i64 0], .box b2 [.int .i64 0, .int .i64 0]] _ := h.tl.tl.first 2
  refine Wi.neqC (fun hne => ?_) fun hq1 => ?_
  · simp only [gw]
    exact big _ hsub fun g => hne g.1
  simp only [gw]
  refine Wi.neqC (fun hne => ?_) fun hq2 => ?_
  · simp only [gw]
    exact big _ hsub fun g => hne g.2
  simp only [gw]
  refine Wl.getA h rfl (Wl.getA h rfl (Wl.putA h rfl rfl rfl fun H h => Wi.chk (Wl.getA h rfl ⟨rfl, rfl⟩) (Wl.putA h rfl rfl rfl fun H h => Wl.getA h rfl (Wl.getA h rfl ?_))))
  have := hQ _ h.le
  rw [hla, if_pos ⟨hq1, hq2⟩] at this
  exact this

end Go.Proofs.YtdchibdcfdbcpaaGreat
/-! The contract of the reference's LeastAlong. No condition. -/
namespace Go.Proofs.YtdchibdcfdbcpaaGreat
open Go.Ab

/- loop.example/g01343/spec.LeastAlong -/
def f20.l3 (Q : Post) (x_1 : Value) (i_13 : Value) (v1 : Value) (u_2 : Value) (I2 : St [10, 11, 12, 13] → Heap → Prop) (I3 : St [10, 11, 12, 14] → Heap → Prop) (f_10' : Value) (g_11' : Value) (h_12' : Value) (k_14 : Value) (H : Heap) : Prop :=
  W.len x_1 H fun v64 H =>
  W.bin .lss k_14 v64 H fun v65 H =>
  W.cond v65 H
  (fun H => W.indexAddr 1 x_1 i_13 H fun v66 H =>
   W.get v66 H fun v67 H =>
   W.fieldAddr 0 v1 H fun v68 H =>
   W.get v68 H fun v69 H =>
   W.indexAddr 1 v69 i_13 H fun v70 H =>
   W.get v70 H fun v71 H =>
   W.indexAddr 1 v71 k_14 H fun v72 H =>
   W.get v72 H fun v73 H =>
   W.bin .mul v67 v73 H fun v74 H =>
   W.indexAddr 1 x_1 k_14 H fun v75 H =>
   W.get v75 H fun v76 H =>
   W.bin .mul v74 v76 H fun v77 H =>
   W.bin .add f_10' v77 H fun v78 H =>
   W.indexAddr 1 u_2 i_13 H fun v79 H =>
   W.get v79 H fun v80 H =>
   W.fieldAddr 0 v1 H fun v81 H =>
   W.get v81 H fun v82 H =>
   W.indexAddr 1 v82 i_13 H fun v83 H =>
   W.get v83 H fun v84 H =>
   W.indexAddr 1 v84 k_14 H fun v85 H =>
   W.get v85 H fun v86 H =>
   W.bin .mul v80 v86 H fun v87 H =>
   W.indexAddr 1 x_1 k_14 H fun v88 H =>
   W.get v88 H fun v89 H =>
   W.bin .mul v87 v89 H fun v90 H =>
   W.bin .add g_11' v90 H fun v91 H =>
   W.indexAddr 1 u_2 i_13 H fun v92 H =>
   W.get v92 H fun v93 H =>
   W.fieldAddr 0 v1 H fun v94 H =>
   W.get v94 H fun v95 H =>
   W.indexAddr 1 v95 i_13 H fun v96 H =>
   W.get v96 H fun v97 H =>
   W.indexAddr 1 v97 k_14 H fun v98 H =>
   W.get v98 H fun v99 H =>
   W.bin .mul v93 v99 H fun v100 H =>
   W.indexAddr 1 u_2 k_14 H fun v101 H =>
   W.get v101 H fun v102 H =>
   W.bin .mul v100 v102 H fun v103 H =>
   W.bin .add h_12' v103 H fun v104 H =>
   W.bin .add k_14 (.int .i64 1) H fun v105 H =>
   I3 (v78, v91, v104, v105, ()) H)
  (fun H => W.bin .add i_13 (.int .i64 1) H fun v106 H =>
   I2 (f_10', g_11', h_12', v106, ()) H)
def f20.l2 (Q : Post) (x_1 : Value) (v1 : Value) (u_2 : Value) (v2 : Value) (v3 : Value) (I2 : St [10, 11, 12, 13] → Heap → Prop) (f_10 : Value) (g_11 : Value) (h_12 : Value) (i_13 : Value) (H : Heap) : Prop :=
  W.len x_1 H fun v45 H =>
  W.bin .lss i_13 v45 H fun v46 H =>
  W.cond v46 H
  (fun H => W.fieldAddr 1 v1 H fun v47 H =>
   W.get v47 H fun v48 H =>
   W.indexAddr 1 v48 i_13 H fun v49 H =>
   W.get v49 H fun v50 H =>
   W.bin .mul (.int .i64 2) v50 H fun v51 H =>
   W.indexAddr 1 x_1 i_13 H fun v52 H =>
   W.get v52 H fun v53 H =>
   W.bin .mul v51 v53 H fun v54 H =>
   W.bin .add f_10 v54 H fun v55 H =>
   W.fieldAddr 1 v1 H fun v56 H =>
   W.get v56 H fun v57 H =>
   W.indexAddr 1 v57 i_13 H fun v58 H =>
   W.get v58 H fun v59 H =>
   W.indexAddr 1 u_2 i_13 H fun v60 H =>
   W.get v60 H fun v61 H =>
   W.bin .mul v59 v61 H fun v62 H =>
   W.bin .add g_11 v62 H fun v63 H =>
   W.loop (S := St [10, 11, 12, 14]) (fun I3 s H => f20.l3 Q x_1 i_13 v1 u_2 I2 I3 s.1 s.2.1 s.2.2.1 s.2.2.2.1 H) (v55, v63, h_12, (.int .i64 0), ()) H)
  (fun H => W.bin .leq h_12 (.int .i64 0) H fun v107 H =>
   W.cond v107 H
   (fun H => W.build [(.int .i64 0), (.int .i64 0)] [] H fun v108 H =>
    W.build [(.int .i64 0), (.int .i64 0)] [] H fun v109 H =>
    W.putN 2 v2 v108 H fun _ H =>
    W.putN 2 v3 v109 H fun _ H =>
    W.getN 2 v2 H fun v110 H => W.getN 2 v3 H fun v111 H => Q (.tuple #[v110, v111, (.int .i64 5)]) H)
   (fun H => W.un .neg g_11 H fun v112 H =>
    W.call Tryz.prog (.func (.func 89) #[] #[]) #[v112, h_12] H fun v113 H =>
    W.call Tryz.prog (.func (.func 88) #[] #[]) #[v113] H fun v114 H =>
    W.extract 0 v114 H fun v115 H =>
    W.extract 1 v114 H fun v116 H =>
    W.new [(.int .i64 0), (.int .i64 0)] 34 H fun v117 H =>
    W.putN 2 v117 v115 H fun _ H =>
    W.bin .mul f_10 h_12 H fun v118 H =>
    W.bin .mul g_11 g_11 H fun v119 H =>
    W.bin .sub v118 v119 H fun v120 H =>
    W.bin .mul (.int .i64 2) h_12 H fun v121 H =>
    W.call Tryz.prog (.func (.func 89) #[] #[]) #[v120, v121] H fun v122 H =>
    W.call Tryz.prog (.func (.func 88) #[] #[]) #[v122] H fun v123 H =>
    W.extract 0 v123 H fun v124 H =>
    W.extract 1 v123 H fun v125 H =>
    W.new [(.int .i64 0), (.int .i64 0)] 34 H fun v126 H =>
    W.putN 2 v126 v124 H fun _ H =>
    W.bin .neq v116 (.int .i64 0) H fun v127 H =>
    W.guarded v127 false (fun H k => k v125 H) H fun v128 H =>
    W.guarded v127 false (fun H k => W.bin .neq v128 (.int .i64 0) H k) H fun v129 H =>
    W.pick v127 (.bool true) v129 H fun v130 H =>
    W.cond v130 H
    (fun H => W.build [(.int .i64 0), (.int .i64 0)] [] H fun v131 H =>
     W.build [(.int .i64 0), (.int .i64 0)] [] H fun v132 H =>
     W.putN 2 v2 v131 H fun _ H =>
     W.putN 2 v3 v132 H fun _ H =>
     W.getN 2 v2 H fun v133 H => W.getN 2 v3 H fun v134 H => Q (.tuple #[v133, v134, (.int .i64 3)]) H)
    (fun H => W.getN 2 v117 H fun v135 H =>
     W.getN 2 v126 H fun v136 H =>
     W.putN 2 v2 v135 H fun _ H =>
     W.chk (fun H k => W.getN 2 v126 H k) v136 H (W.putN 2 v3 v136 H fun _ H =>
     W.getN 2 v2 H fun v137 H => W.getN 2 v3 H fun v138 H => Q (.tuple #[v137, v138, (.int .i64 0)]) H))))
def f20.l1 (Q : Post) (x_1 : Value) (u_2 : Value) (v2 : Value) (v3 : Value) (v1 : Value) (I1 : St [9] → Heap → Prop) (i_9 : Value) (H : Heap) : Prop :=
  W.len x_1 H fun v27 H =>
  W.bin .lss i_9 v27 H fun v28 H =>
  W.cond v28 H
  (fun H => W.indexAddr 1 x_1 i_9 H fun v29 H =>
   W.get v29 H fun v30 H =>
   W.call Tryz.prog (.func (.func 77) #[] #[]) #[v30, (.int .i64 (-100)), (.int .i64 100)] H fun v31 H =>
   W.un .not v31 H fun v32 H =>
   W.guarded v32 false (fun H k => k u_2 H) H fun v33 H =>
   W.guarded v32 false (fun H k => k i_9 H) H fun v34 H =>
   W.guarded v32 false (fun H k => W.indexAddr 1 v33 v34 H k) H fun v35 H =>
   W.guarded v32 false (fun H k => W.get v35 H k) H fun v36 H =>
   W.guarded v32 false (fun H k => W.call Tryz.prog (.func (.func 77) #[] #[]) #[v36, (.int .i64 (-100)), (.int .i64 100)] H k) H fun v37 H =>
   W.guarded v32 false (fun H k => W.un .not v37 H k) H fun v38 H =>
   W.pick v32 (.bool true) v38 H fun v39 H =>
   W.cond v39 H
   (fun H => W.build [(.int .i64 0), (.int .i64 0)] [] H fun v40 H =>
    W.build [(.int .i64 0), (.int .i64 0)] [] H fun v41 H =>
    W.putN 2 v2 v40 H fun _ H =>
    W.putN 2 v3 v41 H fun _ H =>
    W.getN 2 v2 H fun v42 H => W.getN 2 v3 H fun v43 H => Q (.tuple #[v42, v43, (.int .i64 2)]) H)
   (fun H => W.bin .add i_9 (.int .i64 1) H fun v44 H =>
    I1 (v44, ()) H))
  (fun H => W.loop (S := St [10, 11, 12, 13]) (fun I2 s H => f20.l2 Q x_1 v1 u_2 v2 v3 I2 s.1 s.2.1 s.2.2.1 s.2.2.2.1 H) ((.int .i64 0), (.int .i64 0), (.int .i64 0), (.int .i64 0), ()) H)
def f20.w (Q : Post) (p_0 : Value) (x_1 : Value) (u_2 : Value) (H : Heap) : Prop :=
  W.box p_0 27 H fun v1 H =>
  W.new [(.int .i64 0), (.int .i64 0)] 34 H fun v2 H =>
  W.new [(.int .i64 0), (.int .i64 0)] 34 H fun v3 H =>
  W.getN 4 v1 H fun v4 H =>
  W.call Tryz.prog (.func (.func 54) #[] #[]) #[v4] H fun v5 H =>
  W.un .not v5 H fun v6 H =>
  W.cond v6 H
  (fun H => W.build [(.int .i64 0), (.int .i64 0)] [] H fun v7 H =>
   W.build [(.int .i64 0), (.int .i64 0)] [] H fun v8 H =>
   W.putN 2 v2 v7 H fun _ H =>
   W.putN 2 v3 v8 H fun _ H =>
   W.getN 2 v2 H fun v9 H => W.getN 2 v3 H fun v10 H => Q (.tuple #[v9, v10, (.int .i64 1)]) H)
  (fun H => W.len x_1 H fun v11 H =>
   W.fieldAddr 1 v1 H fun v12 H =>
   W.get v12 H fun v13 H =>
   W.len v13 H fun v14 H =>
   W.bin .neq v11 v14 H fun v15 H =>
   W.guarded v15 false (fun H k => k u_2 H) H fun v16 H =>
   W.guarded v15 false (fun H k => W.len v16 H k) H fun v17 H =>
   W.guarded v15 false (fun H k => W.fieldAddr 1 v1 H k) H fun v18 H =>
   W.guarded v15 false (fun H k => W.get v18 H k) H fun v19 H =>
   W.guarded v15 false (fun H k => W.len v19 H k) H fun v20 H =>
   W.guarded v15 false (fun H k => W.bin .neq v17 v20 H k) H fun v21 H =>
   W.pick v15 (.bool true) v21 H fun v22 H =>
   W.cond v22 H
   (fun H => W.build [(.int .i64 0), (.int .i64 0)] [] H fun v23 H =>
    W.build [(.int .i64 0), (.int .i64 0)] [] H fun v24 H =>
    W.putN 2 v2 v23 H fun _ H =>
    W.putN 2 v3 v24 H fun _ H =>
    W.getN 2 v2 H fun v25 H => W.getN 2 v3 H fun v26 H => Q (.tuple #[v25, v26, (.int .i64 2)]) H)
   (fun H => W.loop (S := St [9]) (fun I1 s H => f20.l1 Q x_1 u_2 v2 v3 v1 I1 s.1 H) ((.int .i64 0), ()) H))
theorem f20.enter {Q : Post} {p_0 : Value} {x_1 : Value} {u_2 : Value} {H : Heap} (h : f20.w Q p_0 x_1 u_2 H) : Runs Tryz.prog 20 #[p_0, x_1, u_2] H Q :=
  fn_enter (ann := [(6, [9]), (12, [10, 11, 12, 13]), (17, [10, 11, 12, 14])]) (by kernel_rfl) Tryz.func20 rfl (by kernel_rfl) h (by kernel_rfl)


theorem told_frac {H0 : Heap} {Q : Post} {n d : Int} (hQ : ∀ H', H0.Le H' → Q (.tuple #[.agg (frC (fracT n d).1).toArray, .int .i64 (fracT n d).2]) H') : Runs Tryz.prog 88 #[.agg (frC (frac n d)).toArray] H0 Q := fn88 hQ

abbrev laT (a b : List Int) (p : Prg) (i : Nat) : Nat → Int := fun k => a.getD i 0 * (p.1.getD i []).getD k 0 * b.getD k 0
abbrev laF (p : Prg) (x : List Int) : Nat → Int := fun i => 2 * p.2.1.getD i 0 * x.getD i 0 + sumTo (laT x x p i) p.2.1.length
abbrev laG (p : Prg) (x u : List Int) : Nat → Int := fun i => p.2.1.getD i 0 * u.getD i 0 + sumTo (laT u x p i) p.2.1.length
abbrev laH (p : Prg) (u : List Int) : Nat → Int := fun i => sumTo (laT u u p i) p.2.1.length

theorem laS_eq {p : Prg} (hp : IsPrg p) (a b : List Int) {i : Nat} (hi : i < p.2.1.length) : sumTo (laT a b p i) p.2.1.length = a.getD i 0 * dot (p.1.getD i []) b := by
  have dl := hp.dl
  have hix : i < p.1.length := by omega
  have hl := (hp.d _ (List.getElem_mem hix)).1
  unfold dot
  rw [← sumTo_mul, getD_row hix, hl]
  refine sumTo_congr fun k _ => ?_
  simp only [laT, dotF]
  rw [getD_row hix, Int.mul_assoc]

theorem laF_eq {p : Prg} (hp : IsPrg p) (x : List Int) : sumTo (laF p x) p.2.1.length = twiceV p x := by
  have dl := hp.dl
  have e1 : sumTo (laF p x) p.2.1.length = sumTo (fun i => 2 * dotF p.2.1 x i + x.getD i 0 * dot (p.1.getD i []) x) p.2.1.length := sumTo_congr fun i hi => by
    simp only [laF, dotF]
    rw [laS_eq hp x x hi, Int.mul_assoc]
  rw [e1, sumTo_add, sumTo_mul]
  unfold twiceV formV dot
  rw [dl, Int.add_comm]

theorem laG_eq {p : Prg} (hp : IsPrg p) {x u : List Int} (hl : u.length = p.2.1.length) : sumTo (laG p x u) p.2.1.length = slopeV p x u := by
  have dl := hp.dl
  unfold slopeV
  conv => rhs; unfold dot
  rw [hl]
  refine sumTo_congr fun i hi => ?_
  have hs : i < (slopesV p x).length := by simp [slopesV]; omega
  simp only [laG, dotF]
  rw [laS_eq hp u x hi, getD_at hs]
  simp only [slopesV, List.getElem_map, List.getElem_range]
  rw [Int.mul_one, Int.mul_add, Int.mul_comm (p.2.1.getD i 0)]

theorem laH_eq {p : Prg} (hp : IsPrg p) (u : List Int) : sumTo (laH p u) p.2.1.length = bendV p u := by
  have dl := hp.dl
  unfold bendV formV
  rw [dl]
  exact sumTo_congr fun i hi => laS_eq hp u u hi

theorem laT_abs {p : Prg} (hp : IsPrg p) {a b : List Int} (hA : ∀ e ∈ a, e.natAbs ≤ 100) (hB : ∀ e ∈ b, e.natAbs ≤ 100) (i k : Nat) : (laT a b p i k).natAbs ≤ 100 * 20 * 100 := by
  refine mul_abs (mul_abs (getD_abs hA i) ?_) (getD_abs hB k)
  by_cases hi : i < p.1.length
  · rw [getD_row hi]
    exact getD_abs (fun e he => by have := (hp.d _ (List.getElem_mem hi)).2 e he; omega) k
  · simp [List.getD_eq_getElem?_getD, List.getElem?_eq_none (show p.1.length ≤ i by omega)]

theorem laTs_abs {p : Prg} (hp : IsPrg p) {a b : List Int} (hA : ∀ e ∈ a, e.natAbs ≤ 100) (hB : ∀ e ∈ b, e.natAbs ≤ 100) (i : Nat) {k : Nat} (hk : k ≤ 5) : (sumTo (laT a b p i) k).natAbs ≤ 1000000 := by
  have h1 : (sumTo (laT a b p i) k).natAbs ≤ k * (100 * 20 * 100) := sumTo_abs fun j _ => laT_abs hp hA hB i j
  have := mul5 (N := 100 * 20 * 100) hk
  omega

/-- A bound that is not looked into. -/
def LeA (x : Int) (B : Nat) : Prop := x.natAbs ≤ B
theorem LeA.add {x y : Int} {A B : Nat} (h1 : LeA x A) (h2 : LeA y B) : LeA (x + y) (A + B) := by unfold LeA at *; omega
theorem LeA.i64 {x : Int} {A : Nat} (h : LeA x A) (hA : A < 9223372036854775808) : I64 x := abs_i64 h hA
theorem abs20 {x : Int} (h : -20 ≤ x ∧ x ≤ 20) : LeA x 20 := by unfold LeA; omega
theorem i64_succ {k n : Nat} (h : k ≤ n) (hn : n ≤ 5) : I64 ((k : Int) + 1) := by unfold I64; omega

theorem la_l3 {H0 H : Heap} {Q : Post} {vx vu u1 u2 u3 u4 : Value} {b b2 b3 : Nat} {p : Prg} {x u : List Int} (h : Ab.Loc H0 [.box b3 [.int .i64 0, .int .i64 0], .box b2 [.int .i64 0, .int .i64 0], .box b [u1, u2, u3, u4], .lent RPrg [u1, u2, u3, u4] p, .lent RSS [u1] p.1, .lent RS [u2] p.2.1, .lent RS [vx] x, .lent RS [vu] u] H) (hp : IsPrg p) (hxl : x.length = p.2.1.length) (hul : u.length = p.2.1.length) (hX : ∀ e ∈ x, e.natAbs ≤ 100) (hU : ∀ e ∈ u, e.natAbs ≤ 100)
    {i : Nat} (hic : i < p.2.1.length) {J2 : St [10, 11, 12, 13] → Heap → Prop} {f g c : Int} (hf : LeA f 10000000) (hg : LeA g 10000000) (hc : LeA c 10000000)
    (hJ2 : J2 (.int .i64 (f + sumTo (laT x x p i) p.2.1.length), .int .i64 (g + sumTo (laT u x p i) p.2.1.length), .int .i64 (c + sumTo (laT u u p i) p.2.1.length), .int .i64 ((i + 1 : Nat) : Int), ()) H) :
    W.loop (S := St [10, 11, 12, 14]) (fun I3 s H => f20.l3 Q vx (.int .i64 (i : Nat)) (pt b 0) vu J2 I3 s.1 s.2.1 s.2.2.1 s.2.2.2.1 H) (.int .i64 f, .int .i64 g, .int .i64 c, .int .i64 0, ()) H := by
  have n1 := hp.n1; have nm := hp.nm; have dl := hp.dl
  have hix : i < x.length := by omega
  have hiu : i < u.length := by omega
  have hid : i < p.1.length := by omega
  have hrow := hp.d _ (List.getElem_mem hid)
  have hrl := hrow.1
  have n5 : p.2.1.length ≤ 5 := by omega
  refine W.for_rule p.2.1.length (fun k s H' => H' = H ∧ s = (.int .i64 (f + sumTo (laT x x p i) k), .int .i64 (g + sumTo (laT u x p i) k), .int .i64 (c + sumTo (laT u u p i) k), .int .i64 (k : Nat), ())) ⟨rfl, by simp only [sumTo, Int.add_zero]; rfl⟩ ?_
  rintro k s H2 J3 hk ⟨rfl, rfl⟩ hJ3
  refine Wl.len h (Wi.lssC (fun hlt2 => Wi.tru ?_) fun hge2 => Wi.fls ?_)
  · have hkx : k < x.length := by omega
    have hku : k < u.length := by omega
    have hkd : k < p.1[i].length := by omega
    have hkn : k < p.2.1.length := by omega
    have hk5 : k ≤ 5 := by omega
    have s1 : LeA _ _ := laTs_abs hp hX hX i (k := k) hk5
    have s2 : LeA _ _ := laTs_abs hp hU hX i (k := k) hk5
    have s3 : LeA _ _ := laTs_abs hp hU hU i (k := k) hk5
    have t1 : LeA _ _ := laT_abs hp hX hX i k
    have t2 : LeA _ _ := laT_abs hp hU hX i k
    have t3 : LeA _ _ := laT_abs hp hU hU i k
    have e1 : laT x x p i k = x[i] * p.1[i][k] * x[k] := by simp only [laT]; rw [getD_at hix, getD_row hid, getD_at hkd, getD_at hkx]
    have e2 : laT u x p i k = u[i] * p.1[i][k] * x[k] := by simp only [laT]; rw [getD_at hiu, getD_row hid, getD_at hkd, getD_at hkx]
    have e3 : laT u u p i k = u[i] * p.1[i][k] * u[k] := by simp only [laT]; rw [getD_at hiu, getD_row hid, getD_at hkd, getD_at hku]
    rw [e1] at t1; rw [e2] at t2; rw [e3] at t3
    have hdk : LeA p.1[i][k] 20 := abs20 (hrow.2 _ (List.getElem_mem hkd))
    have o1 : I64 (x[i] * p.1[i][k]) := abs_i64 (mul_abs (hX _ (List.getElem_mem hix)) hdk) (by decide)
    have o2 : I64 (u[i] * p.1[i][k]) := abs_i64 (mul_abs (hU _ (List.getElem_mem hiu)) hdk) (by decide)
    have o3 := t1.i64 (by decide)
    have o4 := t2.i64 (by decide)
    have o5 := t3.i64 (by decide)
    have o6 := ((hf.add s1).add t1).i64 (by decide)
    have o7 := ((hg.add s2).add t2).i64 (by decide)
    have o8 := ((hc.add s3).add t3).i64 (by decide)
    have o9 : I64 ((k : Int) + 1) := i64_succ hk5 (Nat.le_refl _)
    refine Wl.atInt h hix fun _ => Wi.fieldAddr0 (Wl.get h rfl (Wl.at1 rfl h hid fun w hw => Wl.atIntH hw hkd fun _ => Wi.mul o1 (Wl.atInt h hkx fun _ => Wi.mul o3 (Wi.add o6 ?_))))
    refine Wl.atInt h hiu fun _ => Wi.fieldAddr0 (Wl.get h rfl (Wl.at1 rfl h hid fun w hw => Wl.atIntH hw hkd fun _ => Wi.mul o2 (Wl.atInt h hkx fun _ => Wi.mul o4 (Wi.add o7 ?_))))
    refine Wl.atInt h hiu fun _ => Wi.fieldAddr0 (Wl.get h rfl (Wl.at1 rfl h hid fun w hw => Wl.atIntH hw hkd fun _ => Wi.mul o2 (Wl.atInt h hku fun _ => Wi.mul o5 (Wi.add o8 ?_))))
    refine Wi.add o9 (hJ3 _ _ hkn ⟨rfl, ?_⟩)
    simp only [sumTo]
    rw [e1, e2, e3, ← Int.add_assoc, ← Int.add_assoc, ← Int.add_assoc]
    rfl
  · have : k = p.2.1.length := by omega
    subst this
    exact Wi.add (i64_succ (show i ≤ 5 by omega) (Nat.le_refl _)) hJ2

theorem la_l2 {H0 H : Heap} {Q : Post} {vx vu u1 u2 u3 u4 : Value} {b b2 b3 : Nat} {p : Prg} {x u : List Int} (h : Ab.Loc H0 [.box b3 [.int .i64 0, .int .i64 0], .box b2 [.int .i64 0, .int .i64 0], .box b [u1, u2, u3, u4], .lent RPrg [u1, u2, u3, u4] p, .lent RSS [u1] p.1, .lent RS [u2] p.2.1, .lent RS [vx] x, .lent RS [vu] u] H) (hp : IsPrg p) (hxl : x.length = p.2.1.length) (hul : u.length = p.2.1.length) (hX : ∀ e ∈ x, e.natAbs ≤ 100) (hU : ∀ e ∈ u, e.natAbs ≤ 100)
    {i : Nat} (hic : i < p.2.1.length) {J2 : St [10, 11, 12, 13] → Heap → Prop}
    (hJ2 : J2 (.int .i64 (sumTo (laF p x) (i + 1)), .int .i64 (sumTo (laG p x u) (i + 1)), .int .i64 (sumTo (laH p u) (i + 1)), .int .i64 ((i + 1 : Nat) : Int), ()) H) :
    f20.l2 Q vx (pt b 0) vu (pt b2 0) (pt b3 0) J2 (.int .i64 (sumTo (laF p x) i)) (.int .i64 (sumTo (laG p x u) i)) (.int .i64 (sumTo (laH p u) i)) (.int .i64 (i : Nat)) H := by
  have n1 := hp.n1; have nm := hp.nm; have dl := hp.dl
  have hC : ∀ e ∈ p.2.1, e.natAbs ≤ 100 := fun e he => by have := hp.c e he; omega
  have cx : ∀ i, (2 * p.2.1.getD i 0 * x.getD i 0).natAbs ≤ 2 * 100 * 100 := fun i => mul_abs (mul_abs (by decide) (getD_abs hC i)) (getD_abs hX i)
  have cu : ∀ i, (p.2.1.getD i 0 * u.getD i 0).natAbs ≤ 100 * 100 := fun i => mul_abs (getD_abs hC i) (getD_abs hU i)
  have bF : (sumTo (laF p x) i).natAbs ≤ i * 1020000 := sumTo_abs fun j _ => by
    have := cx j; have := laTs_abs hp hX hX j (k := p.2.1.length) (by omega)
    simp only [laF]
    omega
  have bG : (sumTo (laG p x u) i).natAbs ≤ i * 1010000 := sumTo_abs fun j _ => by
    have := cu j; have := laTs_abs hp hU hX j (k := p.2.1.length) (by omega)
    simp only [laG]
    omega
  have bH : (sumTo (laH p u) i).natAbs ≤ i * 1000000 := sumTo_abs fun j _ => laTs_abs hp hU hU j (by omega)
  have hix : i < x.length := by omega
  have hiu : i < u.length := by omega
  have cxi := cx i
  have cui := cu i
  have k1 := hC _ (List.getElem_mem hic)
  rw [getD_at hic, getD_at hix] at cxi
  rw [getD_at hic, getD_at hiu] at cui
  have o1 : I64 (2 * p.2.1[i]) := by unfold I64; omega
  have o2 : I64 (2 * p.2.1[i] * x[i]) := by unfold I64; omega
  have o3 : I64 (sumTo (laF p x) i + 2 * p.2.1[i] * x[i]) := by unfold I64; omega
  have o4 : I64 (p.2.1[i] * u[i]) := by unfold I64; omega
  have o5 : I64 (sumTo (laG p x u) i + p.2.1[i] * u[i]) := by unfold I64; omega
  unfold f20.l2
  refine Wl.len h (Wi.lssC (fun hlt => Wi.tru ?_) fun hge => by omega)
  refine Wi.fieldAddr0 (Wl.get h rfl (Wl.atInt h hic fun _ => Wi.mul o1 (Wl.atInt h hix fun _ => Wi.mul o2 (Wi.add o3 ?_))))
  refine Wi.fieldAddr0 (Wl.get h rfl (Wl.atInt h hic fun _ => Wl.atInt h hiu fun _ => Wi.mul o4 (Wi.add o5 ?_)))
  refine la_l3 h hp hxl hul hX hU hic (by unfold LeA; omega) (by unfold LeA; omega) (by unfold LeA; omega) ?_
  simp only [sumTo] at hJ2
  simp only [laF, laG, laH] at hJ2
  rw [getD_at hic, getD_at hix, getD_at hiu, ← Int.add_assoc, ← Int.add_assoc] at hJ2
  exact hJ2

theorem la_end {H0 H : Heap} {Q : Post} {vx vu u1 u2 u3 u4 : Value} {b b2 b3 : Nat} {p : Prg} {x u : List Int} (h : Ab.Loc H0 [.box b3 [.int .i64 0, .int .i64 0], .box b2 [.int .i64 0, .int .i64 0], .box b [u1, u2, u3, u4], .lent RPrg [u1, u2, u3, u4] p, .lent RSS [u1] p.1, .lent RS [u2] p.2.1, .lent RS [vx] x, .lent RS [vu] u] H) (hp : IsPrg p) (hxl : x.length = p.2.1.length) (hul : u.length = p.2.1.length) (hX : ∀ e ∈ x, e.natAbs ≤ 100) (hU : ∀ e ∈ u, e.natAbs ≤ 100) (ok : laOK p x u)
    (hz : ∀ H c, H0.Le H → laRes p x u = (zFr, zFr, c) → Q (.tuple #[.agg (frC zFr).toArray, .agg (frC zFr).toArray, .int .i64 c]) H)
    (hQ : ∀ H', H0.Le H' → Q (.tuple #[.agg (frC (laRes p x u).1).toArray, .agg (frC (laRes p x u).2.1).toArray, .int .i64 (laRes p x u).2.2]) H') {J2 : St [10, 11, 12, 13] → Heap → Prop} :
    f20.l2 Q vx (pt b 0) vu (pt b2 0) (pt b3 0) J2 (.int .i64 (sumTo (laF p x) p.2.1.length)) (.int .i64 (sumTo (laG p x u) p.2.1.length)) (.int .i64 (sumTo (laH p u) p.2.1.length)) (.int .i64 (p.2.1.length : Nat)) H := by
  unfold f20.l2
  refine Wl.len h (Wi.lssC (fun hlt => by omega) fun hge => Wi.fls ?_)
  simp only [laF_eq hp, laG_eq hp hul, laH_eq hp]
  refine Wi.leqC (fun hle => Wi.tru ?_) fun hgt => Wi.fls ?_
  · refine Wi.build (cells := frC zFr) rfl (Wi.build (cells := frC zFr) rfl (Wl.putA h rfl rfl rfl fun H h => Wl.putA h rfl rfl rfl fun H h => Wl.getA h rfl (Wl.getA h rfl (hz _ _ h.le ?_))))
    simp only [laRes, if_pos hp, if_pos ok]
    rw [if_neg (by omega)]
  have hb : 0 < bendV p u := by omega
  have b1 : (bendV p u).natAbs ≤ 5000000 := bend_abs hp hU hU
  have b2' := slope_abs hp (u := u) (by omega) hX hU
  have b3' := twice_abs hp hX
  have hla : laRes p x u = (if (fracT (-slopeV p x u) (bendV p u)).2 = 0 ∧ (fracT (twiceV p x * bendV p u - slopeV p x u * slopeV p x u) (2 * bendV p u)).2 = 0 then
      ((fracT (-slopeV p x u) (bendV p u)).1, (fracT (twiceV p x * bendV p u - slopeV p x u * slopeV p x u) (2 * bendV p u)).1, 0) else (zFr, zFr, 3)) := by
    simp only [laRes, if_pos hp, if_pos ok, if_pos hb]
  have m1 := mul_abs b3' b1
  have m2 := mul_abs b2' b2'
  refine Wi.neg (by unfold I64; omega) (Wi.call (fn89 (by unfold B64; omega) (by unfold B64; omega) (by omega) fun H l => Wi.call (told_frac fun H2 l2 => ?_)))
  have h := h.to (l.trans l2)
  simp only [g11, g12]
  refine Wl.new h fun H bt h => Wl.putA h rfl rfl rfl fun H h => ?_
  refine Wi.mul (by unfold I64; omega) (Wi.mul (by unfold I64; omega) (Wi.sub (by unfold I64; omega) (Wi.mul (by unfold I64; omega) ?_)))
  refine Wi.call (fn89 (by unfold B64; omega) (by unfold B64; omega) (by omega) fun H l => Wi.call (told_frac fun H2 l2 => ?_))
  have h := h.to (l.trans l2)
  simp only [g11, g12]
  refine Wl.new h fun H bv h => Wl.putA h rfl rfl rfl fun H h => ?_
  generalize e1 : fracT (-slopeV p x u) (bendV p u) = t1 at *
  generalize e2 : fracT (twiceV p x * bendV p u - slopeV p x u * slopeV p x u) (2 * bendV p u) = t2 at *
  have big : ∀ H, Ab.Loc H0 [.box b3 [.int .i64 0, .int .i64 0], .box b2 [.int .i64 0, .int .i64 0]] H → ¬ (t1.2 = 0 ∧ t2.2 = 0) → W.build [.int .i64 0, .int .i64 0] [] H fun v31 H => W.build [.int .i64 0, .int .i64 0] [] H fun v32 H => W.putN 2 (pt b2 0) v31 H fun _ H => W.putN 2 (pt b3 0) v32 H fun _ H => W.getN 2 (pt b2 0) H fun v33 H => W.getN 2 (pt b3 0) H fun v34 H => Q (.tuple #[v33, v34, .int .i64 3]) H := fun H h hn =>
    Wi.build (cells := frC zFr) rfl (Wi.build (cells := frC zFr) rfl (Wl.putA h rfl rfl rfl fun H h => Wl.putA h rfl rfl rfl fun H h => Wl.getA h rfl (Wl.getA h rfl (hz _ _ h.le (by rw [hla, if_neg hn])))))
  have hsub : Ab.Loc H0 [.box b3 [.int .i64 0, .int .i64 0], .box b2 [.int .i64 0, .int .i64 0]] _ := h.tl.tl.first 2
  refine Wi.neqC (fun hne => ?_) fun hq1 => ?_
  · simp only [gw]
    exact big _ hsub fun g => hne g.1
  simp only [gw]
  refine Wi.neqC (fun hne => ?_) fun hq2 => ?_
  · simp only [gw]
    exact big _ hsub fun g => hne g.2
  simp only [gw]
  refine Wl.getA h rfl (Wl.getA h rfl (Wl.putA h rfl rfl rfl fun H h => Wi.chk (Wl.getA h rfl ⟨rfl, rfl⟩) (Wl.putA h rfl rfl rfl fun H h => Wl.getA h rfl (Wl.getA h rfl ?_))))
  have := hQ _ h.le
  rw [hla, if_pos ⟨hq1, hq2⟩] at this
  exact this

theorem fn20 {H0 : Heap} {Q : Post} {cs : List Value} {vx vu : Value} {p : Prg} {x u : List Int} (hr : Has RPrg H0 cs p) (hx : Has RS H0 [vx] x) (hu : Has RS H0 [vu] u) (hw : wPrg p ≤ 1048576) (hx5 : x.length ≤ 1048576) (hu5 : u.length ≤ 1048576)
    (hQ : ∀ H', H0.Le H' → Q (.tuple #[.agg (frC (laRes p x u).1).toArray, .agg (frC (laRes p x u).2.1).toArray, .int .i64 (laRes p x u).2.2]) H') : Runs Tryz.prog 20 #[.agg cs.toArray, vx, vu] H0 Q := by
  obtain ⟨u1, u2, u3, u4, rfl, r1, r2, r3, r4⟩ := hasPrg hr
  refine f20.enter ?_
  unfold f20.w
  have hz : ∀ H c, H0.Le H → laRes p x u = (zFr, zFr, c) → Q (.tuple #[.agg (frC zFr).toArray, .agg (frC zFr).toArray, .int .i64 c]) H := fun H c l e => by
    have := hQ H l
    rw [e] at this
    exact this
  have h := (((((Loc.start H0).lent hu).lent hx).lent r2).lent r1).lent hr
  refine Wl.box h fun H b h => Wl.new h fun H b2 h => Wl.new h fun H b3 h => Wl.getA h rfl (Wi.call (fn54 (h.rd (cs := [u1, u2, u3, u4])) hw fun H t l ht => ?_))
  have h := h.to l
  cases t with
  | false =>
    have hp : ¬ IsPrg p := fun g => Bool.noConfusion (ht.2 g)
    simp only [g7, g10]
    exact Wi.build (cells := frC zFr) rfl (Wi.build (cells := frC zFr) rfl (Wl.putA h rfl rfl rfl fun H h => Wl.putA h rfl rfl rfl fun H h => Wl.getA h rfl (Wl.getA h rfl (hz _ _ h.le (by simp only [laRes, if_neg hp])))))
  | true =>
  have hp := ht.1 rfl
  have n1 := hp.n1; have nm := hp.nm; have dl := hp.dl
  simp only [g8, g9]
  have bad : ∀ H, Ab.Loc H0 [.box b3 [.int .i64 0, .int .i64 0], .box b2 [.int .i64 0, .int .i64 0]] H → ¬ laOK p x u → W.build [.int .i64 0, .int .i64 0] [] H fun v31 H => W.build [.int .i64 0, .int .i64 0] [] H fun v32 H => W.putN 2 (pt b2 0) v31 H fun _ H => W.putN 2 (pt b3 0) v32 H fun _ H => W.getN 2 (pt b2 0) H fun v33 H => W.getN 2 (pt b3 0) H fun v34 H => Q (.tuple #[v33, v34, .int .i64 2]) H := fun H h hn =>
    Wi.build (cells := frC zFr) rfl (Wi.build (cells := frC zFr) rfl (Wl.putA h rfl rfl rfl fun H h => Wl.putA h rfl rfl rfl fun H h => Wl.getA h rfl (Wl.getA h rfl (hz _ _ h.le (by simp only [laRes, if_pos hp, if_neg hn])))))
  refine Wl.len h (Wi.fieldAddr0 (Wl.get h rfl (Wl.len h (Wi.neqC (fun hne => ?_) fun hxl => ?_))))
  · simp only [gw]
    exact bad _ (h.first 2) fun g => hne (by rw [g.1])
  simp only [gw]
  refine Wl.len h (Wi.fieldAddr0 (Wl.get h rfl (Wl.len h (Wi.neqC (fun hne => ?_) fun hul => ?_))))
  · simp only [gw]
    exact bad _ (h.first 2) fun g => hne (by rw [g.2.1])
  simp only [gw]
  have hxl : x.length = p.2.1.length := by omega
  have hul : u.length = p.2.1.length := by omega
  -- the numbers of both
  refine W.all_rule x.length (fun i => inR (-100) 100 (x.getD i 0) && inR (-100) 100 (u.getD i 0)) (fun i H1 J hi _ l hJ => ?_) fun H1 J hall l => ?_
  · have h := h.to l
    have hiu : i < u.length := by omega
    refine Wl.len h (Wi.lssC (fun _ => Wi.tru ?_) fun h => by omega)
    refine Wl.atInt h hi fun _ => Wi.call (fn77 ?_)
    cases h1 : inR (-100) 100 x[i] with
    | false =>
      simp only [gw]
      exact bad _ (h.first 2) fun g => by
        have := inR_iff.2 (allUp_iff.1 g.2.2.1 _ (List.getElem_mem hi))
        rw [this] at h1
        cases h1
    | true =>
    simp only [gw]
    refine Wl.atInt h hiu fun _ => Wi.call (fn77 ?_)
    cases h2 : inR (-100) 100 u[i] with
    | false =>
      simp only [gw]
      exact bad _ (h.first 2) fun g => by
        have := inR_iff.2 (allUp_iff.1 g.2.2.2 _ (List.getElem_mem hiu))
        rw [this] at h2
        cases h2
    | true =>
    simp only [gw]
    exact Wi.add (by unfold I64; omega) (hJ (by rw [getD_at hi, getD_at hiu, h1, h2]; rfl) _ (.refl _))
  have h := h.to l
  have hxu : allUp 100 x = true := allUp_iff.2 fun e he => by
    obtain ⟨i, hi, rfl⟩ := List.mem_iff_getElem.1 he
    have := hall i hi
    rw [Bool.and_eq_true, getD_at hi] at this
    exact inR_iff.1 this.1
  have huu : allUp 100 u = true := allUp_iff.2 fun e he => by
    obtain ⟨i, hi, rfl⟩ := List.mem_iff_getElem.1 he
    have := hall i (by omega)
    rw [Bool.and_eq_true, getD_at hi] at this
    exact inR_iff.1 this.2
  have ok : laOK p x u := ⟨by omega, by omega, hxu, huu⟩
  have hX := up_abs hxu
  have hU := up_abs huu
  refine Wl.len h (Wi.lssC (fun h => by omega) fun _ => Wi.fls ?_)
  refine W.for_rule p.2.1.length (fun i s H => H = H1 ∧ s = (.int .i64 (sumTo (laF p x) i), .int .i64 (sumTo (laG p x u) i), .int .i64 (sumTo (laH p u) i), .int .i64 (i : Nat), ())) ⟨rfl, rfl⟩ ?_
  rintro i s H J2 hi ⟨rfl, rfl⟩ hJ2
  by_cases hic : i < p.2.1.length
  · exact la_l2 h hp hxl hul hX hU hic (hJ2 _ _ hic ⟨rfl, rfl⟩)
  · have : i = p.2.1.length := by omega
    subst this
    exact la_end h hp hxl hul hX hU ok hz hQ

end Go.Proofs.YtdchibdcfdbcpaaGreat
