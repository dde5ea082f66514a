/- The contract of the program's LeastAlong. No condition. -/
import Derived.Test.YtccppfpjiaafaaaM1
namespace Go.Proofs.Ytccppfpjiaafaaa
open Go.Ab

/- loop.example/g01343/impl.LeastAlong -/
def f41.w (Q : Post) (p_0 : Value) (x_1 : Value) (u_2 : Value) (H : Heap) : Prop :=
  W.box p_0 28 H fun v1 H =>
  W.new [(.int .i64 0), (.int .i64 0)] 62 H fun v2 H =>
  W.new [(.int .i64 0), (.int .i64 0)] 62 H fun v3 H =>
  W.getN 4 v1 H fun v4 H =>
  W.call Try.prog (.func (.func 14) #[] #[]) #[v4] H fun v5 H =>
  W.un .not v5 H fun v6 H =>
  W.cond v6 H
  (fun H => W.build [(.int .i64 0), (.int .i64 0)] [] H fun v7 H =>
   W.build [(.int .i64 0), (.int .i64 0)] [] H fun v8 H =>
   W.putN 2 v2 v7 H fun _ H =>
   W.putN 2 v3 v8 H fun _ H =>
   W.getN 2 v2 H fun v9 H => W.getN 2 v3 H fun v10 H => Q (.tuple #[v9, v10, (.int .i64 1)]) H)
  (fun H => W.len x_1 H fun v11 H =>
   W.fieldAddr 1 v1 H fun v12 H =>
   W.get v12 H fun v13 H =>
   W.len v13 H fun v14 H =>
   W.bin .neq v11 v14 H fun v15 H =>
   W.guarded v15 false (fun H k => k u_2 H) H fun v16 H =>
   W.guarded v15 false (fun H k => W.len v16 H k) H fun v17 H =>
   W.guarded v15 false (fun H k => W.fieldAddr 1 v1 H k) H fun v18 H =>
   W.guarded v15 false (fun H k => W.get v18 H k) H fun v19 H =>
   W.guarded v15 false (fun H k => W.len v19 H k) H fun v20 H =>
   W.guarded v15 false (fun H k => W.bin .neq v17 v20 H k) H fun v21 H =>
   W.pick v15 (.bool true) v21 H fun v22 H =>
   W.guarded v22 false (fun H k => k x_1 H) H fun v23 H =>
   W.guarded v22 false (fun H k => W.call Try.prog (.func (.func 50) #[] #[]) #[v23, (.int .i64 100)] H k) H fun v24 H =>
   W.guarded v22 false (fun H k => W.un .not v24 H k) H fun v25 H =>
   W.pick v22 (.bool true) v25 H fun v26 H =>
   W.guarded v26 false (fun H k => k u_2 H) H fun v27 H =>
   W.guarded v26 false (fun H k => W.call Try.prog (.func (.func 50) #[] #[]) #[v27, (.int .i64 100)] H k) H fun v28 H =>
   W.guarded v26 false (fun H k => W.un .not v28 H k) H fun v29 H =>
   W.pick v26 (.bool true) v29 H fun v30 H =>
   W.cond v30 H
   (fun H => W.build [(.int .i64 0), (.int .i64 0)] [] H fun v31 H =>
    W.build [(.int .i64 0), (.int .i64 0)] [] H fun v32 H =>
    W.putN 2 v2 v31 H fun _ H =>
    W.putN 2 v3 v32 H fun _ H =>
    W.getN 2 v2 H fun v33 H => W.getN 2 v3 H fun v34 H => Q (.tuple #[v33, v34, (.int .i64 2)]) H)
   (fun H => W.fieldAddr 0 v1 H fun v35 H =>
    W.get v35 H fun v36 H =>
    W.call Try.prog (.func (.func 83) #[] #[]) #[v36, u_2, u_2] H fun v37 H =>
    W.bin .leq v37 (.int .i64 0) H fun v38 H =>
    W.cond v38 H
    (fun H => W.build [(.int .i64 0), (.int .i64 0)] [] H fun v39 H =>
     W.build [(.int .i64 0), (.int .i64 0)] [] H fun v40 H =>
     W.putN 2 v2 v39 H fun _ H =>
     W.putN 2 v3 v40 H fun _ H =>
     W.getN 2 v2 H fun v41 H => W.getN 2 v3 H fun v42 H => Q (.tuple #[v41, v42, (.int .i64 5)]) H)
    (fun H => W.getN 4 v1 H fun v43 H =>
     W.call Try.prog (.func (.func 85) #[] #[]) #[v43, x_1, (.int .i64 1)] H fun v44 H =>
     W.call Try.prog (.func (.func 84) #[] #[]) #[u_2, v44] H fun v45 H =>
     W.fieldAddr 0 v1 H fun v46 H =>
     W.get v46 H fun v47 H =>
     W.callQ Try.prog (.func (.func 83) #[] #[]) #[v47, x_1, x_1] H fun v48 H =>
     W.fieldAddr 1 v1 H fun v49 H =>
     W.get v49 H fun v50 H =>
     W.callQ Try.prog (.func (.func 84) #[] #[]) #[v50, x_1] H fun v51 H =>
     W.bin .mul (.int .i64 2) v51 H fun v52 H =>
     W.bin .add v48 v52 H fun v53 H =>
     W.un .neg v45 H fun v54 H =>
     W.call Try.prog (.func (.func 86) #[] #[]) #[v54, v37] H fun v55 H =>
     W.extract 0 v55 H fun v56 H =>
     W.extract 1 v55 H fun v57 H =>
     W.new [(.int .i64 0), (.int .i64 0)] 62 H fun v58 H =>
     W.putN 2 v58 v56 H fun _ H =>
     W.bin .mul v53 v37 H fun v59 H =>
     W.bin .mul v45 v45 H fun v60 H =>
     W.bin .sub v59 v60 H fun v61 H =>
     W.bin .mul (.int .i64 2) v37 H fun v62 H =>
     W.call Try.prog (.func (.func 86) #[] #[]) #[v61, v62] H fun v63 H =>
     W.extract 0 v63 H fun v64 H =>
     W.extract 1 v63 H fun v65 H =>
     W.new [(.int .i64 0), (.int .i64 0)] 62 H fun v66 H =>
     W.putN 2 v66 v64 H fun _ H =>
     W.bin .neq v57 (.int .i64 0) H fun v67 H =>
     W.guarded v67 false (fun H k => k v65 H) H fun v68 H =>
     W.guarded v67 false (fun H k => W.bin .neq v68 (.int .i64 0) H k) H fun v69 H =>
     W.pick v67 (.bool true) v69 H fun v70 H =>
     W.cond v70 H
     (fun H => W.build [(.int .i64 0), (.int .i64 0)] [] H fun v71 H =>
      W.build [(.int .i64 0), (.int .i64 0)] [] H fun v72 H =>
      W.putN 2 v2 v71 H fun _ H =>
      W.putN 2 v3 v72 H fun _ H =>
      W.getN 2 v2 H fun v73 H => W.getN 2 v3 H fun v74 H => Q (.tuple #[v73, v74, (.int .i64 3)]) H)
     (fun H => W.getN 2 v58 H fun v75 H =>
      W.getN 2 v66 H fun v76 H =>
      W.putN 2 v2 v75 H fun _ H =>
      W.chk (fun H k => W.getN 2 v66 H k) v76 H (W.putN 2 v3 v76 H fun _ H =>
      W.getN 2 v2 H fun v77 H => W.getN 2 v3 H fun v78 H => Q (.tuple #[v77, v78, (.int .i64 0)]) H)))))
theorem f41.enter {Q : Post} {p_0 : Value} {x_1 : Value} {u_2 : Value} {H : Heap} (h : f41.w Q p_0 x_1 u_2 H) : Runs Try.prog 41 #[p_0, x_1, u_2] H Q :=
  fn_enter (ann := []) (by kernel_rfl) Try.func41 rfl (by kernel_rfl) h (by kernel_rfl)


theorem fn41 {H0 : Heap} {Q : Post} {cs : List Value} {vx vu : Value} {p : Prg} {x u : List Int} (hr : Has RPrg H0 cs p) (hx : Has RS H0 [vx] x) (hu : Has RS H0 [vu] u) (hw : wPrg p ≤ 1048576) (_ : x.length ≤ 1048576) (_ : u.length ≤ 1048576)
    (hQ : ∀ H', H0.Le H' → Q (.tuple #[.agg (frC (laRes p x u).1).toArray, .agg (frC (laRes p x u).2.1).toArray, .int .i64 (laRes p x u).2.2]) H') : Runs Try.prog 41 #[.agg cs.toArray, vx, vu] H0 Q := by
  obtain ⟨u1, u2, u3, u4, rfl, r1, r2, r3, r4⟩ := hasPrg hr
  refine f41.enter ?_
  unfold f41.w
  have hz : ∀ H c, H0.Le H → laRes p x u = (zFr, zFr, c) → Q (.tuple #[.agg (frC zFr).toArray, .agg (frC zFr).toArray, .int .i64 c]) H := fun H c l e => by
    have := hQ H l
    rw [e] at this
    exact this
  have h := (((((Loc.start H0).lent hu).lent hx).lent r2).lent r1).lent hr
  refine Wl.box h fun H b h => Wl.new h fun H b2 h => Wl.new h fun H b3 h => Wl.getA h rfl (Wi.call (fn14 (h.rd (cs := [u1, u2, u3, u4])) hw fun H t l ht => ?_))
  have h := h.to l
  cases t with
  | false =>
    have hp : ¬ IsPrg p := fun g => Bool.noConfusion (ht.2 g)
    simp only [g7, g10]
    exact Wi.build (cells := frC zFr) rfl (Wi.build (cells := frC zFr) rfl (Wl.putA h rfl rfl rfl fun H h => Wl.putA h rfl rfl rfl fun H h => Wl.getA h rfl (Wl.getA h rfl (hz _ _ h.le (by simp only [laRes, if_neg hp])))))
  | true =>
  have hp := ht.1 rfl
  have n1 := hp.n1; have nm := hp.nm; have dl := hp.dl
  simp only [g8, g9]
  have bad : ∀ H, Ab.Loc H0 [.box b3 [.int .i64 0, .int .i64 0], .box b2 [.int .i64 0, .int .i64 0]] H → ¬ laOK p x u → W.build [.int .i64 0, .int .i64 0] [] H fun v31 H => W.build [.int .i64 0, .int .i64 0] [] H fun v32 H => W.putN 2 (pt b2 0) v31 H fun _ H => W.putN 2 (pt b3 0) v32 H fun _ H => W.getN 2 (pt b2 0) H fun v33 H => W.getN 2 (pt b3 0) H fun v34 H => Q (.tuple #[v33, v34, .int .i64 2]) H := fun H h hn =>
    Wi.build (cells := frC zFr) rfl (Wi.build (cells := frC zFr) rfl (Wl.putA h rfl rfl rfl fun H h => Wl.putA h rfl rfl rfl fun H h => Wl.getA h rfl (Wl.getA h rfl (hz _ _ h.le (by simp only [laRes, if_pos hp, if_neg hn])))))
  refine Wl.len h (Wi.fieldAddr0 (Wl.get h rfl (Wl.len h (Wi.neqC (fun hne => ?_) fun hxl => ?_))))
  · simp only [gw]
    exact bad _ (h.first 2) fun g => hne (by rw [g.1])
  simp only [gw]
  refine Wl.len h (Wi.fieldAddr0 (Wl.get h rfl (Wl.len h (Wi.neqC (fun hne => ?_) fun hul => ?_))))
  · simp only [gw]
    exact bad _ (h.first 2) fun g => hne (by rw [g.2.1])
  simp only [gw]
  obtain ⟨bsx, qx⟩ := h.rd (cs := [vx])
  refine Wi.call (fn50 (by unfold I64; omega) qx fun H l => ?_)
  have h := h.to l
  cases hxu : allUp 100 x with
  | false =>
    simp only [gw]
    exact bad _ (h.first 2) fun g => by rw [g.2.2.1] at hxu; cases hxu
  | true =>
  simp only [gw]
  obtain ⟨bsu, qu⟩ := h.rd (cs := [vu])
  refine Wi.call (fn50 (by unfold I64; omega) qu fun H l => ?_)
  have h := h.to l
  cases huu : allUp 100 u with
  | false =>
    simp only [gw]
    exact bad _ (h.first 2) fun g => by rw [g.2.2.2] at huu; cases huu
  | true =>
  simp only [gw]
  have ok : laOK p x u := ⟨by omega, by omega, hxu, huu⟩
  have hX := up_abs hxu
  have hU := up_abs huu
  have hM : ∀ n : Nat, n = p.2.1.length → ∀ r ∈ p.1, (r.length ≤ 5 ∧ ∀ e ∈ r, e.natAbs ≤ 20) ∧ r.length ≤ n := fun n hn r hr => by
    have := hp.d r hr
    exact ⟨⟨by omega, fun e he => by have := this.2 e he; omega⟩, by omega⟩
  have h5 := mul5 (n := p.1.length) (N := 100 * (5 * (20 * 100))) (by omega)
  refine Wi.fieldAddr0 (Wl.get h rfl (Wi.call (fn83 (N := 5) (M := 20) (X := 100) (Y := 100) (h.rd (cs := [u1])) (h.rd (cs := [vu])) (h.rd (cs := [vu])) (by omega) (hM _ (by omega)) hU hU (by omega) (by omega) ?_)))
  refine Wi.leqC (fun hle => Wi.tru ?_) fun hgt => Wi.fls ?_
  · refine Wi.build (cells := frC zFr) rfl (Wi.build (cells := frC zFr) rfl (Wl.putA h rfl rfl rfl fun H h => Wl.putA h rfl rfl rfl fun H h => Wl.getA h rfl (Wl.getA h rfl (hz _ _ h.le ?_))))
    simp only [laRes, if_pos hp, if_pos ok]
    rw [if_neg (by unfold bendV; omega)]
  have hb : 0 < bendV p u := by unfold bendV; omega
  have b1 : (bendV p u).natAbs ≤ 5000000 := bend_abs hp hU hU
  have b2' := slope_abs hp (u := u) (by omega) hX hU
  have b3' := twice_abs hp hX
  have b4 := bend_abs hp hX hX
  have b5 := dotc_abs hp hX
  have hla : laRes p x u = (if (fracT (-slopeV p x u) (bendV p u)).2 = 0 ∧ (fracT (twiceV p x * bendV p u - slopeV p x u * slopeV p x u) (2 * bendV p u)).2 = 0 then
      ((fracT (-slopeV p x u) (bendV p u)).1, (fracT (twiceV p x * bendV p u - slopeV p x u * slopeV p x u) (2 * bendV p u)).1, 0) else (zFr, zFr, 3)) := by
    simp only [laRes, if_pos hp, if_pos ok, if_pos hb]
  have m1 := mul_abs b3' b1
  have m2 := mul_abs b2' b2'
  refine Wl.getA h rfl (Wi.call (fn85 (h.rd (cs := [u1, u2, u3, u4])) (h.rd (cs := [vx])) hp (by omega) hX fun H s l hs => ?_))
  have h := h.to l
  have hsl : (slopesV p x).length = p.1.length := by simp [slopesV]
  have h6 := mul5 (n := u.length) (N := 100 * 10100) (by omega)
  refine Wi.call (fn84 (h.rd (cs := [vu])) hs (by omega) hU (slopes_abs hp hX) (by omega) ?_)
  refine Wi.fieldAddr0 (Wl.get h rfl (Wi.callQ (fn83 (N := 5) (M := 20) (X := 100) (Y := 100) (h.rd (cs := [u1])) (h.rd (cs := [vx])) (h.rd (cs := [vx])) (by omega) (hM _ (by omega)) hX hX (by omega) (by omega) ⟨.refl _, ?_⟩)))
  have h7 := mul5 (n := p.2.1.length) (N := 100 * 100) (by omega)
  have hca : ∀ e ∈ p.2.1, e.natAbs ≤ 100 := fun e he => by have := hp.c e he; omega
  refine Wi.fieldAddr0 (Wl.get h rfl (Wi.callQ (fn84 (h.rd (cs := [u2])) (h.rd (cs := [vx])) (by omega) hca hX (by omega) ⟨.refl _, ?_⟩)))
  have eb : formV p.1 u u = bendV p u := rfl
  have es : dot u (slopesV p x) = slopeV p x u := rfl
  have et : formV p.1 x x + 2 * dot p.2.1 x = twiceV p x := rfl
  rw [eb, es]
  refine Wi.mul (by unfold I64; omega) (Wi.add (by unfold I64; omega) (Wi.neg (by unfold I64; omega) ?_))
  rw [et]
  refine Wi.call (fn86 (by unfold B64; omega) (by unfold B64; omega) (by omega) fun H l => ?_)
  have h := h.to l
  simp only [g13, g14, g11, g12]
  refine Wl.new h fun H bt h => Wl.putA h rfl rfl rfl fun H h => ?_
  refine Wi.mul (by unfold I64; omega) (Wi.mul (by unfold I64; omega) (Wi.sub (by unfold I64; omega) (Wi.mul (by unfold I64; omega) ?_)))
  refine Wi.call (fn86 (by unfold B64; omega) (by unfold B64; omega) (by omega) fun H l => ?_)
  have h := h.to l
  simp only [g13, g14, g11, g12]
  refine Wl.new h fun H bv h => Wl.putA h rfl rfl rfl fun H h => ?_
  generalize e1 : fracT (-slopeV p x u) (bendV p u) = t1 at *
  generalize e2 : fracT (twiceV p x * bendV p u - slopeV p x u * slopeV p x u) (2 * bendV p u) = t2 at *
  have big : ∀ H, Ab.Loc H0 [.box b3 [.int .i64 0, .int .i64 0], .box b2 [.int .i64 0, .int .i64 0]] H → ¬ (t1.2 = 0 ∧ t2.2 = 0) → W.build [.int .i64 0, .int .i64 0] [] H fun v31 H => W.build [.int .i64 0, .int .i64 0] [] H fun v32 H => W.putN 2 (pt b2 0) v31 H fun _ H => W.putN 2 (pt b3 0) v32 H fun _ H => W.getN 2 (pt b2 0) H fun v33 H => W.getN 2 (pt b3 0) H fun v34 H => Q (.tuple #[v33, v34, .int .i64 3]) H := fun H h hn =>
    Wi.build (cells := frC zFr) rfl (Wi.build (cells := frC zFr) rfl (Wl.putA h rfl rfl rfl fun H h => Wl.putA h rfl rfl rfl fun H h => Wl.getA h rfl (Wl.getA h rfl (hz _ _ h.le (by rw [hla, if_neg hn])))))
  have hsub : Ab.Loc H0 [.box b3 [.int .i64 0, .int .i64 0], .box b2 [.int .i64 0, .int .i64 0]] _ := h.tl.tl.first 2
  refine Wi.neqC (fun hne => ?_) fun hq1 => ?_
  · simp only [gw]
    exact big _ hsub fun g => hne g.1
  simp only [gw]
  refine Wi.neqC (fun hne => ?_) fun hq2 => ?_
  · simp only [gw]
    exact big _ hsub fun g => hne g.2
  simp only [gw]
  refine Wl.getA h rfl (Wl.getA h rfl (Wl.putA h rfl rfl rfl fun H h => Wi.chk (Wl.getA h rfl ⟨rfl, rfl⟩) (Wl.putA h rfl rfl rfl fun H h => Wl.getA h rfl (Wl.getA h rfl ?_))))
  have := hQ _ h.le
  rw [hla, if_pos ⟨hq1, hq2⟩] at this
  exact this

end Go.Proofs.Ytccppfpjiaafaaa
