/- The contracts of the reference's FollowProblem and SetAt. No condition. -/
import Derived.Test.YtakbahndgmiobaaFP1
import Derived.Test.YtakbahndgmiobaaV2
import Derived.Test.YtakbahndgmiobaaV4
namespace Go.Proofs.Ytakbahndgmiobaa
open Go.Ab

/- loop.example/g01343/spec.l10Follow -/
def f60.l1 (Q : Post) (v1 : Value) (d_1 : Value) (v17 : Value) (I1 : St [8, 12, 13, 15] → Heap → Prop) (s_8 : Value) (sets_12 : Value) (breaks_13 : Value) (last_15 : Value) (H : Heap) : Prop :=
  W.fieldAddr 0 v1 H fun v18 H =>
  W.get v18 H fun v19 H =>
  W.call Try.prog (.func (.func 90) #[] #[]) #[v19, s_8] H fun v20 H =>
  W.fieldAddr 1 v1 H fun v21 H =>
  W.get v21 H fun v22 H =>
  W.call Try.prog (.func (.func 91) #[] #[]) #[v20, v22] H fun v23 H =>
  W.extract 0 v23 H fun v24 H =>
  W.extract 1 v23 H fun v25 H =>
  W.call Try.prog (.func (.func 91) #[] #[]) #[v20, d_1] H fun v26 H =>
  W.extract 0 v26 H fun v27 H =>
  W.extract 1 v26 H fun v28 H =>
  W.bin .eql v25 (.int .i64 0) H fun v29 H =>
  W.cond v29 H
  (fun H => Q (.tuple #[(.slice none 0 0), (.slice none 0 0), (.int .i64 5)]) H)
  (fun H => W.call Try.prog (.func (.func 92) #[] #[]) #[v24, v25] H fun v30 H =>
   W.call Try.prog (.func (.func 92) #[] #[]) #[v27, v25] H fun v31 H =>
   W.bin .geq last_15 (.int .i64 0) H fun v32 H =>
   W.guarded v32 true (fun H k => k v31 H) H fun v33 H =>
   W.guarded v32 true (fun H k => k last_15 H) H fun v34 H =>
   W.guarded v32 true (fun H k => W.indexAddr 1 v33 v34 H k) H fun v35 H =>
   W.guarded v32 true (fun H k => W.get v35 H k) H fun v36 H =>
   W.guarded v32 true (fun H k => W.bin .leq v36 (.int .i64 0) H k) H fun v37 H =>
   W.pick v32 v37 (.bool false) H fun v38 H =>
   W.cond v38 H
   (fun H => Q (.tuple #[(.slice none 0 0), (.slice none 0 0), (.int .i64 5)]) H)
   (fun H => W.getN 2 v17 H fun v39 H =>
    W.call Try.prog (.func (.func 93) #[] #[]) #[v30, v31, v39] H fun v40 H =>
    W.extract 0 v40 H fun v41 H =>
    W.extract 1 v40 H fun v42 H =>
    W.extract 2 v40 H fun v43 H =>
    W.extract 3 v40 H fun v44 H =>
    W.new [(.int .i64 0), (.int .i64 0)] 34 H fun v45 H =>
    W.putN 2 v45 v41 H fun _ H =>
    W.un .not v44 H fun v46 H =>
    W.cond v46 H
    (fun H => Q (.tuple #[sets_12, breaks_13, (.int .i64 0)]) H)
    (fun H => W.bin .gtr v43 (.int .i64 1) H fun v47 H =>
     W.cond v47 H
     (fun H => Q (.tuple #[(.slice none 0 0), (.slice none 0 0), (.int .i64 5)]) H)
     (fun H => W.len breaks_13 H fun v48 H =>
      W.bin .eql v48 (.int .i64 40) H fun v49 H =>
      W.cond v49 H
      (fun H => Q (.tuple #[(.slice none 0 0), (.slice none 0 0), (.int .i64 3)]) H)
      (fun H => W.conv .u64 v42 H fun v50 H =>
       W.bin .shl (.int .i64 1) v50 H fun v51 H =>
       W.bin .xor s_8 v51 H fun v52 H =>
       W.lit 1 [(.int .i64 0)] 2 [(0, 1, v52)] H fun v53 H =>
       W.append 1 2 sets_12 v53 H fun v54 H =>
       W.getN 2 v45 H fun v55 H =>
       W.lit 1 [(.int .i64 0), (.int .i64 0)] 34 [(0, 2, v55)] H fun v56 H =>
       W.append 2 34 breaks_13 v56 H fun v57 H =>
       W.getN 2 v45 H fun v58 H =>
       W.putN 2 v17 v58 H fun _ H =>
       I1 (v52, v54, v57, v42, ()) H)))))
def f60.w (Q : Post) (p_0 : Value) (d_1 : Value) (H : Heap) : Prop :=
  W.box p_0 31 H fun v1 H =>
  W.getN 2 v1 H fun v2 H =>
  W.call Try.prog (.func (.func 88) #[] #[]) #[v2] H fun v3 H =>
  W.len v3 H fun v4 H =>
  W.bin .neq v4 (.int .i64 1) H fun v5 H =>
  W.cond v5 H
  (fun H => Q (.tuple #[(.slice none 0 0), (.slice none 0 0), (.int .i64 5)]) H)
  (fun H => W.indexAddr 1 v3 (.int .i64 0) H fun v6 H =>
   W.get v6 H fun v7 H =>
   W.getN 2 v1 H fun v8 H =>
   W.call Try.prog (.func (.func 89) #[] #[]) #[v8, v7] H fun v9 H =>
   W.extract 0 v9 H fun v10 H =>
   W.extract 1 v9 H fun v11 H =>
   W.extract 2 v9 H fun v12 H =>
   W.un .not v12 H fun v13 H =>
   W.cond v13 H
   (fun H => Q (.tuple #[(.slice none 0 0), (.slice none 0 0), (.int .i64 5)]) H)
   (fun H => W.lit 1 [(.int .i64 0)] 2 [(0, 1, v7)] H fun v14 H =>
    W.lit 0 [(.int .i64 0), (.int .i64 0)] 34 [] H fun v15 H =>
    W.build [(.int .i64 0), (.int .i64 0)] [(0, 1, (.int .i64 0)), (1, 1, (.int .i64 1))] H fun v16 H =>
    W.new [(.int .i64 0), (.int .i64 0)] 34 H fun v17 H =>
    W.putN 2 v17 v16 H fun _ H =>
    W.loop (S := St [8, 12, 13, 15]) (fun I1 s H => f60.l1 Q v1 d_1 v17 I1 s.1 s.2.1 s.2.2.1 s.2.2.2.1 H) (v7, v14, v15, (.int .i64 (-1)), ()) H))
theorem f60.enter {Q : Post} {p_0 : Value} {d_1 : Value} {H : Heap} (h : f60.w Q p_0 d_1 H) : Runs Try.prog 60 #[p_0, d_1] H Q :=
  fn_enter (ann := [(9, [8, 12, 13, 15])]) (by kernel_rfl) Try.func60 rfl (by kernel_rfl) h (by kernel_rfl)

/- loop.example/g01343/spec.FollowProblem -/
def f23.j1 (Q : Post) (v7 : Value) (v8 : Value) (code_10 : Value) (H : Heap) : Prop :=
  W.bin .neq code_10 (.int .i64 0) H fun v14 H =>
  W.cond v14 H
  (fun H => Q (.tuple #[(.slice none 0 0), (.slice none 0 0), code_10]) H)
  (fun H => Q (.tuple #[v7, v8, (.int .i64 0)]) H)
def f23.w (Q : Post) (p_0 : Value) (d_1 : Value) (H : Heap) : Prop :=
  W.box p_0 31 H fun v1 H =>
  W.getN 2 v1 H fun v2 H =>
  W.call Try.prog (.func (.func 30) #[] #[]) #[v2, d_1] H fun v3 H =>
  W.bin .neq v3 (.int .i64 0) H fun v4 H =>
  W.cond v4 H
  (fun H => Q (.tuple #[(.slice none 0 0), (.slice none 0 0), v3]) H)
  (fun H => W.getN 2 v1 H fun v5 H =>
   W.call Try.prog (.func (.func 60) #[] #[]) #[v5, d_1] H fun v6 H =>
   W.extract 0 v6 H fun v7 H =>
   W.extract 1 v6 H fun v8 H =>
   W.extract 2 v6 H fun v9 H =>
   W.bin .eql v9 (.int .i64 0) H fun v10 H =>
   W.cond v10 H
   (fun H => W.call Try.prog (.func (.func 61) #[] #[]) #[v8] H fun v11 H =>
    W.extract 0 v11 H fun v12 H =>
    W.extract 1 v11 H fun v13 H =>
    f23.j1 Q v7 v8 v13 H)
   (fun H => f23.j1 Q v7 v8 v9 H))
theorem f23.enter {Q : Post} {p_0 : Value} {d_1 : Value} {H : Heap} (h : f23.w Q p_0 d_1 H) : Runs Try.prog 23 #[p_0, d_1] H Q :=
  fn_enter (ann := []) (by kernel_rfl) Try.func23 rfl (by kernel_rfl) h (by kernel_rfl)

/- loop.example/g01343/spec.SetAt -/
def f7.l1 (Q : Post) (v14 : Value) (v2 : Value) (v13 : Value) (I1 : St [12] → Heap → Prop) (at_12 : Value) (H : Heap) : Prop :=
  W.len v14 H fun v17 H =>
  W.bin .lss at_12 v17 H fun v18 H =>
  W.guarded v18 true (fun H k => W.getN 2 v2 H k) H fun v19 H =>
  W.guarded v18 true (fun H k => k v14 H) H fun v20 H =>
  W.guarded v18 true (fun H k => k at_12 H) H fun v21 H =>
  W.guarded v18 true (fun H k => W.indexAddr 2 v20 v21 H k) H fun v22 H =>
  W.guarded v18 true (fun H k => W.getN 2 v22 H k) H fun v23 H =>
  W.guarded v18 true (fun H k => W.callQ Try.prog (.func (.func 32) #[] #[]) #[v19, v23] H k) H fun v24 H =>
  W.guarded v18 true (fun H k => W.un .not v24 H k) H fun v25 H =>
  W.pick v18 v25 (.bool false) H fun v26 H =>
  W.cond v26 H
  (fun H => W.bin .add at_12 (.int .i64 1) H fun v27 H =>
   I1 (v27, ()) H)
  (fun H => W.indexAddr 1 v13 at_12 H fun v28 H =>
   W.get v28 H fun v29 H =>
   Q (.tuple #[v29, (.int .i64 0)]) H)
def f7.j1 (Q : Post) (v1 : Value) (d_1 : Value) (v2 : Value) (code_8 : Value) (H : Heap) : Prop :=
  W.bin .neq code_8 (.int .i64 0) H fun v10 H =>
  W.cond v10 H
  (fun H => Q (.tuple #[(.int .i64 0), code_8]) H)
  (fun H => W.getN 2 v1 H fun v11 H =>
   W.call Try.prog (.func (.func 23) #[] #[]) #[v11, d_1] H fun v12 H =>
   W.extract 0 v12 H fun v13 H =>
   W.extract 1 v12 H fun v14 H =>
   W.extract 2 v12 H fun v15 H =>
   W.bin .neq v15 (.int .i64 0) H fun v16 H =>
   W.cond v16 H
   (fun H => Q (.tuple #[(.int .i64 0), v15]) H)
   (fun H => W.loop (S := St [12]) (fun I1 s H => f7.l1 Q v14 v2 v13 I1 s.1 H) ((.int .i64 0), ()) H))
def f7.w (Q : Post) (p_0 : Value) (d_1 : Value) (t_2 : Value) (H : Heap) : Prop :=
  W.box p_0 31 H fun v1 H =>
  W.box t_2 34 H fun v2 H =>
  W.getN 2 v1 H fun v3 H =>
  W.call Try.prog (.func (.func 30) #[] #[]) #[v3, d_1] H fun v4 H =>
  W.bin .eql v4 (.int .i64 0) H fun v5 H =>
  W.guarded v5 true (fun H k => W.getN 2 v2 H k) H fun v6 H =>
  W.guarded v5 true (fun H k => W.call Try.prog (.func (.func 31) #[] #[]) #[v6] H k) H fun v7 H =>
  W.guarded v5 true (fun H k => W.un .not v7 H k) H fun v8 H =>
  W.pick v5 v8 (.bool false) H fun v9 H =>
  W.cond v9 H
  (fun H => f7.j1 Q v1 d_1 v2 (.int .i64 2) H)
  (fun H => f7.j1 Q v1 d_1 v2 v4 H)
theorem f7.enter {Q : Post} {p_0 : Value} {d_1 : Value} {t_2 : Value} {H : Heap} (h : f7.w Q p_0 d_1 t_2 H) : Runs Try.prog 7 #[p_0, d_1, t_2] H Q :=
  fn_enter (ann := [(10, [12])]) (by kernel_rfl) Try.func7 rfl (by kernel_rfl) h (by kernel_rfl)


theorem way_scaled {n : Nat} {p : Prob} {q : List Int} {s : Nat} : (solveL n (colL n p.1 s) q).map (fun x => sgI (det n (mAt (colL n p.1 s))) * x) = wayN n p q s := rfl

/-- The way as the reference goes it: the number that became 0 must rise again. -/
theorem fn60 {H0 : Heap} {Q : Post} {cs : List Value} {vd : Value} {p : Prob} {d : List Int} (hr : Has RProblem H0 cs p) (hd : Has RS H0 [vd] d) (hp : isProb p = true) (hdk : dirOk p.2.length d = true)
    (hQ : ∀ H' u w, Fresh (RS.pair RFS) H0 [u, w] ((wayR p.2.length p d).1, (wayR p.2.length p d).2.1) H' → Q (.tuple #[u, w, .int .i64 (wayR p.2.length p d).2.2]) H') : Runs Try.prog 60 #[.agg cs.toArray, vd] H0 Q := by
  obtain ⟨u1, u2, rfl, r1, r2⟩ := hasProb hr
  have hpb := PB.of hp
  have hn := hpb.n5
  have h32 := pow5 hn
  obtain ⟨hdl, hdb⟩ := dirOk_iff hdk
  have hz : ∀ H c, H0.Le H → wayR p.2.length p d = ([], [], c) → Q (.tuple #[.slice none 0 0, .slice none 0 0, .int .i64 c]) H := fun H c l e => by
    have := hQ H (.slice none 0 0) (.slice none 0 0) (by rw [e]; exact fresh_nil2 l)
    rw [e] at this
    exact this
  have h := ((((Loc.start H0).lent hd).lent hr).lent r1).lent r2
  refine f60.enter ?_
  unfold f60.w
  refine Wl.box h fun H b h => Wl.getA h rfl (Wi.call (fn88 (h.rd (cs := [u1, u2])) hpb fun H u f => ?_))
  have h := h.add f
  have hl := covL_one (n := p.2.length) (p := p)
  have none1 : firstS p.2.length p = none → wayR p.2.length p d = ([], [], 5) := fun e => by unfold wayR; rw [e]
  refine Wl.len h (Wi.neqC (fun hne => Wi.tru ?_) fun he => Wi.fls ?_)
  · refine hz _ _ h.le (none1 ?_)
    unfold firstS
    rw [if_neg]
    rintro ⟨g, _⟩
    omega
  have hlen : (covN p.2.length p).length = 1 := by omega
  have h0 : 0 < (covN p.2.length p).length := by omega
  obtain ⟨hs, s2⟩ := covN_at h0
  obtain ⟨hD, hall⟩ := covB_split s2
  have ev : (covL p.2.length p)[0]'(by omega) = ((covN p.2.length p)[0] : Nat) := by simp only [covL_map, List.getElem_map]
  have ed : (covN p.2.length p).getD 0 0 = (covN p.2.length p)[0] := by simp [h0]
  refine Wl.atInt h (i := 0) (by omega) fun _ => ?_
  rw [ev]
  generalize hss : (covN p.2.length p)[0] = s at *
  refine Wl.getA h rfl (Wi.call (fn89 (h.rd (cs := [u1, u2])) hpb (by omega) (fun g => absurd g hD) fun _ H l => ?_))
  have h := h.to l
  simp only [gw]
  rw [zeroB_inner hall]
  cases hz0 : zeroB p.2.length p s with
  | true =>
    simp only [Bool.not_true, gw]
    refine hz _ _ h.le (none1 ?_)
    unfold firstS
    rw [if_neg]
    rintro ⟨_, g⟩
    rw [ed, hz0] at g
    cases g
  | false =>
  simp only [Bool.not_false, gw]
  have hR : wayR p.2.length p d = folF p.2.length p d 41 s [(s : Int)] [] (0, 1) := by
    unfold wayR firstS
    rw [ed, if_pos ⟨hlen, hz0⟩]
  have h := h.tl

  generalize hRR : wayR p.2.length p d = R at *
  refine Wl.lit1 (r := Rd.int) (ty := 2) (x := (s : Int)) rfl rfl rfl (fun _ => ⟨rfl, rfl, by unfold I64; omega⟩) h fun H u h => ?_
  refine Wl.lit0 (ty := 34) RFrac rfl h fun H v h => ?_
  refine Wi.build (cells := frC (0, 1)) rfl (Wl.new h fun H b9 h => Wl.putA h rfl rfl rfl fun H h => ?_)
  refine W.for_rule 40 (fun i st H => ∃ (s : Nat) (sets : List Int) (breaks : List Frac) (before : Frac) (u v : Value) (last : Int), st = (.int .i64 (s : Nat), u, v, .int .i64 last, ()) ∧ breaks.length = i ∧ sets.length = i + 1 ∧ s < 2 ^ p.2.length ∧ Low before ∧
    (det p.2.length (mAt (colL p.2.length p.1 s)) = 0 → R = ([], [], 5)) ∧ (last = -1 ∧ det p.2.length (mAt (colL p.2.length p.1 s)) ≠ 0 ∨ ∃ k : Nat, last = (k : Int) ∧ k < p.2.length ∧ (det p.2.length (mAt (colL p.2.length p.1 s)) ≠ 0 → (wayN p.2.length p d s).getD k 0 ≤ 0 → R = ([], [], 5))) ∧
    ((det p.2.length (mAt (colL p.2.length p.1 s)) ≠ 0 ∧ (∀ k : Nat, last = (k : Int) → ¬ (wayN p.2.length p d s).getD k 0 ≤ 0)) → folF p.2.length p d (41 - i) s sets breaks before = R) ∧
    Ab.Loc H0 [.box b9 (frC before), .grow RFrac 34 v breaks, .grow Rd.int 2 u sets, .box b [u1, u2], .lent RS [u2] p.2, .lent RSS [u1] p.1, .lent RProblem [u1, u2] p, .lent RS [vd] d] H)
    ⟨s, [(s : Int)], [], (0, 1), u, v, -1, rfl, rfl, rfl, hs, ⟨by decide, by decide, rfl⟩, fun g => absurd g hD, .inl ⟨rfl, hD⟩, fun _ => hR.symm, h⟩ ?_
  clear h hR hD hs
  rintro i st H J hi ⟨s, sets, breaks, before, u, v, last, rfl, hbl, hsl, hs, hlow, hRD, hRB, hR, h⟩ hJ
  have la := wayN_len p.2.length p p.2 s
  have lb := wayN_len p.2.length p d s
  have ba := wayN_abs (s := s) hpb hpb.q
  have bb := wayN_abs (s := s) hpb hdb
  refine Wi.fieldAddr0 (Wl.get h rfl (Wi.call (fn90 (h.rd (cs := [u1])) hpb.sq hn hpb.m (by omega) fun H w f => ?_)))
  have h := (h.addG f).asData (i := 0) rfl
  have hcs := tabL_sq p.2.length (colE p.1 s)
  have hcb : ∀ r c, r < p.2.length → c < p.2.length → (mAt (colL p.2.length p.1 s) r c).natAbs ≤ 20 := fun r c hr hc => by rw [colL_at hr hc]; exact colE_abs (hpb.m r c)
  refine Wi.fieldAddr (Wl.get h rfl (Wi.call (fn91 (h.rd (cs := [w])) (h.rd (cs := [u2])) hcs hn hpb.ql hcb hpb.q fun H va f => ?_)))
  have h := h.add f
  simp only [gw]
  refine Wi.call (fn91 (h.rd (cs := [w])) (h.rd (cs := [vd])) hcs hn hdl hcb hdb fun H vb f => ?_)
  have h := h.add f
  simp only [gw]
  refine Wi.eqlC (fun hD => Wi.tru ?_) fun hD => Wi.fls ?_
  · exact hz _ _ h.le (hRD hD)
  have hsl1 := solveL_len p.2.length (colL p.2.length p.1 s) p.2
  have hsl2 := solveL_len p.2.length (colL p.2.length p.1 s) d
  refine Wi.call (fn92 (h.rd (cs := [va])) (by rw [solveL_len]; omega) (solve_had s hn hpb.m hpb.q) hD fun H va2 f => ?_)
  have h := h.add f
  refine Wi.call (fn92 (h.rd (cs := [vb])) (by rw [solveL_len]; omega) (solve_had s hn hpb.m hdb) hD fun H vb2 f => ?_)
  have h := h.add f
  change Ab.Loc H0 (.data RS [vb2] (wayN p.2.length p d s) :: .data RS [va2] (wayN p.2.length p p.2 s) :: _) H at h
  have h : Ab.Loc H0 [.data RS [vb2] (wayN p.2.length p d s), .data RS [va2] (wayN p.2.length p p.2 s), .box b9 (frC before), .grow RFrac 34 v breaks, .grow Rd.int 2 u sets, .box b [u1, u2], .lent RS [u2] p.2, .lent RSS [u1] p.1, .lent RProblem [u1, u2] p, .lent RS [vd] d] H := ((h.cut 2).cut 2).cut 2
  -- the step itself
  have go : (∀ k : Nat, last = (k : Int) → ¬ (wayN p.2.length p d s).getD k 0 ≤ 0) → W.getN 2 (pt b9 0) H fun v39 H => W.call Try.prog (.func (.func 93) #[] #[]) #[va2, vb2, v39] H fun v40 H =>
      W.extract 0 v40 H fun v41 H => W.extract 1 v40 H fun v42 H => W.extract 2 v40 H fun v43 H => W.extract 3 v40 H fun v44 H =>
      W.new [(.int .i64 0), (.int .i64 0)] 34 H fun v45 H => W.putN 2 v45 v41 H fun _ H => W.un .not v44 H fun v46 H => W.cond v46 H
      (fun H => Q (.tuple #[u, v, (.int .i64 0)]) H)
      (fun H => W.bin .gtr v43 (.int .i64 1) H fun v47 H => W.cond v47 H
       (fun H => Q (.tuple #[(.slice none 0 0), (.slice none 0 0), (.int .i64 5)]) H)
       (fun H => W.len v H fun v48 H => W.bin .eql v48 (.int .i64 40) H fun v49 H => W.cond v49 H
        (fun H => Q (.tuple #[(.slice none 0 0), (.slice none 0 0), (.int .i64 3)]) H)
        (fun H => W.conv .u64 v42 H fun v50 H => W.bin .shl (.int .i64 1) v50 H fun v51 H => W.bin .xor (.int .i64 (s : Nat)) v51 H fun v52 H =>
         W.lit 1 [(.int .i64 0)] 2 [(0, 1, v52)] H fun v53 H => W.append 1 2 u v53 H fun v54 H => W.getN 2 v45 H fun v55 H =>
         W.lit 1 [(.int .i64 0), (.int .i64 0)] 34 [(0, 2, v55)] H fun v56 H => W.append 2 34 v v56 H fun v57 H =>
         W.getN 2 v45 H fun v58 H => W.putN 2 (pt b9 0) v58 H fun _ H => J (v52, v54, v57, v42, ()) H))) := fun hlast => by
    have hR := hR ⟨hD, hlast⟩
    rw [show 41 - i = (40 - i) + 1 by omega, folF] at hR
    refine Wl.getA h rfl (Wi.call (fn93 (h.rd (cs := [va2])) (h.rd (cs := [vb2])) (by rw [la, lb]) (by omega) ba bb hlow fun H l => ?_))
    have h := h.to l
    have hbkl := bk_low (before := before) ba bb p.2.length
    have hone := bk_one (a := wayN p.2.length p p.2 s) (b := wayN p.2.length p d s) (before := before) (n := p.2.length)
    rw [lb]
    simp only [gw]
    refine Wl.new h fun H bt h => Wl.putA h rfl rfl rfl fun H h => ?_
    generalize hbk : bkTo (wayN p.2.length p p.2 s) (wayN p.2.length p d s) before p.2.length = bk at *
    by_cases h0 : bk.2 = []
    · have e0 : decide (0 < bk.2.length) = false := by rw [h0]; rfl
      rw [e0]
      simp only [gw]
      rw [if_pos h0] at hR
      subst hR
      exact hQ _ u v (Loc.ret2 ((h.asData (i := 4) rfl).asData (i := 5) rfl) (i := 5) (j := 4) rfl rfl (by decide))
    have hpos : 0 < bk.2.length := List.length_pos_iff.2 h0
    rw [decide_eq_true hpos]
    simp only [gw]
    rw [if_neg h0] at hR
    refine Wi.gtrC (fun hg => Wi.tru ?_) fun hng => Wi.fls ?_
    · rw [if_pos (by omega)] at hR
      exact hz _ _ h.le hR.symm
    have h1 : ¬ 1 < bk.2.length := by omega
    rw [if_neg h1] at hR
    refine Wl.len h (Wi.eqlC (fun he => Wi.tru ?_) fun hne => Wi.fls ?_)
    · rw [if_pos (by omega)] at hR
      exact hz _ _ h.le hR.symm
    rw [if_neg (by omega)] at hR
    obtain ⟨k, hk, ek⟩ := hone h0 h1
    have e1 : bk.2.getD 0 0 = (k : Int) := by rw [ek]; rfl
    rw [e1, Int.toNat_natCast] at hR
    rw [e1]
    have hs2 : s ^^^ 2 ^ k < 2 ^ p.2.length := Nat.xor_lt_two_pow hs (Nat.pow_lt_pow_right (by decide) hk)
    have hk2 : 2 ^ k < 2 ^ p.2.length := Nat.pow_lt_pow_right (by decide) hk
    refine Wi.convN (by omega) (Wi.shl1 (by omega) (Wi.xorN (by omega) (by omega) ?_))
    generalize hss : s ^^^ 2 ^ k = s2 at *
    have i1 := i64_low hbkl
    refine Wl.pushP (r := Rd.int) (x := (s2 : Int)) (i := 5) rfl rfl rfl (fun _ => ⟨rfl, rfl, by unfold I64; omega⟩) h (by omega) fun H u' h => ?_
    have h : Ab.Loc H0 [.box bt (frC bk.1), .data RS [vb2] (wayN p.2.length p d s), .data RS [va2] (wayN p.2.length p p.2 s), .box b9 (frC before), .grow RFrac 34 v breaks, .grow Rd.int 2 u' (sets ++ [(s2 : Int)]), .box b [u1, u2], .lent RS [u2] p.2, .lent RSS [u1] p.1, .lent RProblem [u1, u2] p, .lent RS [vd] d] H := h
    refine Wl.getA h rfl (Wl.pushP (r := RFrac) (x := bk.1) (i := 4) rfl rfl rfl (fun H => frac_rel i1 H) h (by omega) fun H v' h => ?_)
    have h : Ab.Loc H0 [.box bt (frC bk.1), .data RS [vb2] (wayN p.2.length p d s), .data RS [va2] (wayN p.2.length p p.2 s), .box b9 (frC before), .grow RFrac 34 v' (breaks ++ [bk.1]), .grow Rd.int 2 u' (sets ++ [(s2 : Int)]), .box b [u1, u2], .lent RS [u2] p.2, .lent RSS [u1] p.1, .lent RProblem [u1, u2] p, .lent RS [vd] d] H := h
    refine Wl.getA h rfl (Wl.putA (b := b9) h rfl rfl rfl fun H h => ?_)
    refine hJ _ _ (by omega) ⟨s2, sets ++ [(s2 : Int)], breaks ++ [bk.1], bk.1, u', v', (k : Int), rfl, by simp; omega, by simp; omega, hs2, hbkl, fun e => ?_, .inr ⟨k, rfl, hk, fun e1 e2 => ?_⟩, fun e => ?_, ((h.cut 0).cut 0).cut 0⟩
    · rw [← hR, if_pos e]
    · rw [← hR, if_neg e1, if_pos e2]
    · rw [show 41 - (i + 1) = 40 - i by omega]
      rw [if_neg e.1, if_neg (e.2 k rfl)] at hR
      exact hR
  rcases hRB with ⟨rfl, _⟩ | ⟨k, rfl, hk, hRB⟩
  · refine Wi.geqC (fun g => absurd g (by decide)) fun _ => ?_
    simp only [gw]
    exact go fun k hk => by omega
  · refine Wi.geqC (fun _ => ?_) fun g => absurd (by omega) g
    simp only [gw]
    have hkl : k < (wayN p.2.length p d s).length := by omega
    have ekb : (wayN p.2.length p d s).getD k 0 = (wayN p.2.length p d s)[k] := by simp [hkl]
    refine Wl.atInt h hkl fun _ => Wi.leqC (fun hle => ?_) fun hgt => ?_
    · simp only [gw]
      exact hz _ _ h.le (hRB hD (by rw [ekb]; exact hle))
    · simp only [gw]
      refine go fun k' hk' => ?_
      have : k' = k := by omega
      subst this
      rw [ekb]
      exact hgt

theorem fn23 {H0 : Heap} {Q : Post} {cs : List Value} {vd : Value} {p : Prob} {d : List Int} (hr : Has RProblem H0 cs p) (hd : Has RS H0 [vd] d) (_ : wProblem p ≤ 1048576) (_ : d.length ≤ 1048576)
    (hQ : ∀ H' u w, Fresh (RS.pair RFS) H0 [u, w] ((folRes p d).1, (folRes p d).2.1) H' → Q (.tuple #[u, w, .int .i64 (folRes p d).2.2]) H') : Runs Try.prog 23 #[.agg cs.toArray, vd] H0 Q := by
  have hlen := hr.len
  have hz : ∀ H c, H0.Le H → folRes p d = ([], [], c) → Q (.tuple #[.slice none 0 0, .slice none 0 0, .int .i64 c]) H := fun H c l e => by
    have := hQ H (.slice none 0 0) (.slice none 0 0) (by rw [e]; exact fresh_nil2 l)
    rw [e] at this
    exact this
  have h := ((Loc.start H0).lent hd).lent hr
  refine f23.enter ?_
  unfold f23.w
  refine Wl.box h fun H b h => Wl.getA h hlen (Wi.call (fn30 (h.rd (cs := cs)) (h.rd (cs := [vd])) fun H l => ?_))
  have h := h.to l
  unfold givC
  by_cases hp : isProb p = true
  · rw [if_pos hp]
    by_cases hdk : dirOk p.2.length d = true
    · rw [if_pos hdk]
      have e : folRes p d = wayR p.2.length p d := by unfold folRes; rw [if_pos hp, if_pos hdk]
      have hok := wayR_ok (p := p) (PB.of hp) (dirOk_iff hdk).2
      rw [e] at hQ
      refine Wi.neqC (fun g => absurd rfl g) fun _ => Wi.fls (Wl.getA h hlen (Wi.call (fn60 (h.rd (cs := cs)) (h.rd (cs := [vd])) hp hdk fun H u w f => ?_)))
      generalize wayR p.2.length p d = R at *
      have h := h.add2 (c1 := [u]) (c2 := [w]) rfl f
      have done : ∀ H, Ab.Loc H0 [.data RS [u] R.1, .data RFS [w] R.2.1, .box b cs, .lent RProblem cs p, .lent RS [vd] d] H → Q (.tuple #[u, w, .int .i64 R.2.2]) H := fun H h => hQ _ u w (Loc.ret2 h (i := 0) (j := 1) rfl rfl (by decide))
      simp only [gw]
      refine Wi.eqlC (fun he => Wi.tru ?_) fun hne => Wi.fls ?_
      · have hall : R.2.1.all (isFr 1000000000) = true := List.all_eq_true.2 fun a ha => low_fr (hok.low a ha)
        refine Wi.call (fn61 (h.rd (cs := [w])) (fun a ha => ⟨(hok.low a ha).1.1, (hok.low a ha).2.2⟩) (fun _ => ?_) fun g => ?_)
        · simp only [gw]
          unfold f23.j1
          refine Wi.neqC (fun g => absurd rfl g) fun _ => Wi.fls ?_
          have := done _ h
          rw [he] at this
          exact this
        · rw [hall] at g; cases g
      · unfold f23.j1
        obtain ⟨e1, e2⟩ := hok.none hne
        exact Wi.neqC (fun _ => Wi.tru (hz _ _ h.le (by rw [e]; exact Prod.ext e1 (Prod.ext e2 rfl)))) fun g => absurd g hne
    · rw [if_neg hdk]
      exact Wi.neqC (fun _ => Wi.tru (hz _ _ h.le (by unfold folRes; rw [if_pos hp, if_neg hdk]))) fun g => absurd g (by decide)
  · rw [if_neg hp]
    exact Wi.neqC (fun _ => Wi.tru (hz _ _ h.le (by unfold folRes; rw [if_neg hp]))) fun g => absurd g (by decide)

theorem fn7 {H0 : Heap} {Q : Post} {cs ct : List Value} {vd : Value} {p : Prob} {d : List Int} {t : Frac} (hr : Has RProblem H0 cs p) (hd : Has RS H0 [vd] d) (ht : Has RFrac H0 ct t) (hw : wProblem p ≤ 1048576) (hdl : d.length ≤ 1048576)
    (hQ : ∀ H', H0.Le H' → Q (.tuple #[.int .i64 (saRes p d t).1, .int .i64 (saRes p d t).2]) H') : Runs Try.prog 7 #[.agg cs.toArray, vd, .agg ct.toArray] H0 Q := by
  obtain ⟨rfl, ht1, ht2⟩ := hasFrac ht
  have hlen := hr.len
  have hz : ∀ H a c, H0.Le H → saRes p d t = (a, c) → Q (.tuple #[.int .i64 a, .int .i64 c]) H := fun H a c l e => by
    have := hQ H l
    rw [e] at this
    exact this
  have h := ((Loc.start H0).lent hd).lent hr
  refine f7.enter ?_
  unfold f7.w
  refine Wl.box h fun H b h => Wl.box h fun H bt h => Wl.getA h hlen (Wi.call (fn30 (h.rd (cs := cs)) (h.rd (cs := [vd])) fun H l => ?_))
  have h := h.to l
  unfold givC
  by_cases hp : isProb p = true
  case neg =>
    rw [if_neg hp]
    refine Wi.eqlC (fun g => absurd g (by decide)) fun _ => ?_
    simp only [gw]
    unfold f7.j1
    exact Wi.neqC (fun _ => Wi.tru (hz _ _ _ h.le (by unfold saRes; rw [if_neg hp]))) fun g => absurd g (by decide)
  rw [if_pos hp]
  by_cases hdk : dirOk p.2.length d = true
  case neg =>
    rw [if_neg hdk]
    refine Wi.eqlC (fun g => absurd g (by decide)) fun _ => ?_
    simp only [gw]
    unfold f7.j1
    exact Wi.neqC (fun _ => Wi.tru (hz _ _ _ h.le (by unfold saRes; rw [if_pos hp, if_neg fun g => hdk g.1]))) fun g => absurd g (by decide)
  rw [if_pos hdk]
  refine Wi.eqlC (fun _ => ?_) fun g => absurd rfl g
  simp only [gw]
  refine Wl.getA h rfl (Wi.call (fn31 ⟨ht1, ht2⟩ fun H l => ?_))
  have h := h.to l
  cases htk : timeOk t with
  | false =>
    simp only [gw]
    unfold f7.j1
    exact Wi.neqC (fun _ => Wi.tru (hz _ _ _ h.le (by unfold saRes; rw [if_pos hp, if_neg fun g => by rw [htk] at g; cases g.2]))) fun g => absurd g (by decide)
  | true =>
  simp only [gw]
  unfold f7.j1
  obtain ⟨t1, t2, _⟩ := timeOk_iff htk
  have hok := wayR_ok (p := p) (n := p.2.length) (PB.of hp) (dirOk_iff hdk).2
  have e : folRes p d = wayR p.2.length p d := by unfold folRes; rw [if_pos hp, if_pos hdk]
  have eR : saRes p d t = if (wayR p.2.length p d).2.2 = 0 then ((wayR p.2.length p d).1.getD (atF (wayR p.2.length p d).2.1 t) 0, 0) else (0, (wayR p.2.length p d).2.2) := by
    unfold saRes
    rw [if_pos hp, if_pos ⟨hdk, htk⟩]
  refine Wi.neqC (fun g => absurd rfl g) fun _ => Wi.fls (Wl.getA h hlen (Wi.call (fn23 (h.rd (cs := cs)) (h.rd (cs := [vd])) hw hdl fun H u w f => ?_)))
  rw [e] at f ⊢
  generalize wayR p.2.length p d = R at *
  have h := h.add2 (c1 := [u]) (c2 := [w]) rfl f
  simp only [gw]
  refine Wi.neqC (fun hne => Wi.tru ?_) fun he => Wi.fls ?_
  · exact hz _ _ _ h.le (by rw [eR, if_neg hne])
  rw [if_pos he] at eR
  have hl := hok.one he
  refine W.for_rule R.2.1.length (fun i st H => st = (.int .i64 (i : Nat), ()) ∧ (∀ j (hj : j < R.2.1.length), j < i → (!fLt t R.2.1[j]) = true) ∧ Ab.Loc H0 [.data RS [u] R.1, .data RFS [w] R.2.1, .box bt (frC t), .box b cs, .lent RProblem cs p, .lent RS [vd] d] H) ⟨rfl, fun j _ hj => by omega, h⟩ ?_
  rintro i st H J hi ⟨rfl, hq, h⟩ hJ
  have fin : ∀ H, (∀ hi : i < R.2.1.length, (!fLt t R.2.1[i]) = false) → Ab.Loc H0 [.data RS [u] R.1, .data RFS [w] R.2.1, .box bt (frC t), .box b cs, .lent RProblem cs p, .lent RS [vd] d] H → W.indexAddr 1 u (.int .i64 (i : Nat)) H fun p H => W.get p H fun v H => Q (.tuple #[v, .int .i64 0]) H := fun H g h => by
    refine Wl.atInt h (i := i) (by omega) fun _ => hz _ _ _ h.le ?_
    rw [eR]
    have : atF R.2.1 t = i := take_while hq hi g
    rw [this]
    simp [show i < R.1.length by omega]
  refine Wl.len h (Wi.lssC (fun hlt => ?_) fun hge => ?_)
  · have hil : i < R.2.1.length := by omega
    simp only [gw]
    have hb := hok.low _ (List.getElem_mem hil)
    have hm := timeMul ⟨t1, t2⟩ hb
    refine Wl.getA h rfl (Wl.atFr h hil fun _ _ => Wi.callQ (fn32 (i64A hm.2 (by decide)) (i64A hm.1 (by decide)) fun H l => ⟨l, ?_⟩))
    have h := h.to l
    have hb2 := hok.breaks
    by_cases hlt : t.1 * (R.2.1[i]).2 < (R.2.1[i]).1 * t.2
    · rw [decide_eq_true hlt]
      simp only [gw]
      refine fin _ (fun _ => ?_) h
      unfold fLt
      rw [decide_eq_true hlt]
      rfl
    · rw [decide_eq_false hlt]
      simp only [gw]
      refine Wi.add (by unfold I64; omega) (hJ _ _ hil ⟨rfl, fun j hj hji => ?_, h⟩)
      by_cases e : j = i
      · subst e
        unfold fLt
        rw [decide_eq_false hlt]
        rfl
      · exact hq j hj (by omega)
  · simp only [gw]
    exact fin _ (fun g => by omega) h

end Go.Proofs.Ytakbahndgmiobaa
