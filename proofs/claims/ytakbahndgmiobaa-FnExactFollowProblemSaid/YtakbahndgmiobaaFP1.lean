/- The contracts of the program's FollowProblem and SetAt. No condition. -/
import Derived.Test.YtakbahndgmiobaaFP0
import Derived.Test.YtakbahndgmiobaaQ4
namespace Go.Proofs.Ytakbahndgmiobaa
open Go.Ab

/- (loop.example/g01343/impl.Problem).first -/
def f70.w (Q : Post) (p_0 : Value) (H : Heap) : Prop :=
  W.box p_0 31 H fun v1 H =>
  W.getN 2 v1 H fun v2 H =>
  W.call Try.prog (.func (.func 103) #[] #[]) #[v2] H fun v3 H =>
  W.extract 0 v3 H fun v4 H =>
  W.extract 1 v3 H fun v5 H =>
  W.len v4 H fun v6 H =>
  W.bin .neq v6 (.int .i64 1) H fun v7 H =>
  W.cond v7 H
  (fun H => Q (.tuple #[(.int .i64 0), (.bool false)]) H)
  (fun H => W.getN 2 v1 H fun v8 H =>
   W.indexAddr 1 v4 (.int .i64 0) H fun v9 H =>
   W.get v9 H fun v10 H =>
   W.callQ Try.prog (.func (.func 71) #[] #[]) #[v8, v10] H fun v11 H =>
   W.extract 0 v11 H fun v12 H =>
   W.extract 1 v11 H fun v13 H =>
   W.extract 2 v11 H fun v14 H =>
   W.indexAddr 1 v4 (.int .i64 0) H fun v15 H =>
   W.get v15 H fun v16 H =>
   W.callQ Try.prog (.func (.func 104) #[] #[]) #[v12, (.int .i64 0)] H fun v17 H =>
   W.un .not v17 H fun v18 H =>
   Q (.tuple #[v16, v18]) H)
theorem f70.enter {Q : Post} {p_0 : Value} {H : Heap} (h : f70.w Q p_0 H) : Runs Try.prog 70 #[p_0] H Q :=
  fn_enter (ann := []) (by kernel_rfl) Try.func70 rfl (by kernel_rfl) h (by kernel_rfl)

/- (loop.example/g01343/impl.Problem).follow -/
def f37.l1 (Q : Post) (v9 : Value) (v1 : Value) (d_1 : Value) (I1 : St [7, 9, 11, 12, 15] → Heap → Prop) (s_7 : Value) (sets_9 : Value) (breaks_11 : Value) (a_12 : Value) (b_15 : Value) (H : Heap) : Prop :=
  W.call Try.prog (.func (.func 73) #[] #[]) #[b_15] H fun v20 H =>
  W.un .not v20 H fun v21 H =>
  W.cond v21 H
  (fun H => W.getN 2 v9 H fun v22 H =>
   W.call Try.prog (.func (.func 74) #[] #[]) #[a_12, b_15, v22] H fun v23 H =>
   W.extract 0 v23 H fun v24 H =>
   W.extract 1 v23 H fun v25 H =>
   W.extract 2 v23 H fun v26 H =>
   W.new [(.int .i64 0), (.int .i64 0)] 34 H fun v27 H =>
   W.putN 2 v27 v24 H fun _ H =>
   W.un .not v26 H fun v28 H =>
   W.cond v28 H
   (fun H => Q (.tuple #[sets_9, breaks_11, (.int .i64 0)]) H)
   (fun H => W.len v25 H fun v29 H =>
    W.bin .gtr v29 (.int .i64 1) H fun v30 H =>
    W.cond v30 H
    (fun H => Q (.tuple #[(.slice none 0 0), (.slice none 0 0), (.int .i64 5)]) H)
    (fun H => W.len breaks_11 H fun v31 H =>
     W.bin .eql v31 (.int .i64 40) H fun v32 H =>
     W.cond v32 H
     (fun H => Q (.tuple #[(.slice none 0 0), (.slice none 0 0), (.int .i64 3)]) H)
     (fun H => W.indexAddr 1 v25 (.int .i64 0) H fun v33 H =>
      W.get v33 H fun v34 H =>
      W.bin .shl (.int .i64 1) v34 H fun v35 H =>
      W.bin .xor s_7 v35 H fun v36 H =>
      W.getN 2 v1 H fun v37 H =>
      W.call Try.prog (.func (.func 71) #[] #[]) #[v37, v36] H fun v38 H =>
      W.extract 0 v38 H fun v39 H =>
      W.extract 1 v38 H fun v40 H =>
      W.extract 2 v38 H fun v41 H =>
      W.un .not v41 H fun v42 H =>
      W.cond v42 H
      (fun H => Q (.tuple #[(.slice none 0 0), (.slice none 0 0), (.int .i64 5)]) H)
      (fun H => W.getN 2 v1 H fun v43 H =>
       W.call Try.prog (.func (.func 72) #[] #[]) #[v43, v36, d_1] H fun v44 H =>
       W.extract 0 v44 H fun v45 H =>
       W.extract 1 v44 H fun v46 H =>
       W.extract 2 v44 H fun v47 H =>
       W.indexAddr 1 v25 (.int .i64 0) H fun v48 H =>
       W.get v48 H fun v49 H =>
       W.indexAddr 1 v45 v49 H fun v50 H =>
       W.get v50 H fun v51 H =>
       W.bin .leq v51 (.int .i64 0) H fun v52 H =>
       W.cond v52 H
       (fun H => Q (.tuple #[(.slice none 0 0), (.slice none 0 0), (.int .i64 5)]) H)
       (fun H => W.getN 2 v27 H fun v53 H =>
        W.call Try.prog (.func (.func 69) #[] #[]) #[v53] H fun v54 H =>
        W.un .not v54 H fun v55 H =>
        W.cond v55 H
        (fun H => Q (.tuple #[(.slice none 0 0), (.slice none 0 0), (.int .i64 3)]) H)
        (fun H => W.lit 1 [(.int .i64 0)] 2 [(0, 1, v36)] H fun v56 H =>
         (fun Hk3 => W.append 1 2 sets_9 v56 H fun v57 H =>
         W.getN 2 v27 H fun v58 H =>
         W.chk (fun H k => W.getN 2 v27 H k) v58 Hk3 (W.lit 1 [(.int .i64 0), (.int .i64 0)] 34 [(0, 2, v58)] H fun v59 H =>
         (fun Hk7 => W.append 2 34 breaks_11 v59 H fun v60 H =>
         W.getN 2 v27 H fun v61 H =>
         W.chk (fun H k => W.getN 2 v27 H k) v61 Hk7 (W.chk (fun H k => W.getN 2 v27 H k) v61 Hk3 (W.putN 2 v9 v61 H fun _ H =>
         W.flat [v58] H fun H =>
         I1 (v36, v57, v60, v39, v45, ()) H))) H)) H)))))))
  (fun H => Q (.tuple #[sets_9, breaks_11, (.int .i64 0)]) H)
def f37.w (Q : Post) (p_0 : Value) (d_1 : Value) (H : Heap) : Prop :=
  W.box p_0 31 H fun v1 H =>
  W.getN 2 v1 H fun v2 H =>
  W.call Try.prog (.func (.func 70) #[] #[]) #[v2] H fun v3 H =>
  W.extract 0 v3 H fun v4 H =>
  W.extract 1 v3 H fun v5 H =>
  W.un .not v5 H fun v6 H =>
  W.cond v6 H
  (fun H => Q (.tuple #[(.slice none 0 0), (.slice none 0 0), (.int .i64 5)]) H)
  (fun H => W.lit 1 [(.int .i64 0)] 2 [(0, 1, v4)] H fun v7 H =>
   W.build [(.int .i64 0), (.int .i64 0)] [(0, 1, (.int .i64 0)), (1, 1, (.int .i64 1))] H fun v8 H =>
   W.new [(.int .i64 0), (.int .i64 0)] 34 H fun v9 H =>
   W.putN 2 v9 v8 H fun _ H =>
   W.getN 2 v1 H fun v10 H =>
   W.call Try.prog (.func (.func 71) #[] #[]) #[v10, v4] H fun v11 H =>
   W.extract 0 v11 H fun v12 H =>
   W.extract 1 v11 H fun v13 H =>
   W.extract 2 v11 H fun v14 H =>
   W.getN 2 v1 H fun v15 H =>
   W.call Try.prog (.func (.func 72) #[] #[]) #[v15, v4, d_1] H fun v16 H =>
   W.extract 0 v16 H fun v17 H =>
   W.extract 1 v16 H fun v18 H =>
   W.extract 2 v16 H fun v19 H =>
   W.loop (S := St [7, 9, 11, 12, 15]) (fun I1 s H => f37.l1 Q v9 v1 d_1 I1 s.1 s.2.1 s.2.2.1 s.2.2.2.1 s.2.2.2.2.1 H) (v4, v7, (.slice none 0 0), v12, v17, ()) H)
theorem f37.enter {Q : Post} {p_0 : Value} {d_1 : Value} {H : Heap} (h : f37.w Q p_0 d_1 H) : Runs Try.prog 37 #[p_0, d_1] H Q :=
  fn_enter (ann := [(8, [7, 9, 11, 12, 15])]) (by kernel_rfl) Try.func37 rfl (by kernel_rfl) h (by kernel_rfl)

/- loop.example/g01343/impl.FollowProblem -/
def f24.w (Q : Post) (p_0 : Value) (d_1 : Value) (H : Heap) : Prop :=
  W.box p_0 31 H fun v1 H =>
  W.getN 2 v1 H fun v2 H =>
  W.call Try.prog (.func (.func 34) #[] #[]) #[v2] H fun v3 H =>
  W.un .not v3 H fun v4 H =>
  W.cond v4 H
  (fun H => Q (.tuple #[(.slice none 0 0), (.slice none 0 0), (.int .i64 1)]) H)
  (fun H => W.fieldAddr 1 v1 H fun v5 H =>
   W.get v5 H fun v6 H =>
   W.len v6 H fun v7 H =>
   W.call Try.prog (.func (.func 35) #[] #[]) #[d_1, v7] H fun v8 H =>
   W.un .not v8 H fun v9 H =>
   W.cond v9 H
   (fun H => Q (.tuple #[(.slice none 0 0), (.slice none 0 0), (.int .i64 2)]) H)
   (fun H => W.getN 2 v1 H fun v10 H =>
    W.call Try.prog (.func (.func 37) #[] #[]) #[v10, d_1] H fun v11 H =>
    W.extract 0 v11 H fun v12 H =>
    W.extract 1 v11 H fun v13 H =>
    W.extract 2 v11 H fun v14 H =>
    Q (.tuple #[v12, v13, v14]) H))
theorem f24.enter {Q : Post} {p_0 : Value} {d_1 : Value} {H : Heap} (h : f24.w Q p_0 d_1 H) : Runs Try.prog 24 #[p_0, d_1] H Q :=
  fn_enter (ann := []) (by kernel_rfl) Try.func24 rfl (by kernel_rfl) h (by kernel_rfl)

/- loop.example/g01343/impl.SetAt -/
def f11.l1 (Q : Post) (v18 : Value) (v2 : Value) (v17 : Value) (I1 : St [11] → Heap → Prop) (i_11 : Value) (H : Heap) : Prop :=
  W.len v18 H fun v21 H =>
  W.bin .lss i_11 v21 H fun v22 H =>
  W.guarded v22 true (fun H k => k v18 H) H fun v23 H =>
  W.guarded v22 true (fun H k => k i_11 H) H fun v24 H =>
  W.guarded v22 true (fun H k => W.indexAddr 2 v23 v24 H k) H fun v25 H =>
  W.guarded v22 true (fun H k => W.getN 2 v25 H k) H fun v26 H =>
  W.guarded v22 true (fun H k => W.getN 2 v2 H k) H fun v27 H =>
  W.guarded v22 true (fun H k => W.callQ Try.prog (.func (.func 38) #[] #[]) #[v26, v27] H k) H fun v28 H =>
  W.guarded v22 true (fun H k => W.bin .leq v28 (.int .i64 0) H k) H fun v29 H =>
  W.pick v22 v29 (.bool false) H fun v30 H =>
  W.cond v30 H
  (fun H => W.bin .add i_11 (.int .i64 1) H fun v31 H =>
   I1 (v31, ()) H)
  (fun H => W.indexAddr 1 v17 i_11 H fun v32 H =>
   W.get v32 H fun v33 H =>
   Q (.tuple #[v33, (.int .i64 0)]) H)
def f11.w (Q : Post) (p_0 : Value) (d_1 : Value) (t_2 : Value) (H : Heap) : Prop :=
  W.box p_0 31 H fun v1 H =>
  W.box t_2 34 H fun v2 H =>
  W.getN 2 v1 H fun v3 H =>
  W.call Try.prog (.func (.func 34) #[] #[]) #[v3] H fun v4 H =>
  W.un .not v4 H fun v5 H =>
  W.cond v5 H
  (fun H => Q (.tuple #[(.int .i64 0), (.int .i64 1)]) H)
  (fun H => W.fieldAddr 1 v1 H fun v6 H =>
   W.get v6 H fun v7 H =>
   W.len v7 H fun v8 H =>
   W.call Try.prog (.func (.func 35) #[] #[]) #[d_1, v8] H fun v9 H =>
   W.un .not v9 H fun v10 H =>
   W.guarded v10 false (fun H k => W.getN 2 v2 H k) H fun v11 H =>
   W.guarded v10 false (fun H k => W.call Try.prog (.func (.func 36) #[] #[]) #[v11] H k) H fun v12 H =>
   W.guarded v10 false (fun H k => W.un .not v12 H k) H fun v13 H =>
   W.pick v10 (.bool true) v13 H fun v14 H =>
   W.cond v14 H
   (fun H => Q (.tuple #[(.int .i64 0), (.int .i64 2)]) H)
   (fun H => W.getN 2 v1 H fun v15 H =>
    W.call Try.prog (.func (.func 37) #[] #[]) #[v15, d_1] H fun v16 H =>
    W.extract 0 v16 H fun v17 H =>
    W.extract 1 v16 H fun v18 H =>
    W.extract 2 v16 H fun v19 H =>
    W.bin .neq v19 (.int .i64 0) H fun v20 H =>
    W.cond v20 H
    (fun H => Q (.tuple #[(.int .i64 0), v19]) H)
    (fun H => W.loop (S := St [11]) (fun I1 s H => f11.l1 Q v18 v2 v17 I1 s.1 H) ((.int .i64 0), ()) H)))
theorem f11.enter {Q : Post} {p_0 : Value} {d_1 : Value} {t_2 : Value} {H : Heap} (h : f11.w Q p_0 d_1 t_2 H) : Runs Try.prog 11 #[p_0, d_1, t_2] H Q :=
  fn_enter (ann := [(9, [11])]) (by kernel_rfl) Try.func11 rfl (by kernel_rfl) h (by kernel_rfl)


theorem covL_one {n : Nat} {p : Prob} : (covL n p).length = (covN n p).length := by rw [covL_map, List.length_map]

theorem fn70 {H0 : Heap} {Q : Post} {cs : List Value} {p : Prob} (hr : Has RProblem H0 cs p) (hp : isProb p = true)
    (h1 : firstS p.2.length p = none → ∀ H' x, H0.Le H' → Q (.tuple #[.int .i64 x, .bool false]) H')
    (h2 : ∀ s, firstS p.2.length p = some s → s < 2 ^ p.2.length → det p.2.length (mAt (colL p.2.length p.1 s)) ≠ 0 → ∀ H', H0.Le H' → Q (.tuple #[.int .i64 (s : Nat), .bool true]) H') : Runs Try.prog 70 #[.agg cs.toArray] H0 Q := by
  obtain ⟨u1, u2, rfl, r1, r2⟩ := hasProb hr
  have hpb := PB.of hp
  have hn := hpb.n5
  have h32 := pow5 hn
  have h := (Loc.start H0).lent hr
  refine f70.enter (Wl.box h fun H b h => Wl.getA h rfl (Wi.call (fn103 (h.rd (cs := [u1, u2])) fun H u f => ?_)))
  simp only [gw]
  have h := h.add f
  have e : cvRes p = (covL p.2.length p, 0) := by unfold cvRes; rw [hp]; rfl
  rw [e] at h
  dsimp only at h
  have hl := covL_one (n := p.2.length) (p := p)
  refine Wl.len h (Wi.neqC (fun hne => Wi.tru ?_) fun he => Wi.fls ?_)
  · refine h1 ?_ _ _ h.le
    unfold firstS
    rw [if_neg]
    rintro ⟨g, _⟩
    omega
  have hlen : (covN p.2.length p).length = 1 := by omega
  have h0 : 0 < (covN p.2.length p).length := by omega
  obtain ⟨s1, s2⟩ := covN_at h0
  obtain ⟨hD, _⟩ := covB_split s2
  have ev : (covL p.2.length p)[0]'(by omega) = ((covN p.2.length p)[0] : Nat) := by simp only [covL_map, List.getElem_map]
  have ed : (covN p.2.length p).getD 0 0 = (covN p.2.length p)[0] := by simp [h0]
  refine Wl.getA h rfl (Wl.atInt h (i := 0) (by omega) fun _ => ?_)
  rw [ev]
  generalize hs : (covN p.2.length p)[0] = s at *
  refine Wi.callQ (fn71 (h.rd (cs := [u1, u2])) hpb (by omega) (fun g => absurd g hD) fun _ H w f => ⟨f.le, ?_⟩)
  simp only [gw]
  have h := h.add f
  refine Wl.atInt h (i := 0) (by omega) fun _ => ?_
  rw [ev]
  obtain ⟨_, q⟩ := h.rd (cs := [w])
  refine Wi.callQ (fn104 q ⟨.refl _, ?_⟩)
  show W.un .not (.bool (zeroB p.2.length p s)) _ _
  cases hz : zeroB p.2.length p s with
  | true =>
    simp only [gw]
    refine h1 ?_ _ _ h.le
    unfold firstS
    rw [if_neg]
    rintro ⟨_, g⟩
    rw [ed, hz] at g
    cases g
  | false =>
    simp only [gw]
    refine h2 s ?_ s1 hD _ h.le
    unfold firstS
    rw [ed, if_pos ⟨hlen, hz⟩]

theorem fn37 {H0 : Heap} {Q : Post} {cs : List Value} {vd : Value} {p : Prob} {d : List Int} (hr : Has RProblem H0 cs p) (hd : Has RS H0 [vd] d) (hp : isProb p = true) (hdk : dirOk p.2.length d = true)
    (hQ : ∀ H' u w, Fresh (RS.pair RFS) H0 [u, w] ((wayR p.2.length p d).1, (wayR p.2.length p d).2.1) H' → Q (.tuple #[u, w, .int .i64 (wayR p.2.length p d).2.2]) H') : Runs Try.prog 37 #[.agg cs.toArray, vd] H0 Q := by
  obtain ⟨u1, u2, rfl, r1, r2⟩ := hasProb hr
  have hpb := PB.of hp
  have hn := hpb.n5
  have h32 := pow5 hn
  obtain ⟨hdl, hdb⟩ := dirOk_iff hdk
  have hz : ∀ H c, H0.Le H → wayR p.2.length p d = ([], [], c) → Q (.tuple #[.slice none 0 0, .slice none 0 0, .int .i64 c]) H := fun H c l e => by
    have := hQ H (.slice none 0 0) (.slice none 0 0) (by rw [e]; exact fresh_nil2 l)
    rw [e] at this
    exact this
  have h := ((Loc.start H0).lent hd).lent hr
  refine f37.enter ?_
  unfold f37.w
  refine Wl.box h fun H b h => Wl.getA h rfl (Wi.call (fn70 (h.rd (cs := [u1, u2])) hp (fun e H x l => ?_) fun s e hs hD H l => ?_))
  · simp only [gw]
    exact hz _ _ (h.to l).le (by unfold wayR; rw [e])
  have h := h.to l
  simp only [gw]
  have hR : wayR p.2.length p d = folF p.2.length p d 41 s [(s : Int)] [] (0, 1) := by unfold wayR; rw [e]
  generalize hRR : wayR p.2.length p d = R at *
  generalize hnn : p.2.length = n at *
  refine Wl.lit1 (r := Rd.int) (ty := 2) (x := (s : Int)) rfl rfl rfl (fun _ => ⟨rfl, rfl, by unfold I64; omega⟩) h fun H u h => ?_
  refine Wi.build (cells := frC (0, 1)) rfl (Wl.new h fun H b9 h => Wl.putA h rfl rfl rfl fun H h => Wl.getA h rfl ?_)
  have h := h.nilG RFrac 34
  refine Wi.call (fn71 (h.rd (cs := [u1, u2])) hpb (by omega) (fun g => absurd g hD) fun _ H va f => ?_)
  have h := h.add f
  simp only [gw]
  refine Wl.getA h rfl (Wi.call (fn72 (h.rd (cs := [u1, u2])) hpb (by omega) (h.rd (cs := [vd])) hdl hdb (fun g => absurd g hD) fun _ H vb f => ?_))
  have h := h.add f
  simp only [gw]
  refine W.for_rule 40 (fun i st H => ∃ (s : Nat) (sets : List Int) (breaks : List Frac) (before : Frac) (u v va vb : Value), st = (.int .i64 (s : Nat), u, v, va, vb, ()) ∧ breaks.length = i ∧ sets.length = i + 1 ∧ s < 2 ^ n ∧ Low before ∧ folF n p d (41 - i) s sets breaks before = R ∧
    Ab.Loc H0 [.data RS [vb] (wayN n p d s), .data RS [va] (wayN n p p.2 s), .grow RFrac 34 v breaks, .box b9 (frC before), .grow Rd.int 2 u sets, .box b [u1, u2], .lent RProblem [u1, u2] p, .lent RS [vd] d] H)
    ⟨s, [(s : Int)], [], (0, 1), u, _, va, vb, rfl, rfl, rfl, hs, ⟨by decide, by decide, rfl⟩, hR.symm, h⟩ ?_
  clear h hR
  rintro i st H J hi ⟨s, sets, breaks, before, u, v, va, vb, rfl, hbl, hsl, hs, hlow, hR, h⟩ hJ
  have la := wayN_len n p p.2 s
  have lb := wayN_len n p d s
  have ba := wayN_abs (s := s) hpb hpb.q
  have bb := wayN_abs (s := s) hpb hdb
  rw [show 41 - i = (40 - i) + 1 by omega, folF] at hR
  refine Wi.call (fn73 (h.rd (cs := [vb])) fun H t l ht => ?_)
  have h := h.to l
  -- what was found so far
  have done : ∀ H, (bkTo (wayN n p p.2 s) (wayN n p d s) before n).2 = [] → Ab.Loc H0 [.data RS [vb] (wayN n p d s), .data RS [va] (wayN n p p.2 s), .grow RFrac 34 v breaks, .box b9 (frC before), .grow Rd.int 2 u sets, .box b [u1, u2], .lent RProblem [u1, u2] p, .lent RS [vd] d] H →
      Q (.tuple #[u, v, .int .i64 0]) H := fun H e h => by
    rw [if_pos e] at hR
    subst hR
    exact hQ _ u v (Loc.ret2 ((h.asData (i := 2) rfl).asData (i := 4) rfl) (i := 4) (j := 2) rfl rfl (by decide))
  cases t with
  | true =>
    simp only [gw]
    exact done _ (by rw [bk_none (ht.1 rfl)]) h
  | false =>
  simp only [gw]
  refine Wl.getA h rfl (Wi.call (fn74 (h.rd (cs := [va])) (h.rd (cs := [vb])) (by rw [la, lb]) (by omega) ba bb hlow fun H w t f hft => ?_))
  have hbkl := bk_low (before := before) ba bb n
  have hone := bk_one (a := wayN n p p.2 s) (b := wayN n p d s) (before := before) (n := n)
  rw [lb] at f hft
  rw [lb]
  have h := h.add f
  simp only [gw]
  refine Wl.new h fun H bt h => Wl.putA h rfl rfl rfl fun H h => ?_
  generalize hbk : bkTo (wayN n p p.2 s) (wayN n p d s) before n = bk at *
  by_cases h0 : bk.2 = []
  · have e0 : decide (0 < bk.2.length) = false := by rw [h0]; rfl
    rw [e0]
    simp only [gw]
    exact done _ h0 ((h.cut 0).cut 0)
  clear done
  have et := hft h0
  subst et
  have hpos : 0 < bk.2.length := List.length_pos_iff.2 h0
  rw [decide_eq_true hpos]
  simp only [gw]
  rw [if_neg h0] at hR
  refine Wl.len h (Wi.gtrC (fun hg => Wi.tru ?_) fun hng => Wi.fls ?_)
  · rw [if_pos (by omega)] at hR
    exact hz _ _ h.le hR.symm
  have h1 : ¬ 1 < bk.2.length := by omega
  rw [if_neg h1] at hR
  refine Wl.len h (Wi.eqlC (fun he => Wi.tru ?_) fun hne => Wi.fls ?_)
  · rw [if_pos (by omega)] at hR
    exact hz _ _ h.le hR.symm
  rw [if_neg (by omega)] at hR
  obtain ⟨k, hk, ek⟩ := hone h0 h1
  have e1 : bk.2.getD 0 0 = (k : Int) := by rw [ek]; rfl
  have e2 : bk.2[0] = (k : Int) := by simp [ek]
  rw [e1, Int.toNat_natCast] at hR
  refine Wl.atInt h (i := 0) hpos fun _ => ?_
  rw [e2]
  have hs2 : s ^^^ 2 ^ k < 2 ^ n := Nat.xor_lt_two_pow hs (Nat.pow_lt_pow_right (by decide) hk)
  have hk2 : 2 ^ k < 2 ^ n := Nat.pow_lt_pow_right (by decide) hk
  refine Wi.shl1 (by omega) (Wi.xorN (by omega) (by omega) (Wl.getA h rfl ?_))
  generalize hss : s ^^^ 2 ^ k = s2 at *
  refine Wi.call (fn71 (h.rd (cs := [u1, u2])) hpb (by omega) (fun hD H l => ?_) fun hD H va2 f => ?_)
  · simp only [gw]
    rw [if_pos hD] at hR
    exact hz _ _ (h.to l).le hR.symm
  have h := h.add f
  simp only [gw]
  rw [if_neg hD] at hR
  refine Wl.getA h rfl (Wi.call (fn72 (h.rd (cs := [u1, u2])) hpb (by omega) (h.rd (cs := [vd])) hdl hdb (fun g => absurd g hD) fun _ H vb2 f => ?_))
  have h := h.add f
  simp only [gw]
  have lb2 := wayN_len n p d s2
  change Ab.Loc H0 (.data RS [vb2] (wayN n p d s2) :: .data RS [va2] (wayN n p p.2 s2) :: _) H at h
  have hkl : k < (wayN n p d s2).length := by omega
  have ekb : (wayN n p d s2).getD k 0 = (wayN n p d s2)[k] := by simp [hkl]
  refine Wl.atInt h (i := 0) hpos fun _ => ?_
  rw [e2]
  refine Wl.atInt h hkl fun _ => Wi.leqC (fun hle => Wi.tru ?_) fun hgt => Wi.fls ?_
  · rw [if_pos (by rw [ekb]; exact hle)] at hR
    exact hz _ _ h.le hR.symm
  rw [if_neg (by rw [ekb]; exact hgt)] at hR
  refine Wl.getA h rfl (Wi.call (fn69 fun H l => ?_))
  have h := h.to l
  rw [low_fr hbkl]
  simp only [gw]
  have i1 := i64_low hbkl
  refine Wl.pushPK (r := Rd.int) (x := (s2 : Int)) (i := 8) rfl rfl rfl (fun _ => ⟨rfl, rfl, by unfold I64; omega⟩) h (by omega) fun H1 H u' hk1 h => ?_
  change Ab.Loc H0 [.data RS [vb2] (wayN n p d s2), .data RS [va2] (wayN n p p.2 s2), .box bt (frC bk.1), .data RS [w] bk.2, .data RS [vb] (wayN n p d s), .data RS [va] (wayN n p p.2 s), .grow RFrac 34 v breaks, .box b9 (frC before), .grow Rd.int 2 u' (sets ++ [(s2 : Int)]), .box b [u1, u2], .lent RProblem [u1, u2] p, .lent RS [vd] d] H at h
  refine Wl.getA h rfl (Wi.chk (Wl.getA hk1 rfl ⟨rfl, rfl⟩) ?_)
  refine Wl.pushPK (r := RFrac) (x := bk.1) (i := 6) rfl rfl rfl (fun H => frac_rel i1 H) h (by omega) fun H2 H v' hk2 h => ?_
  change Ab.Loc H0 [.data RS [vb2] (wayN n p d s2), .data RS [va2] (wayN n p p.2 s2), .box bt (frC bk.1), .data RS [w] bk.2, .data RS [vb] (wayN n p d s), .data RS [va] (wayN n p p.2 s), .grow RFrac 34 v' (breaks ++ [bk.1]), .box b9 (frC before), .grow Rd.int 2 u' (sets ++ [(s2 : Int)]), .box b [u1, u2], .lent RProblem [u1, u2] p, .lent RS [vd] d] H at h
  refine Wl.getA h rfl (Wi.chk (Wl.getA hk2 rfl ⟨rfl, rfl⟩) (Wi.chk (Wl.getA hk1 rfl ⟨rfl, rfl⟩) (Wl.putA (b := b9) h rfl rfl rfl fun H h => Wi.flat rfl ?_)))
  refine hJ _ _ (by omega) ⟨s2, sets ++ [(s2 : Int)], breaks ++ [bk.1], bk.1, u', v', va2, vb2, rfl, by simp; omega, by simp; omega, hs2, hbkl, by rw [show 41 - (i + 1) = 40 - i by omega]; exact hR, (((h.cut 2).cut 2).cut 2).cut 2⟩

theorem fn24 {H0 : Heap} {Q : Post} {cs : List Value} {vd : Value} {p : Prob} {d : List Int} (hr : Has RProblem H0 cs p) (hd : Has RS H0 [vd] d) (_ : wProblem p ≤ 1048576) (_ : d.length ≤ 1048576)
    (hQ : ∀ H' u w, Fresh (RS.pair RFS) H0 [u, w] ((folRes p d).1, (folRes p d).2.1) H' → Q (.tuple #[u, w, .int .i64 (folRes p d).2.2]) H') : Runs Try.prog 24 #[.agg cs.toArray, vd] H0 Q := by
  obtain ⟨u1, u2, rfl, r1, r2⟩ := hasProb hr
  have hz : ∀ H c, H0.Le H → folRes p d = ([], [], c) → Q (.tuple #[.slice none 0 0, .slice none 0 0, .int .i64 c]) H := fun H c l e => by
    have := hQ H (.slice none 0 0) (.slice none 0 0) (by rw [e]; exact fresh_nil2 l)
    rw [e] at this
    exact this
  have h := (((Loc.start H0).lent r2).lent hd).lent hr
  refine f24.enter (Wl.box h fun H b h => Wl.getA h rfl ?_)
  obtain ⟨_, q⟩ := h.rd (cs := [u1, u2])
  refine Wi.call (fn34 q fun H l => ?_)
  have h := h.to l
  cases hp : isProb p with
  | false =>
    simp only [gw]
    exact hz _ _ h.le (by unfold folRes; rw [hp]; rfl)
  | true =>
  have hn := (PB.of hp).n5
  simp only [gw]
  refine Wi.fieldAddr (Wl.get h rfl (Wl.len h (Wi.call (fn35 (h.rd (cs := [vd])) hn fun H l => ?_))))
  have h := h.to l
  cases hdk : dirOk p.2.length d with
  | false =>
    simp only [gw]
    exact hz _ _ h.le (by unfold folRes; rw [hp, hdk]; rfl)
  | true =>
  simp only [gw]
  have e : folRes p d = wayR p.2.length p d := by unfold folRes; rw [hp, hdk]; rfl
  rw [e] at hQ
  refine Wl.getA h rfl (Wi.call (fn37 (h.rd (cs := [u1, u2])) (h.rd (cs := [vd])) hp hdk fun H u w f => ?_))
  simp only [gw]
  exact hQ _ _ _ ((h.add f).ret (i := 0) rfl)

/-- How many breakpoints do not lie behind a parameter. -/
def atF (breaks : List Frac) (t : Frac) : Nat := (breaks.takeWhile fun b => !fLt t b).length

theorem take_while {α : Type} {q : α → Bool} : ∀ {l : List α} {i : Nat}, (∀ j (h : j < l.length), j < i → q l[j] = true) → i ≤ l.length → (∀ h : i < l.length, q l[i] = false) → (l.takeWhile q).length = i
  | [], i, _, h, _ => by simp at h; simp [h]
  | x :: l, 0, _, _, h => by
    have := h (by simp)
    simp at this
    simp [List.takeWhile, this]
  | x :: l, i + 1, h1, h2, h3 => by
    have h0 := h1 0 (by simp) (by omega)
    simp at h0
    have := take_while (q := q) (l := l) (i := i) (fun j hj hji => by
      have := h1 (j + 1) (by simp; omega) (by omega)
      simpa using this) (by simp at h2; omega) (fun h => by
      have := h3 (by simp; omega)
      simpa using this)
    simp [List.takeWhile, h0, this]

def saRes (p : Prob) (d : List Int) (t : Frac) : Int × Int :=
  if isProb p = true then (if dirOk p.2.length d = true ∧ timeOk t = true then (if (wayR p.2.length p d).2.2 = 0 then ((wayR p.2.length p d).1.getD (atF (wayR p.2.length p d).2.1 t) 0, 0) else (0, (wayR p.2.length p d).2.2)) else (0, 2)) else (0, 1)

theorem timeMul {t b : Frac} (ht : (0 ≤ t.1 ∧ t.1 ≤ 1000) ∧ (1 ≤ t.2 ∧ t.2 ≤ 1000)) (hb : Low b) : (b.1 * t.2).natAbs ≤ 768000000 * 1000 ∧ (t.1 * b.2).natAbs ≤ 1000 * 768000000 :=
  ⟨mulA hb.2.1 (by omega), mulA (by omega) (by have := hb.1; omega)⟩

theorem fn11 {H0 : Heap} {Q : Post} {cs ct : List Value} {vd : Value} {p : Prob} {d : List Int} {t : Frac} (hr : Has RProblem H0 cs p) (hd : Has RS H0 [vd] d) (ht : Has RFrac H0 ct t) (_ : wProblem p ≤ 1048576) (_ : d.length ≤ 1048576)
    (hQ : ∀ H', H0.Le H' → Q (.tuple #[.int .i64 (saRes p d t).1, .int .i64 (saRes p d t).2]) H') : Runs Try.prog 11 #[.agg cs.toArray, vd, .agg ct.toArray] H0 Q := by
  obtain ⟨rfl, ht1, ht2⟩ := hasFrac ht
  obtain ⟨u1, u2, rfl, r1, r2⟩ := hasProb hr
  have hz : ∀ H a c, H0.Le H → saRes p d t = (a, c) → Q (.tuple #[.int .i64 a, .int .i64 c]) H := fun H a c l e => by
    have := hQ H l
    rw [e] at this
    exact this
  have h := (((Loc.start H0).lent r2).lent hd).lent hr
  refine f11.enter ?_
  unfold f11.w
  refine Wl.box h fun H b h => Wl.box h fun H bt h => Wl.getA h rfl ?_
  obtain ⟨_, q⟩ := h.rd (cs := [u1, u2])
  refine Wi.call (fn34 q fun H l => ?_)
  have h := h.to l
  cases hp : isProb p with
  | false =>
    simp only [gw]
    exact hz _ _ _ h.le (by unfold saRes; rw [hp]; rfl)
  | true =>
  have hpb := PB.of hp
  have hn := hpb.n5
  simp only [gw]
  refine Wi.fieldAddr (Wl.get h rfl (Wl.len h (Wi.call (fn35 (h.rd (cs := [vd])) hn fun H l => ?_))))
  have h := h.to l
  have two : ¬ (dirOk p.2.length d = true ∧ timeOk t = true) → saRes p d t = (0, 2) := fun g => by unfold saRes; rw [if_pos hp, if_neg g]
  cases hdk : dirOk p.2.length d with
  | false =>
    simp only [gw]
    exact hz _ _ _ h.le (two fun g => by rw [hdk] at g; cases g.1)
  | true =>
  simp only [gw]
  refine Wl.getA h rfl (Wi.call (fn36 fun H l => ?_))
  have h := h.to l
  cases htk : timeOk t with
  | false =>
    simp only [gw]
    exact hz _ _ _ h.le (two fun g => by rw [htk] at g; cases g.2)
  | true =>
  simp only [gw]
  obtain ⟨t1, t2, _⟩ := timeOk_iff htk
  have hok := wayR_ok (p := p) (n := p.2.length) hpb (dirOk_iff hdk).2
  have eR : saRes p d t = if (wayR p.2.length p d).2.2 = 0 then ((wayR p.2.length p d).1.getD (atF (wayR p.2.length p d).2.1 t) 0, 0) else (0, (wayR p.2.length p d).2.2) := by
    unfold saRes
    rw [if_pos hp, if_pos ⟨hdk, htk⟩]
  refine Wl.getA h rfl (Wi.call (fn37 (h.rd (cs := [u1, u2])) (h.rd (cs := [vd])) hp hdk fun H u w f => ?_))
  generalize wayR p.2.length p d = R at *
  have h := h.add2 (c1 := [u]) (c2 := [w]) rfl f
  simp only [gw]
  refine Wi.neqC (fun hne => Wi.tru ?_) fun he => Wi.fls ?_
  · exact hz _ _ _ h.le (by rw [eR, if_neg hne])
  rw [if_pos he] at eR
  have hl := hok.one he
  refine W.for_rule R.2.1.length (fun i st H => st = (.int .i64 (i : Nat), ()) ∧ (∀ j (hj : j < R.2.1.length), j < i → (!fLt t R.2.1[j]) = true) ∧ Ab.Loc H0 [.data RS [u] R.1, .data RFS [w] R.2.1, .box bt (frC t), .box b [u1, u2], .lent RProblem [u1, u2] p, .lent RS [vd] d, .lent RS [u2] p.2] H) ⟨rfl, fun j _ hj => by omega, h⟩ ?_
  rintro i st H J hi ⟨rfl, hq, h⟩ hJ
  have fin : ∀ H, (∀ hi : i < R.2.1.length, (!fLt t R.2.1[i]) = false) → Ab.Loc H0 [.data RS [u] R.1, .data RFS [w] R.2.1, .box bt (frC t), .box b [u1, u2], .lent RProblem [u1, u2] p, .lent RS [vd] d, .lent RS [u2] p.2] H → W.indexAddr 1 u (.int .i64 (i : Nat)) H fun p H => W.get p H fun v H => Q (.tuple #[v, .int .i64 0]) H := fun H g h => by
    refine Wl.atInt h (i := i) (by omega) fun _ => hz _ _ _ h.le ?_
    rw [eR]
    have : atF R.2.1 t = i := take_while hq hi g
    rw [this]
    simp [show i < R.1.length by omega]
  refine Wl.len h (Wi.lssC (fun hlt => ?_) fun hge => ?_)
  · have hil : i < R.2.1.length := by omega
    simp only [gw]
    have hb := hok.low _ (List.getElem_mem hil)
    have hm := timeMul ⟨t1, t2⟩ hb
    refine Wl.atFr h hil fun _ _ => Wl.getA h rfl (Wi.callQ (fn38 hm.1 hm.2 (by decide) fun H l => ⟨l, ?_⟩))
    have h := h.to l
    refine Wi.leqC (fun hle => ?_) fun hgt => ?_
    · rw [sgI_pos'] at hle
      simp only [gw]
      have hb2 := hok.breaks
      refine Wi.add (by unfold I64; omega) (hJ _ _ hil ⟨rfl, fun j hj hji => ?_, h⟩)
      by_cases e : j = i
      · subst e
        unfold fLt
        rw [decide_eq_false (by omega)]
        rfl
      · exact hq j hj (by omega)
    · rw [sgI_pos'] at hgt
      simp only [gw]
      refine fin _ (fun _ => ?_) h
      unfold fLt
      rw [decide_eq_true (by omega)]
      rfl
  · simp only [gw]
    exact fin _ (fun g => by omega) h

end Go.Proofs.Ytakbahndgmiobaa
