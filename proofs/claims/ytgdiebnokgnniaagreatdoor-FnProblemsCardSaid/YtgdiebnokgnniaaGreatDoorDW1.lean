/- Draws: problems with lists of fractions. No condition. -/
import Derived.Test.YtgdiebnokgnniaaGreatDoorGDS
import Derived.Test.YtgdiebnokgnniaaGreatDoorGVV
import Derived.Test.YtgdiebnokgnniaaGreatDoorZabTxt
namespace Go.Proofs.YtgdiebnokgnniaaGreatDoor
open Go.Ab

/- loop.example/g01343/spec.l01DrawZ -/
def f71.j1 (Q : Post) (i_15 : Value) (I3 : St [6, 15] → Heap → Prop) (out_6'' : Value) (H : Heap) : Prop :=
  W.bin .add i_15 (.int .i64 1) H fun v54 H =>
  I3 (out_6'', v54, ()) H
def f71.l3 (Q : Post) (v8 : Value) (good_13 : Value) (v22 : Value) (v25 : Value) (k_9 : Value) (I1 : St [6, 9] → Heap → Prop) (I3 : St [6, 15] → Heap → Prop) (out_6' : Value) (i_15 : Value) (H : Heap) : Prop :=
  W.bin .lss i_15 v8 H fun v43 H =>
  W.guarded v43 true (fun H k => k good_13 H) H fun v44 H =>
  W.pick v43 v44 (.bool false) H fun v45 H =>
  W.cond v45 H
  (fun H => W.conv .u64 i_15 H fun v46 H =>
   W.bin .shr v22 v46 H fun v47 H =>
   W.bin .and v47 (.int .i64 1) H fun v48 H =>
   W.bin .eql v48 (.int .i64 1) H fun v49 H =>
   W.cond v49 H
   (fun H => W.indexAddr 2 v25 i_15 H fun v50 H =>
    W.getN 2 v50 H fun v51 H =>
    W.lit 1 [(.int .i64 0), (.int .i64 0)] 38 [(0, 2, v51)] H fun v52 H =>
    W.append 2 38 out_6' v52 H fun v53 H =>
    f71.j1 Q i_15 I3 v53 H)
   (fun H => W.build [(.int .i64 0), (.int .i64 0)] [(0, 1, (.int .i64 0)), (1, 1, (.int .i64 1))] H fun v55 H =>
    W.lit 1 [(.int .i64 0), (.int .i64 0)] 38 [(0, 2, v55)] H fun v56 H =>
    W.append 2 38 out_6' v56 H fun v57 H =>
    f71.j1 Q i_15 I3 v57 H))
  (fun H => W.bin .add k_9 (.int .i64 1) H fun v58 H =>
   I1 (out_6', v58, ()) H)
def f71.l2 (Q : Post) (v25 : Value) (v8 : Value) (v22 : Value) (k_9 : Value) (out_6 : Value) (I1 : St [6, 9] → Heap → Prop) (I2 : St [13, 14] → Heap → Prop) (good_13 : Value) (i_14 : Value) (H : Heap) : Prop :=
  W.len v25 H fun v27 H =>
  W.bin .lss i_14 v27 H fun v28 H =>
  W.cond v28 H
  (fun H => W.guarded good_13 true (fun H k => k v25 H) H fun v29 H =>
   W.guarded good_13 true (fun H k => k i_14 H) H fun v30 H =>
   W.guarded good_13 true (fun H k => W.indexAddr 2 v29 v30 H k) H fun v31 H =>
   W.guarded good_13 true (fun H k => W.fieldAddr 0 v31 H k) H fun v32 H =>
   W.guarded good_13 true (fun H k => W.get v32 H k) H fun v33 H =>
   W.guarded good_13 true (fun H k => W.bin .geq v33 (.int .i64 0) H k) H fun v34 H =>
   W.pick good_13 v34 (.bool false) H fun v35 H =>
   W.guarded v35 true (fun H k => k v25 H) H fun v36 H =>
   W.guarded v35 true (fun H k => k i_14 H) H fun v37 H =>
   W.guarded v35 true (fun H k => W.indexAddr 2 v36 v37 H k) H fun v38 H =>
   W.guarded v35 true (fun H k => W.getN 2 v38 H k) H fun v39 H =>
   W.guarded v35 true (fun H k => W.call Tryz.prog (.func (.func 89) #[] #[]) #[v39, (.int .i64 1000000000)] H k) H fun v40 H =>
   W.pick v35 v40 (.bool false) H fun v41 H =>
   W.bin .add i_14 (.int .i64 1) H fun v42 H =>
   I2 (v41, v42, ()) H)
  (fun H => W.loop (S := St [6, 15]) (fun I3 s H => f71.l3 Q v8 good_13 v22 v25 k_9 I1 I3 s.1 s.2.1 H) (out_6, (.int .i64 0), ()) H)
def f71.j3 (Q : Post) (v4 : Value) (v2 : Value) (v1 : Value) (out_6''''' : Value) (H : Heap) : Prop :=
  W.getN 2 v4 H fun v84 H =>
  W.call Tryz.prog (.func (.func 62) #[] #[]) #[v2, v84] H fun v85 H =>
  W.putN 2 v1 v85 H fun _ H =>
  W.getN 2 v1 H fun v86 H => Q (.tuple #[v86, out_6''''']) H
def f71.j4 (Q : Post) (v4 : Value) (v2 : Value) (v1 : Value) (out_6'''''' : Value) (H : Heap) : Prop :=
  f71.j3 Q v4 v2 v1 out_6'''''' H
def f71.j2 (Q : Post) (v2 : Value) (v8 : Value) (v4 : Value) (v1 : Value) (out_6'''' : Value) (H : Heap) : Prop :=
  W.call Tryz.prog (.func (.func 60) #[] #[]) #[v2, (.int .i64 16)] H fun v79 H =>
  W.bin .eql v79 (.int .i64 0) H fun v80 H =>
  W.cond v80 H
  (fun H => W.call Tryz.prog (.func (.func 60) #[] #[]) #[v2, v8] H fun v81 H =>
   W.call Tryz.prog (.func (.func 114) #[] #[]) #[v2] H fun v82 H =>
   W.indexAddr 2 out_6'''' v81 H fun v83 H =>
   W.putN 2 v83 v82 H fun _ H =>
   f71.j3 Q v4 v2 v1 out_6'''' H)
  (fun H => W.bin .eql v79 (.int .i64 1) H fun v87 H =>
   W.cond v87 H
   (fun H => W.build [(.int .i64 0), (.int .i64 0)] [(0, 1, (.int .i64 0)), (1, 1, (.int .i64 1))] H fun v88 H =>
    W.lit 1 [(.int .i64 0), (.int .i64 0)] 38 [(0, 2, v88)] H fun v89 H =>
    W.append 2 38 out_6'''' v89 H fun v90 H =>
    f71.j4 Q v4 v2 v1 v90 H)
   (fun H => f71.j4 Q v4 v2 v1 out_6'''' H))
def f71.l4 (Q : Post) (v8 : Value) (v2 : Value) (v4 : Value) (v1 : Value) (I4 : St [6, 16] → Heap → Prop) (out_6''' : Value) (i_16 : Value) (H : Heap) : Prop :=
  W.bin .lss i_16 v8 H fun v66 H =>
  W.cond v66 H
  (fun H => W.lit 2 [(.int .i64 0)] 2 [(0, 1, (.int .i64 3)), (1, 1, (.int .i64 50))] H fun v67 H =>
   W.call Tryz.prog (.func (.func 61) #[] #[]) #[v2, v67] H fun v68 H =>
   W.call Tryz.prog (.func (.func 113) #[] #[]) #[v2, v68] H fun v69 H =>
   W.lit 2 [(.int .i64 0)] 2 [(0, 1, (.int .i64 0)), (1, 1, (.int .i64 1))] H fun v70 H =>
   W.call Tryz.prog (.func (.func 61) #[] #[]) #[v2, v70] H fun v71 H =>
   W.bin .mul v69 v71 H fun v72 H =>
   W.call Tryz.prog (.func (.func 60) #[] #[]) #[v2, (.int .i64 6)] H fun v73 H =>
   W.bin .add (.int .i64 1) v73 H fun v74 H =>
   W.call Tryz.prog (.func (.func 76) #[] #[]) #[v72, v74] H fun v75 H =>
   W.lit 1 [(.int .i64 0), (.int .i64 0)] 38 [(0, 2, v75)] H fun v76 H =>
   W.append 2 38 out_6''' v76 H fun v77 H =>
   W.bin .add i_16 (.int .i64 1) H fun v78 H =>
   I4 (v77, v78, ()) H)
  (fun H => f71.j2 Q v2 v8 v4 v1 out_6''' H)
def f71.l1 (Q : Post) (v8 : Value) (v11 : Value) (v4 : Value) (v2 : Value) (v1 : Value) (I1 : St [6, 9] → Heap → Prop) (out_6 : Value) (k_9 : Value) (H : Heap) : Prop :=
  W.conv .u64 v8 H fun v12 H =>
  W.bin .shl (.int .i64 1) v12 H fun v13 H =>
  W.bin .lss k_9 v13 H fun v14 H =>
  W.guarded v14 true (fun H k => k out_6 H) H fun v15 H =>
  W.guarded v14 true (fun H k => W.len v15 H k) H fun v16 H =>
  W.guarded v14 true (fun H k => W.bin .eql v16 (.int .i64 0) H k) H fun v17 H =>
  W.pick v14 v17 (.bool false) H fun v18 H =>
  W.cond v18 H
  (fun H => W.bin .add v11 k_9 H fun v19 H =>
   W.conv .u64 v8 H fun v20 H =>
   W.bin .shl (.int .i64 1) v20 H fun v21 H =>
   W.bin .rem v19 v21 H fun v22 H =>
   W.getN 2 v4 H fun v23 H =>
   W.call Tryz.prog (.func (.func 39) #[] #[]) #[v23, v22] H fun v24 H =>
   W.extract 0 v24 H fun v25 H =>
   W.extract 1 v24 H fun v26 H =>
   W.loop (S := St [13, 14]) (fun I2 s H => f71.l2 Q v25 v8 v22 k_9 out_6 I1 I2 s.1 s.2.1 H) (v26, (.int .i64 0), ()) H)
  (fun H => W.len out_6 H fun v59 H =>
   W.bin .eql v59 (.int .i64 0) H fun v60 H =>
   W.guarded v60 false (fun H k => k v2 H) H fun v61 H =>
   W.guarded v60 false (fun H k => W.call Tryz.prog (.func (.func 60) #[] #[]) #[v61, (.int .i64 4)] H k) H fun v62 H =>
   W.guarded v60 false (fun H k => W.bin .eql v62 (.int .i64 0) H k) H fun v63 H =>
   W.pick v60 (.bool true) v63 H fun v64 H =>
   W.cond v64 H
   (fun H => W.lit 0 [(.int .i64 0), (.int .i64 0)] 38 [] H fun v65 H =>
    W.loop (S := St [6, 16]) (fun I4 s H => f71.l4 Q v8 v2 v4 v1 I4 s.1 s.2.1 H) (v65, (.int .i64 0), ()) H)
   (fun H => f71.j2 Q v2 v8 v4 v1 out_6 H))
def f71.w (Q : Post) (code_0 : Value) (H : Heap) : Prop :=
  W.new [(.slice none 0 0), (.slice none 0 0)] 27 H fun v1 H =>
  W.call Tryz.prog (.func (.func 57) #[] #[]) #[code_0] H fun v2 H =>
  W.call Tryz.prog (.func (.func 58) #[] #[]) #[v2] H fun v3 H =>
  W.new [(.slice none 0 0), (.slice none 0 0)] 27 H fun v4 H =>
  W.putN 2 v4 v3 H fun _ H =>
  W.lit 0 [(.int .i64 0), (.int .i64 0)] 38 [] H fun v5 H =>
  W.fieldAddr 1 v4 H fun v6 H =>
  W.get v6 H fun v7 H =>
  W.len v7 H fun v8 H =>
  W.conv .u64 v8 H fun v9 H =>
  W.bin .shl (.int .i64 1) v9 H fun v10 H =>
  W.call Tryz.prog (.func (.func 60) #[] #[]) #[v2, v10] H fun v11 H =>
  W.loop (S := St [6, 9]) (fun I1 s H => f71.l1 Q v8 v11 v4 v2 v1 I1 s.1 s.2.1 H) (v5, (.int .i64 0), ()) H
theorem f71.enter {Q : Post} {code_0 : Value} {H : Heap} (h : f71.w Q code_0 H) : Runs Tryz.prog 71 #[code_0] H Q :=
  fn_enter (ann := [(6, [6, 9]), (12, [13, 14]), (16, [6, 15]), (24, [6, 16])]) (by kernel_rfl) Tryz.func71 rfl (by kernel_rfl) h (by kernel_rfl)

/- loop.example/g01343/spec.DrawRemainderOf -/
def f24.w (Q : Post) (code_0 : Value) (H : Heap) : Prop :=
  W.new [(.slice none 0 0), (.slice none 0 0)] 27 H fun v1 H =>
  W.call Tryz.prog (.func (.func 71) #[] #[]) #[code_0] H fun v2 H =>
  W.extract 0 v2 H fun v3 H =>
  W.extract 1 v2 H fun v4 H =>
  W.new [(.slice none 0 0), (.slice none 0 0)] 27 H fun v5 H =>
  W.putN 2 v5 v3 H fun _ H =>
  W.getN 2 v5 H fun v6 H =>
  W.putN 2 v1 v6 H fun _ H =>
  W.getN 2 v1 H fun v7 H => Q (.tuple #[v7, v4]) H
theorem f24.enter {Q : Post} {code_0 : Value} {H : Heap} (h : f24.w Q code_0 H) : Runs Tryz.prog 24 #[code_0] H Q :=
  fn_enter (ann := []) (by kernel_rfl) Tryz.func24 rfl (by kernel_rfl) h (by kernel_rfl)

/- loop.example/g01343/spec.DrawIsSolution -/
def f26.w (Q : Post) (code_0 : Value) (H : Heap) : Prop :=
  W.new [(.slice none 0 0), (.slice none 0 0)] 27 H fun v1 H =>
  W.call Tryz.prog (.func (.func 71) #[] #[]) #[code_0] H fun v2 H =>
  W.extract 0 v2 H fun v3 H =>
  W.extract 1 v2 H fun v4 H =>
  W.new [(.slice none 0 0), (.slice none 0 0)] 27 H fun v5 H =>
  W.putN 2 v5 v3 H fun _ H =>
  W.getN 2 v5 H fun v6 H =>
  W.putN 2 v1 v6 H fun _ H =>
  W.getN 2 v1 H fun v7 H => Q (.tuple #[v7, v4]) H
theorem f26.enter {Q : Post} {code_0 : Value} {H : Heap} (h : f26.w Q code_0 H) : Runs Tryz.prog 26 #[code_0] H Q :=
  fn_enter (ann := []) (by kernel_rfl) Tryz.func26 rfl (by kernel_rfl) h (by kernel_rfl)


section
variable {H0 : Heap} {Q : Post} {vc : Value} {code : List Int}

/-- What the draw holds beside its list. -/
abbrev zRest {N : Nat} (b4 b b1 : Nat) (u1 u2 vc : Value) (p : Prob) (code : List Int) : List (Atom N) := [.box b4 [u1, u2], .data RProblem [u1, u2] p, .src b vc code, .box b1 [.slice none 0 0, .slice none 0 0]]

theorem drawZ_j3 {H : Heap} {b4 b b1 n : Nat} {u1 u2 v : Value} {p : Prob} {z : List Frac} (hn : 1 ≤ n ∧ n ≤ 5) (hp : IsN n p)
    (hQ : ∀ H' u1 u2 w p z, Fresh (RProblem.pair RFS) H0 [u1, u2, w] (p, z) H' → SmallP p → z.length ≤ 6 → Q (.tuple #[.agg #[u1, u2], w]) H')
    (h : Ab.Loc H0 (.data RFS [v] z :: zRest b4 b b1 u1 u2 vc p code) H) (hz : z.length ≤ 6) : f71.j3 Q (pt b4 0) (pt b 0) (pt b1 0) v H := by
  unfold f71.j3
  refine Wl.getA (b := b4) h rfl ?_
  have h := h.front 2 rfl
  have h : Ab.Loc H0 [.data RProblem [u1, u2] p, .data RFS [v] z, .box b4 [u1, u2], .src b vc code, .box b1 [.slice none 0 0, .slice none 0 0]] H := h
  refine Wi.call (fn62 (i := 2) h rfl hn hp fun H w1 w2 p2 h hp2 => ?_)
  have kc := (h.rd (cs := [w1, w2]) (r := RProblem)).cell
  refine Wl.putA (b := b1) (i := 4) h rfl rfl kc fun H h => Wl.getA (b := b1) h rfl ?_
  exact hQ _ w1 w2 v p2 z (Loc.ret2 h (c1 := [w1, w2]) (c2 := [v]) (i := 0) (j := 1) rfl rfl (by decide)) hp2 hz

theorem drawZ_j2 {H : Heap} {b4 b b1 n : Nat} {u1 u2 v : Value} {p : Prob} {z : List Frac} (hn : 1 ≤ n ∧ n ≤ 5) (hp : IsN n p)
    (hQ : ∀ H' u1 u2 w p z, Fresh (RProblem.pair RFS) H0 [u1, u2, w] (p, z) H' → SmallP p → z.length ≤ 6 → Q (.tuple #[.agg #[u1, u2], w]) H')
    (h : Ab.Loc H0 (.grow RFrac 38 v z :: zRest b4 b b1 u1 u2 vc p code) H) (hz : z.length = n) : f71.j2 Q (pt b 0) (.int .i64 (n : Nat)) (pt b4 0) (pt b1 0) v H := by
  unfold f71.j2
  refine Wi.call (fn60 (i := 3) h rfl fun H x h hx _ => Wi.eqlC (fun _ => Wi.tru ?_) fun _ => Wi.fls (Wi.eqlC (fun _ => Wi.tru ?_) fun _ => Wi.fls ?_))
  · refine Wi.call (fn60 (i := 3) h rfl fun H y h hy hy2 => ?_)
    have hy2 := hy2 (by omega)
    obtain ⟨k, rfl⟩ : ∃ k : Nat, y = (k : Int) := ⟨y.toNat, by omega⟩
    refine Wi.call (fn114 (i := 3) h rfl fun H a h ha => ?_)
    have h := h.asData (i := 0) rfl
    have h : Ab.Loc H0 (.data RFS [v] z :: zRest b4 b b1 u1 u2 vc p code) H := h
    refine Wl.setP (r := RFrac) (v := v) (xs := z) (i := k) (j := 0) (y := a) (cs := frC a) rfl h (by omega) (frac_rel ha) fun H h => ?_
    exact drawZ_j3 hn hp hQ h (by rw [List.length_set]; omega)
  · refine Wi.build (cells := frC (0, 1)) rfl ?_
    refine Wl.pushP (r := RFrac) (x := ((0, 1) : Frac)) (i := 0) rfl rfl rfl (frac_rel (by unfold I64; decide)) h (by omega) fun H v' h => ?_
    have h : Ab.Loc H0 (.grow RFrac 38 v' (z ++ [(0, 1)]) :: zRest b4 b b1 u1 u2 vc p code) H := h
    have h := h.asData (i := 0) rfl
    unfold f71.j4
    exact drawZ_j3 hn hp hQ h (by simp; omega)
  · have h := h.asData (i := 0) rfl
    unfold f71.j4
    exact drawZ_j3 hn hp hQ h (by omega)

theorem fn71 (hc : Has RBytes H0 [vc] code) (hQ : ∀ H' u1 u2 w p z, Fresh (RProblem.pair RFS) H0 [u1, u2, w] (p, z) H' → SmallP p → z.length ≤ 6 → Q (.tuple #[.agg #[u1, u2], w]) H') : Runs Tryz.prog 71 #[vc] H0 Q := by
  refine f71.enter ?_
  unfold f71.w
  refine Wl.new (Loc.start H0) fun H b1 h => Wi.call (fn57 hc h fun H b h => Wi.call (fnB58 (i := 0) h rfl fun H u1 u2 p n h hn hp hb => ?_))
  have hpb := hp.pb hb hn
  have kc := (h.rd (cs := [u1, u2]) (r := RProblem)).cell
  refine Wl.new h fun H b4 h => Wl.putA h rfl rfl kc fun H h => Wl.lit0 RFrac (ty := 38) rfl h fun H v h => ?_
  have h : Ab.Loc H0 (.grow RFrac 38 v [] :: zRest b4 b b1 u1 u2 vc p code) H := h
  have h5 := pow5' hn.2
  have h1 : 1 ≤ 2 ^ n := Nat.one_le_two_pow
  have hq := hp.2.2
  refine Wi.fieldAddr (Wl.get (b := b4) (o := 1) h rfl (Wl.lenH (prob_q (h.rd (cs := [u1, u2]))) ?_))
  rw [hq]
  have e2 : ((2 ^ n : Nat) : Int) = ((2 ^ n : Nat) : Int) := rfl
  refine Wi.convN (by omega) (Wi.shl1 (by omega) (Wi.call (fn60 (n := ((2 ^ n : Nat) : Int)) (i := 3) h rfl fun H y h hy hy2 => ?_)))
  have hy2 := hy2 (by omega)
  obtain ⟨f, rfl⟩ : ∃ f : Nat, y = (f : Int) := ⟨y.toNat, by omega⟩
  refine W.for_rule (2 ^ n) (fun k st H => ∃ v z, st = (v, .int .i64 (k : Nat), ()) ∧ (z.length = 0 ∨ z.length = n) ∧ Ab.Loc H0 (.grow RFrac 38 v z :: zRest b4 b b1 u1 u2 vc p code) H) ⟨v, [], rfl, .inl rfl, h⟩ ?_
  rintro k st H J hk ⟨v, z, rfl, hz, h⟩ hJ
  have last : W.len v H fun v59 H => W.bin .eql v59 (.int .i64 0) H fun v60 H => W.guarded v60 false (fun H k => k (pt b 0) H) H fun v61 H => W.guarded v60 false (fun H k => W.call Tryz.prog (.func (.func 60) #[] #[]) #[v61, (.int .i64 4)] H k) H fun v62 H =>
      W.guarded v60 false (fun H k => W.bin .eql v62 (.int .i64 0) H k) H fun v63 H => W.pick v60 (.bool true) v63 H fun v64 H => W.cond v64 H
      (fun H => W.lit 0 [(.int .i64 0), (.int .i64 0)] 38 [] H fun v65 H => W.loop (S := St [6, 16]) (fun I4 s H => f71.l4 Q (.int .i64 (n : Nat)) (pt b 0) (pt b4 0) (pt b1 0) I4 s.1 s.2.1 H) (v65, (.int .i64 0), ()) H)
      (fun H => f71.j2 Q (pt b 0) (.int .i64 (n : Nat)) (pt b4 0) (pt b1 0) v H) := by
    have again : ∀ H, Ab.Loc H0 (.grow RFrac 38 v z :: zRest b4 b b1 u1 u2 vc p code) H → W.lit 0 [(.int .i64 0), (.int .i64 0)] 38 [] H fun v65 H => W.loop (S := St [6, 16]) (fun I4 s H => f71.l4 Q (.int .i64 (n : Nat)) (pt b 0) (pt b4 0) (pt b1 0) I4 s.1 s.2.1 H) (v65, (.int .i64 0), ()) H := fun H h => by
      refine Wl.lit0 RFrac (ty := 38) rfl h.tl fun H v2 h => ?_
      refine W.for_rule n (fun x st H => ∃ v z, st = (v, .int .i64 (x : Nat), ()) ∧ z.length = x ∧ Ab.Loc H0 (.grow RFrac 38 v z :: zRest b4 b b1 u1 u2 vc p code) H) ⟨v2, [], rfl, rfl, h⟩ ?_
      rintro x st H J hx ⟨v, z, rfl, hz, h⟩ hJ
      refine Wi.lssC (fun hlt => Wi.tru ?_) fun hge => Wi.fls (drawZ_j2 hn hp hQ h (by omega))
      refine Wl.litN [3, 50] rfl (by decide) (by simp [I64]) rfl h fun H vl h => Wi.call (fn61 (i := 4) h rfl (fun H h => h.rd (cs := [vl])) (by decide) fun H t h ht => ?_)
      have ht : 0 ≤ t ∧ t ≤ 100 := by simp at ht; omega
      have h := h.tl
      refine Wi.call (fn113 (i := 3) h rfl ht fun H q h hq => ?_)
      refine Wl.litN [0, 1] rfl (by decide) (by simp [I64]) rfl h fun H vl h => Wi.call (fn61 (i := 4) h rfl (fun H h => h.rd (cs := [vl])) (by decide) fun H c h hcc => ?_)
      have h := h.tl
      have hqc : (q * c).natAbs ≤ 100 := by
        simp at hcc
        rcases hcc with rfl | rfl
        · simp
        · omega
      refine Wi.mul (by unfold I64; omega) (Wi.call (fn60 (i := 3) h rfl fun H w h hw hw2 => ?_))
      have hw2 := hw2 (by decide)
      have hb1 : B64 (q * c) := by unfold B64; omega
      have hb2 : B64 (1 + w) := by unfold B64; omega
      refine Wi.add (by unfold I64; omega) (Wi.call (fn76 hb1 hb2 (by omega) fun H l => ?_))
      have h := h.to l
      refine Wl.pushP (r := RFrac) (x := frac (q * c) (1 + w)) (i := 0) rfl rfl rfl (frac_rel (frac_i64 hb1 hb2 (by omega))) h (by omega) fun H v' h => ?_
      have h : Ab.Loc H0 (.grow RFrac 38 v' (z ++ [frac (q * c) (1 + w)]) :: zRest b4 b b1 u1 u2 vc p code) H := h
      exact Wi.add (by unfold I64; omega) (hJ _ _ (by omega) ⟨v', _, rfl, by simp; omega, h⟩)
    have hd : Has RFS H [v] z := (h.asData (i := 0) rfl).rd (cs := [v])
    refine Wl.lenH hd (Wi.eqlC (fun _ => ?_) fun hne => ?_)
    · simp only [gw]
      exact again _ h
    · simp only [gw]
      refine Wi.call (fn60 (i := 3) h rfl fun H y h hy hy2 => Wi.eqlC (fun _ => ?_) fun _ => ?_)
      · simp only [gw]
        exact again _ h
      · simp only [gw]
        exact drawZ_j2 hn hp hQ h (by omega)
  refine Wi.convN (by omega) (Wi.shl1 (by omega) (Wi.lssC (fun hlt => ?_) fun hge => ?_))
  · simp only [gw]
    have hd : Has RFS H [v] z := (h.asData (i := 0) rfl).rd (cs := [v])
    refine Wl.lenH hd (Wi.eqlC (fun hz0 => ?_) fun hne => ?_)
    · simp only [gw]
      have hz0 : z = [] := List.length_eq_zero_iff.1 (by omega)
      subst hz0
      have hklt : k < 2 ^ n := by omega
      have hm : (f + k) % 2 ^ n < 2 ^ n := Nat.mod_lt _ (by omega)
      refine Wi.add (by unfold I64; omega) (Wi.convN (by omega) (Wi.shl1 (by omega) ?_))
      rw [show ((f : Nat) : Int) + (k : Nat) = ((f + k : Nat) : Int) by omega]
      refine Wi.remN (by omega) ?_
      generalize (f + k) % 2 ^ n = s at *
      refine Wl.getA (b := b4) h rfl ?_
      have next : ∀ H v z, (z.length = 0 ∨ z.length = n) → Ab.Loc H0 (.grow RFrac 38 v z :: zRest b4 b b1 u1 u2 vc p code) H → W.bin .add (.int .i64 (k : Nat)) (.int .i64 1) H fun v58 H => J (v, v58, ()) H := fun H v z hz h =>
        Wi.add (by unfold I64; omega) (hJ _ _ hklt ⟨v, z, rfl, hz, h⟩)
      have body : ∀ H vp F g, Ab.Loc H0 (.data RFS [vp] F :: .grow RFrac 38 v [] :: zRest b4 b b1 u1 u2 vc p code) H → (g = true → F.length = n) → F.length ≤ n →
          W.loop (S := St [13, 14]) (fun I2 s2 H => f71.l2 Q vp (.int .i64 (n : Nat)) (.int .i64 (s : Nat)) (.int .i64 (k : Nat)) v J I2 s2.1 s2.2.1 H) (.bool g, .int .i64 0, ()) H := fun H vp F g h hF hF5 => by
        refine W.for_rule F.length (fun x st H => ∃ g, st = (.bool g, .int .i64 (x : Nat), ()) ∧ (g = true → F.length = n) ∧ Ab.Loc H0 (.data RFS [vp] F :: .grow RFrac 38 v [] :: zRest b4 b b1 u1 u2 vc p code) H) ⟨g, rfl, hF, h⟩ ?_
        rintro x st H J2 hx ⟨g, rfl, hF, h⟩ hJ2
        refine Wl.len (v := vp) (xs := F) h (Wi.lssC (fun hlt2 => Wi.tru ?_) fun hge2 => Wi.fls ?_)
        · have hxF : x < F.length := by omega
          have fin : ∀ H g2, (g2 = true → F.length = n) → Ab.Loc H0 (.data RFS [vp] F :: .grow RFrac 38 v [] :: zRest b4 b b1 u1 u2 vc p code) H → W.bin .add (.int .i64 (x : Nat)) (.int .i64 1) H fun v42 H => J2 (.bool g2, v42, ()) H := fun H g2 hg2 h =>
            Wi.add (by unfold I64; omega) (hJ2 _ _ hxF ⟨g2, rfl, hg2, h⟩)
          cases g with
          | false =>
            simp only [gw]
            exact fin _ false (fun e => by cases e) h
          | true =>
            simp only [gw]
            refine Wl.numFr (v := vp) (xs := F) (i := x) h hxF fun _ => Wi.geqC (fun _ => ?_) fun _ => ?_
            · simp only [gw]
              refine Wl.atFr (v := vp) (xs := F) (i := x) h hxF fun _ _ => Wi.call (fn89 fun H l => ?_)
              exact fin _ _ (fun _ => hF rfl) (h.to l)
            · simp only [gw]
              exact fin _ false (fun e => by cases e) h
        · refine W.for_rule n (fun x st H => ∃ v z, st = (v, .int .i64 (x : Nat), ()) ∧ z.length = x ∧ (g = false → x = 0) ∧ Ab.Loc H0 (.data RFS [vp] F :: .grow RFrac 38 v z :: zRest b4 b b1 u1 u2 vc p code) H) ⟨v, [], rfl, rfl, (fun _ => rfl), h⟩ ?_
          rintro x st H J3 hx3 ⟨v, z, rfl, hz, hg, h⟩ hJ3
          refine Wi.lssC (fun hlt3 => ?_) fun hge3 => ?_
          · simp only [gw]
            cases g with
            | false =>
              simp only [gw]
              exact next _ v z (.inl (by rw [hz]; exact hg rfl)) (h.cut 0)
            | true =>
              simp only [gw]
              have hxF : x < F.length := by have := hF rfl; omega
              have hxn : x < n := by omega
              refine Wi.convN (by omega) (Wi.shrN (by omega) (by omega) (Wi.and1 (Wi.eqlC (fun _ => Wi.tru ?_) fun _ => Wi.fls ?_)))
              · refine Wl.atFr (v := vp) (xs := F) (i := x) h hxF fun a1 a2 => ?_
                refine Wl.pushP (r := RFrac) (x := F[x]) (i := 1) rfl rfl rfl (frac_rel ⟨a1, a2⟩) h (by omega) fun H v' h => ?_
                unfold f71.j1
                have h : Ab.Loc H0 (.data RFS [vp] F :: .grow RFrac 38 v' (z ++ [F[x]]) :: zRest b4 b b1 u1 u2 vc p code) H := h
                exact Wi.add (by unfold I64; omega) (hJ3 _ _ hxn ⟨v', _, rfl, by simp; omega, (fun e => by cases e), h⟩)
              · refine Wi.build (cells := frC (0, 1)) rfl ?_
                refine Wl.pushP (r := RFrac) (x := ((0, 1) : Frac)) (i := 1) rfl rfl rfl (frac_rel (by unfold I64; decide)) h (by omega) fun H v' h => ?_
                unfold f71.j1
                have h : Ab.Loc H0 (.data RFS [vp] F :: .grow RFrac 38 v' (z ++ [(0, 1)]) :: zRest b4 b b1 u1 u2 vc p code) H := h
                exact Wi.add (by unfold I64; omega) (hJ3 _ _ hxn ⟨v', _, rfl, by simp; omega, (fun e => by cases e), h⟩)
          · simp only [gw]
            exact next _ v z (.inr (by omega)) (h.cut 0)
      refine Wi.call (fn39 (h.rd (cs := [u1, u2])) hpb (by omega) (fun hD H l => ?_) fun hD H u g => ?_)
      · simp only [gw]
        have h := h.to l
        exact body _ _ [] false (h.add (fresh_nil (r := RFrac) (.refl _))) (fun e => by cases e) (by simp)
      · simp only [gw]
        have h := h.add g
        have hl : (pointF n (colL n p.1 s) p.2).length = n := by simp [pointF, solveL]
        exact body _ _ _ true h (fun _ => hl) (by omega)
    · simp only [gw]
      exact last
  · simp only [gw]
    exact last

theorem fn24 (hc : Has RBytes H0 [vc] code) (hQ : ∀ H' u1 u2 w p z, Fresh (RProblem.pair RFS) H0 [u1, u2, w] (p, z) H' → SmallP p → z.length ≤ 6 → Q (.tuple #[.agg #[u1, u2], w]) H') : Runs Tryz.prog 24 #[vc] H0 Q := by
  refine f24.enter ?_
  unfold f24.w
  refine Wl.new (Loc.start H0) fun H b1 h => Wi.call (fn71 (hc.le h.le) fun H u1 u2 w p z f hp hz => ?_)
  have h := h.add2 (c1 := [u1, u2]) (c2 := [w]) rfl f
  have kc := (h.rd (cs := [u1, u2]) (r := RProblem)).cell
  simp only [gw]
  refine Wl.new h fun H b5 h => Wl.putA h rfl rfl kc fun H h => Wl.getA (b := b5) h rfl (Wl.putA (b := b1) (i := 3) h rfl rfl kc fun H h => Wl.getA (b := b1) h rfl ?_)
  exact hQ _ u1 u2 w p z (Loc.ret2 h (c1 := [u1, u2]) (c2 := [w]) (i := 1) (j := 2) rfl rfl (by decide)) hp hz

theorem fn26 (hc : Has RBytes H0 [vc] code) (hQ : ∀ H' u1 u2 w p z, Fresh (RProblem.pair RFS) H0 [u1, u2, w] (p, z) H' → SmallP p → z.length ≤ 6 → Q (.tuple #[.agg #[u1, u2], w]) H') : Runs Tryz.prog 26 #[vc] H0 Q := by
  refine f26.enter ?_
  unfold f26.w
  refine Wl.new (Loc.start H0) fun H b1 h => Wi.call (fn71 (hc.le h.le) fun H u1 u2 w p z f hp hz => ?_)
  have h := h.add2 (c1 := [u1, u2]) (c2 := [w]) rfl f
  have kc := (h.rd (cs := [u1, u2]) (r := RProblem)).cell
  simp only [gw]
  refine Wl.new h fun H b5 h => Wl.putA h rfl rfl kc fun H h => Wl.getA (b := b5) h rfl (Wl.putA (b := b1) (i := 3) h rfl rfl kc fun H h => Wl.getA (b := b1) h rfl ?_)
  exact hQ _ u1 u2 w p z (Loc.ret2 h (c1 := [u1, u2]) (c2 := [w]) (i := 1) (j := 2) rfl rfl (by decide)) hp hz

end
end Go.Proofs.YtgdiebnokgnniaaGreatDoor
