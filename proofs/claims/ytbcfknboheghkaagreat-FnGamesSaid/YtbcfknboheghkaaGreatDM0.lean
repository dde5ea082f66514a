/- Draws: mixes, games with mixes. No condition. -/
import Derived.Test.YtbcfknboheghkaaGreatGDR
import Derived.Test.YtbcfknboheghkaaGreatDRF
import Derived.Test.YtbcfknboheghkaaGreatEB2
import Derived.Test.YtbcfknboheghkaaGreatGE0
namespace Go.Proofs.YtbcfknboheghkaaGreat
open Go.Ab

/- loop.example/g01343/spec.l07DrawMix -/
def f104.j2 (Q : Post) (out_9' : Value) (H : Heap) : Prop :=
  Q out_9' H
def f104.j3 (Q : Post) (out_9'' : Value) (H : Heap) : Prop :=
  f104.j2 Q out_9'' H
def f104.j4 (Q : Post) (out_9 : Value) (H : Heap) : Prop :=
  f104.j3 Q out_9 H
def f104.l2 (Q : Post) (n_1 : Value) (list_5 : Value) (den_6' : Value) (s_0 : Value) (I2 : St [9, 10] → Heap → Prop) (out_9 : Value) (i_10 : Value) (H : Heap) : Prop :=
  W.bin .lss i_10 n_1 H fun v19 H =>
  W.cond v19 H
  (fun H => W.indexAddr 1 list_5 i_10 H fun v20 H =>
   W.get v20 H fun v21 H =>
   W.call Tryz.prog (.func (.func 102) #[] #[]) #[v21, den_6'] H fun v22 H =>
   W.lit 1 [(.int .i64 0), (.int .i64 0)] 39 [(0, 2, v22)] H fun v23 H =>
   W.append 2 39 out_9 v23 H fun v24 H =>
   W.bin .add i_10 (.int .i64 1) H fun v25 H =>
   I2 (v24, v25, ()) H)
  (fun H => W.call Tryz.prog (.func (.func 103) #[] #[]) #[s_0, (.int .i64 24)] H fun v26 H =>
   W.bin .eql v26 (.int .i64 0) H fun v27 H =>
   W.cond v27 H
   (fun H => W.call Tryz.prog (.func (.func 137) #[] #[]) #[s_0] H fun v28 H =>
    W.indexAddr 2 out_9 (.int .i64 0) H fun v29 H =>
    W.putN 2 v29 v28 H fun _ H =>
    f104.j2 Q out_9 H)
   (fun H => W.bin .eql v26 (.int .i64 1) H fun v30 H =>
    W.cond v30 H
    (fun H => W.build [(.int .i64 0), (.int .i64 0)] [(0, 1, (.int .i64 0)), (1, 1, (.int .i64 1))] H fun v31 H =>
     W.lit 1 [(.int .i64 0), (.int .i64 0)] 39 [(0, 2, v31)] H fun v32 H =>
     W.append 2 39 out_9 v32 H fun v33 H =>
     f104.j3 Q v33 H)
    (fun H => W.bin .eql v26 (.int .i64 2) H fun v34 H =>
     W.cond v34 H
     (fun H => W.bin .eql n_1 (.int .i64 2) H fun v35 H =>
      W.cond v35 H
      (fun H => W.build [(.int .i64 0), (.int .i64 0)] [(0, 1, (.int .i64 1)), (1, 1, (.int .i64 999999937))] H fun v36 H =>
       W.build [(.int .i64 0), (.int .i64 0)] [(0, 1, (.int .i64 1)), (1, 1, (.int .i64 1000000000))] H fun v37 H =>
       W.lit 2 [(.int .i64 0), (.int .i64 0)] 39 [(0, 2, v36), (2, 2, v37)] H fun v38 H =>
       Q v38 H)
      (fun H => f104.j4 Q out_9 H))
     (fun H => f104.j4 Q out_9 H))))
def f104.j1 (Q : Post) (n_1 : Value) (list_5 : Value) (s_0 : Value) (den_6' : Value) (H : Heap) : Prop :=
  W.lit 0 [(.int .i64 0), (.int .i64 0)] 39 [] H fun v18 H =>
  W.loop (S := St [9, 10]) (fun I2 s H => f104.l2 Q n_1 list_5 den_6' s_0 I2 s.1 s.2.1 H) (v18, (.int .i64 0), ()) H
def f104.l1 (Q : Post) (n_1 : Value) (v3 : Value) (s_0 : Value) (I1 : St [5, 6, 8] → Heap → Prop) (list_5 : Value) (den_6 : Value) (i_8 : Value) (H : Heap) : Prop :=
  W.bin .lss i_8 n_1 H fun v4 H =>
  W.cond v4 H
  (fun H => W.bin .add v3 (.int .i64 1) H fun v5 H =>
   W.call Tryz.prog (.func (.func 103) #[] #[]) #[s_0, v5] H fun v6 H =>
   W.lit 3 [(.int .i64 0)] 2 [(0, 1, (.int .i64 0)), (1, 1, (.int .i64 1)), (2, 1, (.int .i64 1))] H fun v7 H =>
   W.call Tryz.prog (.func (.func 105) #[] #[]) #[s_0, v7] H fun v8 H =>
   W.bin .mul v6 v8 H fun v9 H =>
   W.lit 1 [(.int .i64 0)] 2 [(0, 1, v9)] H fun v10 H =>
   W.append 1 2 list_5 v10 H fun v11 H =>
   W.indexAddr 1 v11 i_8 H fun v12 H =>
   W.get v12 H fun v13 H =>
   W.bin .add den_6 v13 H fun v14 H =>
   W.bin .add i_8 (.int .i64 1) H fun v15 H =>
   I1 (v11, v14, v15, ()) H)
  (fun H => W.bin .eql den_6 (.int .i64 0) H fun v16 H =>
   W.cond v16 H
   (fun H => W.indexAddr 1 list_5 (.int .i64 0) H fun v17 H =>
    W.put v17 (.int .i64 1) H fun _ H =>
    f104.j1 Q n_1 list_5 s_0 (.int .i64 1) H)
   (fun H => f104.j1 Q n_1 list_5 s_0 den_6 H))
def f104.w (Q : Post) (s_0 : Value) (n_1 : Value) (H : Heap) : Prop :=
  W.lit 0 [(.int .i64 0)] 2 [] H fun v1 H =>
  W.lit 5 [(.int .i64 0)] 2 [(0, 1, (.int .i64 1)), (1, 1, (.int .i64 2)), (2, 1, (.int .i64 5)), (3, 1, (.int .i64 1000)), (4, 1, (.int .i64 1000000))] H fun v2 H =>
  W.call Tryz.prog (.func (.func 105) #[] #[]) #[s_0, v2] H fun v3 H =>
  W.loop (S := St [5, 6, 8]) (fun I1 s H => f104.l1 Q n_1 v3 s_0 I1 s.1 s.2.1 s.2.2.1 H) (v1, (.int .i64 0), (.int .i64 0), ()) H
theorem f104.enter {Q : Post} {s_0 : Value} {n_1 : Value} {H : Heap} (h : f104.w Q s_0 n_1 H) : Runs Tryz.prog 104 #[s_0, n_1] H Q :=
  fn_enter (ann := [(4, [5, 6, 8]), (13, [9, 10])]) (by kernel_rfl) Tryz.func104 rfl (by kernel_rfl) h (by kernel_rfl)

/- loop.example/g01343/spec.l07With -/
def f95.j1 (Q : Post) (v4 : Value) (v2 : Value) (v1 : Value) (x_7 : Value) (y_8 : Value) (H : Heap) : Prop :=
  W.getN 2 v4 H fun v44 H =>
  W.call Tryz.prog (.func (.func 47) #[] #[]) #[v2, v44] H fun v45 H =>
  W.putN 2 v1 v45 H fun _ H =>
  W.getN 2 v1 H fun v46 H => Q (.tuple #[v46, x_7, y_8]) H
def f95.w (Q : Post) (code_0 : Value) (H : Heap) : Prop :=
  W.new [(.slice none 0 0), (.slice none 0 0)] 26 H fun v1 H =>
  W.call Tryz.prog (.func (.func 44) #[] #[]) #[code_0] H fun v2 H =>
  W.call Tryz.prog (.func (.func 45) #[] #[]) #[v2] H fun v3 H =>
  W.new [(.slice none 0 0), (.slice none 0 0)] 26 H fun v4 H =>
  W.putN 2 v4 v3 H fun _ H =>
  W.fieldAddr 0 v4 H fun v5 H =>
  W.get v5 H fun v6 H =>
  W.len v6 H fun v7 H =>
  (fun Hk4 => W.call Tryz.prog (.func (.func 104) #[] #[]) #[v2, v7] H fun v8 H =>
  W.fieldAddr 0 v4 H fun v9 H =>
  W.get v9 H fun v10 H =>
  W.chk (fun H k => W.get v9 H k) v10 Hk4 (W.indexAddr 1 v10 (.int .i64 0) H fun v11 H =>
  W.get v11 H fun v12 H =>
  W.chk (fun H k => W.get v11 H k) v12 Hk4 (W.len v12 H fun v13 H =>
  W.call Tryz.prog (.func (.func 104) #[] #[]) #[v2, v13] H fun v14 H =>
  W.getN 2 v4 H fun v15 H =>
  W.call Tryz.prog (.func (.func 23) #[] #[]) #[v15] H fun v16 H =>
  W.extract 0 v16 H fun v17 H =>
  W.extract 1 v16 H fun v18 H =>
  W.bin .eql v18 (.int .i64 0) H fun v19 H =>
  W.guarded v19 true (fun H k => k v17 H) H fun v20 H =>
  W.guarded v19 true (fun H k => W.len v20 H k) H fun v21 H =>
  W.guarded v19 true (fun H k => W.bin .gtr v21 (.int .i64 0) H k) H fun v22 H =>
  W.pick v19 v22 (.bool false) H fun v23 H =>
  W.guarded v23 true (fun H k => k v2 H) H fun v24 H =>
  W.guarded v23 true (fun H k => W.call Tryz.prog (.func (.func 103) #[] #[]) #[v24, (.int .i64 2)] H k) H fun v25 H =>
  W.guarded v23 true (fun H k => W.bin .eql v25 (.int .i64 0) H k) H fun v26 H =>
  W.pick v23 v26 (.bool false) H fun v27 H =>
  W.cond v27 H
  (fun H => W.len v17 H fun v28 H =>
   W.call Tryz.prog (.func (.func 103) #[] #[]) #[v2, v28] H fun v29 H =>
   W.indexAddr 1 v17 v29 H fun v30 H =>
   W.get v30 H fun v31 H =>
   W.lit 0 [(.int .i64 0), (.int .i64 0)] 39 [] H fun v32 H =>
   W.fieldAddr 0 v4 H fun v33 H =>
   W.get v33 H fun v34 H =>
   W.len v34 H fun v35 H =>
   W.slice 2 v31 none (some v35) H fun v36 H =>
   W.append 2 39 v32 v36 H fun v37 H =>
   W.lit 0 [(.int .i64 0), (.int .i64 0)] 39 [] H fun v38 H =>
   W.fieldAddr 0 v4 H fun v39 H =>
   W.get v39 H fun v40 H =>
   W.len v40 H fun v41 H =>
   W.slice 2 v31 (some v41) none H fun v42 H =>
   W.append 2 39 v38 v42 H fun v43 H =>
   f95.j1 Q v4 v2 v1 v37 v43 H)
  (fun H => f95.j1 Q v4 v2 v1 v8 v14 H)))) H
theorem f95.enter {Q : Post} {code_0 : Value} {H : Heap} (h : f95.w Q code_0 H) : Runs Tryz.prog 95 #[code_0] H Q :=
  fn_enter (ann := [(1000003, [])]) (by kernel_rfl) Tryz.func95 rfl (by kernel_rfl) h (by kernel_rfl)

/- loop.example/g01343/spec.DrawIsEquilibrium -/
def f33.w (Q : Post) (code_0 : Value) (H : Heap) : Prop :=
  W.new [(.slice none 0 0), (.slice none 0 0)] 26 H fun v1 H =>
  W.call Tryz.prog (.func (.func 95) #[] #[]) #[code_0] H fun v2 H =>
  W.extract 0 v2 H fun v3 H =>
  W.extract 1 v2 H fun v4 H =>
  W.extract 2 v2 H fun v5 H =>
  W.new [(.slice none 0 0), (.slice none 0 0)] 26 H fun v6 H =>
  W.putN 2 v6 v3 H fun _ H =>
  W.getN 2 v6 H fun v7 H =>
  W.putN 2 v1 v7 H fun _ H =>
  W.getN 2 v1 H fun v8 H => Q (.tuple #[v8, v4, v5]) H
theorem f33.enter {Q : Post} {code_0 : Value} {H : Heap} (h : f33.w Q code_0 H) : Runs Tryz.prog 33 #[code_0] H Q :=
  fn_enter (ann := []) (by kernel_rfl) Tryz.func33 rfl (by kernel_rfl) h (by kernel_rfl)

/- loop.example/g01343/spec.DrawBestReplies -/
def f37.j1 (Q : Post) (v2 : Value) (v5 : Value) (v4 : Value) (v1 : Value) (n_8 : Value) (H : Heap) : Prop :=
  W.call Tryz.prog (.func (.func 104) #[] #[]) #[v2, n_8] H fun v15 H =>
  W.getN 2 v5 H fun v16 H =>
  W.call Tryz.prog (.func (.func 47) #[] #[]) #[v2, v16] H fun v17 H =>
  W.lit 7 [(.int .i64 0)] 2 [(0, 1, v4), (1, 1, v4), (2, 1, v4), (3, 1, v4), (4, 1, v4), (5, 1, v4), (6, 1, (.int .i64 2))] H fun v18 H =>
  W.call Tryz.prog (.func (.func 105) #[] #[]) #[v2, v18] H fun v19 H =>
  W.putN 2 v1 v17 H fun _ H =>
  W.getN 2 v1 H fun v20 H => Q (.tuple #[v20, v19, v15]) H
def f37.w (Q : Post) (code_0 : Value) (H : Heap) : Prop :=
  W.new [(.slice none 0 0), (.slice none 0 0)] 26 H fun v1 H =>
  W.call Tryz.prog (.func (.func 44) #[] #[]) #[code_0] H fun v2 H =>
  W.call Tryz.prog (.func (.func 45) #[] #[]) #[v2] H fun v3 H =>
  W.call Tryz.prog (.func (.func 103) #[] #[]) #[v2, (.int .i64 2)] H fun v4 H =>
  W.new [(.slice none 0 0), (.slice none 0 0)] 26 H fun v5 H =>
  W.putN 2 v5 v3 H fun _ H =>
  W.fieldAddr 0 v5 H fun v6 H =>
  W.get v6 H fun v7 H =>
  W.indexAddr 1 v7 (.int .i64 0) H fun v8 H =>
  W.get v8 H fun v9 H =>
  W.len v9 H fun v10 H =>
  W.bin .eql v4 (.int .i64 1) H fun v11 H =>
  W.cond v11 H
  (fun H => W.fieldAddr 0 v5 H fun v12 H =>
   W.get v12 H fun v13 H =>
   W.len v13 H fun v14 H =>
   f37.j1 Q v2 v5 v4 v1 v14 H)
  (fun H => f37.j1 Q v2 v5 v4 v1 v10 H)
theorem f37.enter {Q : Post} {code_0 : Value} {H : Heap} (h : f37.w Q code_0 H) : Runs Tryz.prog 37 #[code_0] H Q :=
  fn_enter (ann := []) (by kernel_rfl) Tryz.func37 rfl (by kernel_rfl) h (by kernel_rfl)


section
variable {H0 H : Heap} {L : List (Atom H0.next)} {Q : Post} {b i : Nat} {vc : Value} {code : List Int}

/-- Two fractions written out. -/
theorem Wl.litF2 {K : Post} {a c : Frac} {ty : TypeId} (ha : I64 a.1 ∧ I64 a.2) (hc : I64 c.1 ∧ I64 c.2) (h : Ab.Loc H0 L H) (k : ∀ H' v, Ab.Loc H0 (.data RFS [v] [a, c] :: L) H' → K v H') : W.lit 2 [.int .i64 0, .int .i64 0] ty [(0, 2, .agg (frC a).toArray), (2, 2, .agg (frC c).toArray)] H K := by
  refine Wi.lit (cells := frC a ++ frC c) rfl fun H1 l1 n1 k1 => k H1 _ (h.cons l1 (bs := [H.next]) (grow_data (r := RFrac) (ty := ty) (.inr ⟨H.next, 2 * [a, c].length, _, fun _ => [], rfl, by omega, by simp, by simp, ?_, ⟨by omega, k1, by omega, by simp, by simp [RFrac, Rd.pair, Rd.int], fun i hi => ?_⟩, rfl, rfl, by simp [RFrac, Rd.pair, Rd.int], rfl⟩)) fun b hb => by simp at hb; omega)
  · intro c hc kc hk
    simp at hc
    subst hc
    rw [k1] at hk
    cases hk
    rfl
  · match i, hi with
    | 0, _ => exact frac_rel ha _
    | 1, _ => exact frac_rel hc _

theorem drawMix_end {n : Nat} {v : Value} {list : List Int} {den : Int} (h : Ab.Loc H0 (.grow Rd.int 2 v list :: L) H) (hi : L[i]? = some (.src b vc code)) (hn : 1 ≤ n ∧ n ≤ 4) (hl : list.length = n) (hx : ∀ x ∈ list, 0 ≤ x ∧ x ≤ 1000000) (hd : 1 ≤ den ∧ den ≤ 10000000) (hQ : ∀ H' u xs, Ab.Loc H0 (.data RFS [u] xs :: L) H' → xs.length ≤ 7 → Q u H') : f104.j1 Q (.int .i64 (n : Nat)) v (pt b 0) (.int .i64 den) H := by
  unfold f104.j1
  refine Wl.lit0 (ty := 39) RFrac rfl h fun H u h => ?_
  refine W.for_rule n (fun j st H => ∃ u xs, st = (u, .int .i64 (j : Nat), ()) ∧ xs.length = j ∧ Ab.Loc H0 (.grow RFrac 39 u xs :: .grow Rd.int 2 v list :: L) H) ⟨u, [], rfl, rfl, h⟩ ?_
  rintro j st H J hj ⟨u, xs, rfl, hxl, h⟩ hJ
  unfold f104.l2
  refine Wi.lssC (fun hlt => Wi.tru ?_) fun hge => Wi.fls ?_
  · have hjn : j < n := by omega
    have hjl : j < list.length := by omega
    have hb := hx _ (List.getElem_mem hjl)
    refine Wl.atIntH (h.rd (cs := [v]) (r := RS) (x := list)) hjl fun _ => Wi.call (fn102 (n := list[j]) (d := den) (by unfold B64; omega) (by unfold B64; omega) (by omega) fun H l => ?_)
    have h := h.to l
    obtain ⟨f1, f2⟩ := frac_i64' (x := list[j]) (d := den) (by omega) (by omega)
    exact Wl.pushP (r := RFrac) (x := frac list[j] den) (i := 0) rfl rfl rfl (frac_rel ⟨by unfold I64; omega, by unfold I64; omega⟩) h (by omega) fun H u' h => Wi.add (by unfold I64; omega) (hJ _ _ hjn ⟨u', xs ++ [frac list[j] den], rfl, by simp; omega, h⟩)
  · refine Wi.call (fn103 (i := i + 2) h (by simpa using hi) fun H y h hy _ => ?_)
    have last : ∀ H u (xs : List Frac), Ab.Loc H0 (.data RFS [u] xs :: .grow Rd.int 2 v list :: L) H → xs.length ≤ 7 → Q u H := fun H u xs h hl => hQ _ _ _ (h.cut 1) hl
    refine Wi.eqlC (fun _ => Wi.tru ?_) fun _ => Wi.fls ?_
    · refine Wi.call (fn137 (i := i + 2) h (by simpa using hi) fun H a h ha => ?_)
      have h := h.asData (i := 0) rfl
      have h : Ab.Loc H0 (.data RFS [u] xs :: .grow Rd.int 2 v list :: L) H := h
      refine Wl.setP (r := RFrac) (y := a) (v := u) (j := 0) (i := 0) rfl h (by omega) (frac_rel ha) fun H h => ?_
      unfold f104.j2
      exact last _ _ _ h (by rw [List.length_set]; omega)
    refine Wi.eqlC (fun _ => Wi.tru ?_) fun _ => Wi.fls ?_
    · refine Wi.build (cells := frC (0, 1)) rfl (Wl.pushP (r := RFrac) (x := ((0, 1) : Frac)) (i := 0) rfl rfl rfl (frac_rel ⟨by show I64 0; unfold I64; decide, by show I64 1; unfold I64; decide⟩) h (by omega) fun H u' h => ?_)
      have h : Ab.Loc H0 (.grow RFrac 39 u' (xs ++ [(0, 1)]) :: .grow Rd.int 2 v list :: L) H := h
      unfold f104.j3 f104.j2
      exact last _ _ (xs ++ [(0, 1)]) (h.asData (i := 0) rfl) (by simp; omega)
    have j4 : f104.j4 Q u H := by
      unfold f104.j4 f104.j3 f104.j2
      exact last _ _ _ (h.asData (i := 0) rfl) (by omega)
    refine Wi.eqlC (fun _ => Wi.tru ?_) fun _ => Wi.fls j4
    refine Wi.eqlC (fun _ => Wi.tru ?_) fun _ => Wi.fls j4
    refine Wi.build (cells := frC (1, 999999937)) rfl (Wi.build (cells := frC (1, 1000000000)) rfl (Wl.litF2 (a := (1, 999999937)) (c := (1, 1000000000)) ⟨by show I64 1; unfold I64; decide, by show I64 999999937; unfold I64; decide⟩ ⟨by show I64 1; unfold I64; decide, by show I64 1000000000; unfold I64; decide⟩ h fun H v' h => ?_))
    have h : Ab.Loc H0 (.data RFS [v'] [(1, 999999937), (1, 1000000000)] :: .grow RFrac 39 u xs :: .grow Rd.int 2 v list :: L) H := h
    exact last _ _ _ (h.cut 1) (by simp)

theorem fn104 {n : Nat} (h : Ab.Loc H0 L H) (hi : L[i]? = some (.src b vc code)) (hn : 1 ≤ n ∧ n ≤ 4) (hQ : ∀ H' u xs, Ab.Loc H0 (.data RFS [u] xs :: L) H' → xs.length ≤ 7 → Q u H') : Runs Tryz.prog 104 #[pt b 0, .int .i64 (n : Nat)] H Q := by
  refine f104.enter ?_
  unfold f104.w
  refine Wl.lit0 (ty := 2) Rd.int rfl h fun H v h => ?_
  refine Wl.litN [1, 2, 5, 1000, 1000000] rfl (by decide) (by simp [I64]) rfl h fun H vl h => Wi.call (fn105 (i := i + 2) h (by simpa using hi) (fun H h => h.rd (cs := [vl])) (by decide) fun H most h ht => ?_)
  have ht : 1 ≤ most ∧ most ≤ 1000000 := by simp at ht; omega
  have h := h.tl
  refine W.for_rule n (fun j st H => ∃ (v : Value) (list : List Int) (den : Int), st = (v, .int .i64 den, .int .i64 (j : Nat), ()) ∧ list.length = j ∧ (∀ x ∈ list, 0 ≤ x ∧ x ≤ 1000000) ∧ 0 ≤ den ∧ den ≤ 1000000 * ((j : Nat) : Int) ∧ Ab.Loc H0 (.grow Rd.int 2 v list :: L) H) ⟨v, [], 0, rfl, rfl, (fun x hx => by cases hx), by omega, by omega, h⟩ ?_
  rintro j st H J hj ⟨v, list, den, rfl, hl, hx, d0, d1, h⟩ hJ
  unfold f104.l1
  refine Wi.lssC (fun hlt => Wi.tru ?_) fun hge => Wi.fls ?_
  · have hjn : j < n := by omega
    refine Wi.add (by unfold I64; omega) (Wi.call (fn103 (i := i + 1) h (by simpa using hi) fun H y h hy hlim => ?_))
    have hlim := hlim (by omega)
    refine Wl.litN [0, 1, 1] rfl (by decide) (by simp [I64]) rfl h fun H vl h => Wi.call (fn105 (i := i + 2) h (by simpa using hi) (fun H h => h.rd (cs := [vl])) (by decide) fun H t h ht => ?_)
    have ht : t = 0 ∨ t = 1 := by simpa using ht
    have h := h.tl
    have hyt : 0 ≤ y * t ∧ y * t ≤ 1000000 := by rcases ht with rfl | rfl <;> omega
    refine Wi.mul (by unfold I64; omega) ?_
    generalize y * t = p at hyt ⊢
    refine (Wl.pushP (r := Rd.int) (x := p) (i := 0) rfl rfl rfl (fun _ => ⟨rfl, rfl, by unfold I64; omega⟩) h (by omega) fun H v' h => ?_)
    have h : Ab.Loc H0 (.grow Rd.int 2 v' (list ++ [p]) :: L) H := h
    have e : (list ++ [p])[j]'(by simp; omega) = p := by
      rw [List.getElem_append_right (by omega)]
      simp
    refine Wl.atIntH (h.rd (cs := [v']) (r := RS) (x := list ++ [p])) (i := j) (by simp; omega) fun _ => ?_
    rw [e]
    refine Wi.add (by unfold I64; omega) (Wi.add (by unfold I64; omega) (hJ _ _ hjn ⟨v', list ++ [p], den + p, rfl, by simp; omega, (fun x hxm => ?_), by omega, by omega, h⟩))
    rcases List.mem_append.1 hxm with q | q
    · exact hx x q
    · rw [List.mem_singleton] at q; omega
  · have hjn : j = n := by omega
    subst hjn
    refine Wi.eqlC (fun e => Wi.tru ?_) fun e => Wi.fls (drawMix_end h hi hn hl hx (by omega) hQ)
    refine Wl.setG (v := v) (j := 0) h (i := 0) (by omega) (by unfold I64; omega) fun H h => ?_
    refine drawMix_end h hi hn (by rw [List.length_set]; exact hl) (fun x hxm => ?_) (by omega) hQ
    rcases List.mem_or_eq_of_mem_set hxm with q | q
    · exact hx x q
    · omega

end

section
variable {H0 : Heap} {Q : Post} {vc : Value} {code : List Int}

theorem fn37 (hc : Has RBytes H0 [vc] code) (hQ : ∀ H' u1 u2 g p vm xs, H0.Le H' → Has RGame H' [u1, u2] g → SmallA g → I64 p → Has RFS H' [vm] xs → xs.length ≤ 7 → Q (.tuple #[.agg #[u1, u2], .int .i64 p, vm]) H') : Runs Tryz.prog 37 #[vc] H0 Q := by
  refine f37.enter ?_
  unfold f37.w
  refine Wl.new (Loc.start H0) fun H b1 h => Wi.call (fn44 hc h fun H b h => Wi.call (fn45 (i := 0) h rfl fun H u1 u2 g k l h hg => ?_))
  refine Wi.call (fn103 (i := 1) h rfl fun H pl h hpl _ => ?_)
  have kc := (h.rd (cs := [u1, u2]) (r := RGame)).cell
  have h := h.unpair (r := RSS) (s := RSS) (c1 := [u1]) (c2 := [u2]) (x := g.1) (y := g.2) rfl
  obtain ⟨k1, l1, ga, gar, gb, gbr⟩ := id hg
  have a0 : 0 < g.1.length := by omega
  have hrl := gar _ (List.getElem_mem a0)
  have fin : ∀ (n : Nat) H b5, 1 ≤ n ∧ n ≤ 4 → Ab.Loc H0 (.box b5 [u1, u2] :: .data RSS [u1] g.1 :: .data RSS [u2] g.2 :: .src b vc code :: .box b1 nil2 :: []) H → f37.j1 Q (pt b 0) (pt b5 0) (.int .i64 pl) (pt b1 0) (.int .i64 (n : Nat)) H := fun n H b5 hn h => by
    unfold f37.j1
    have h := h.pair (i := 1) (j := 2) rfl rfl (by decide)
    have h : Ab.Loc H0 (.box b5 [u1, u2] :: .data RGame [u1, u2] g :: .emp :: .src b vc code :: .box b1 nil2 :: []) H := h
    refine Wi.call (fn104 (i := 3) h rfl hn fun H vm xs h hx => ?_)
    have h2 : Ab.Loc H0 (.data RGame [u1, u2] g :: .data RFS [vm] xs :: .box b5 [u1, u2] :: .emp :: .src b vc code :: .box b1 nil2 :: []) H := h.front 2 rfl
    refine Wl.getA (b := b5) h rfl (Wi.call (fn47 (i := 3) h2 rfl hg fun H w1 w2 g h hg => ?_))
    refine Wl.litN [pl, pl, pl, pl, pl, pl, 2] rfl (by simp) (fun x hx => by
      simp only [List.mem_cons, List.not_mem_nil, or_false] at hx
      unfold I64
      omega) rfl h fun H vl h => Wi.call (fn105 (i := 5) h rfl (fun H h => h.rd (cs := [vl])) (by simp) fun H t h ht => ?_)
    have ht : I64 t := by
      simp only [List.mem_cons, List.not_mem_nil, or_false] at ht
      unfold I64
      omega
    have h := h.tl
    have h : Ab.Loc H0 (.view RGame [w1, w2] g :: .data RFS [vm] xs :: .box b5 [u1, u2] :: .emp :: .src b vc code :: .box b1 nil2 :: []) H := h
    have kc := (h.rd (cs := [w1, w2]) (r := RGame)).cell
    refine Wl.putA (b := b1) (i := 5) h rfl rfl kc fun H h => Wl.getA (b := b1) h rfl ?_
    exact hQ _ w1 w2 g t vm xs h.le (h.rd (cs := [w1, w2])) hg ht (h.rd (cs := [vm])) hx
  refine Wl.new h fun H b4 h => Wl.putA (b := b4) h rfl rfl kc fun H h => Wi.fieldAddr0 (Wl.get (b := b4) h rfl (Wl.at1H rfl (h.rd (cs := [u1]) (r := RSS) (x := g.1)) (i := 0) a0 fun r hr => Wl.lenH hr ?_))
  rw [hrl]
  have h : Ab.Loc H0 (.box b4 [u1, u2] :: .data RSS [u1] g.1 :: .data RSS [u2] g.2 :: .src b vc code :: .box b1 nil2 :: []) H := h
  refine Wi.eqlC (fun _ => Wi.tru ?_) fun _ => Wi.fls (fin l H b4 l1 h)
  refine Wi.fieldAddr0 (Wl.get (b := b4) h rfl (Wl.len (v := u1) (xs := g.1) h ?_))
  rw [ga]
  exact fin k H b4 k1 h

theorem fn95 {H : Heap} {L : List (Atom H0.next)} (hc : Has RBytes H0 [vc] code) (h : Ab.Loc H0 L H) (hQ : ∀ H' u1 u2 g vx xs vy ys, Ab.Loc H0 (.view RGame [u1, u2] g :: .data RFS [vx] xs :: .data RFS [vy] ys :: L) H' → SmallA g → xs.length ≤ 7 → ys.length ≤ 7 → Q (.tuple #[.agg #[u1, u2], vx, vy]) H') : Runs Tryz.prog 95 #[vc] H Q := by
  refine f95.enter ?_
  unfold f95.w
  refine Wl.new h fun H b1 h => Wi.call (fn44 hc h fun H b h => Wi.call (fn45 (i := 0) h rfl fun H u1 u2 g k l h hg => ?_))
  have kc := (h.rd (cs := [u1, u2]) (r := RGame)).cell
  have h := h.unpair (r := RSS) (s := RSS) (c1 := [u1]) (c2 := [u2]) (x := g.1) (y := g.2) rfl
  obtain ⟨k1, l1, ga, gar, gb, gbr⟩ := id hg
  have a0 : 0 < g.1.length := by omega
  have hrl := gar _ (List.getElem_mem a0)
  have fin : ∀ H b4 vx xs vy ys, xs.length ≤ 7 → ys.length ≤ 7 → Ab.Loc H0 (.data RGame [u1, u2] g :: .data RFS [vx] xs :: .data RFS [vy] ys :: .box b4 [u1, u2] :: .src b vc code :: .box b1 nil2 :: L) H → f95.j1 Q (pt b4 0) (pt b 0) (pt b1 0) vx vy H := fun H b4 vx xs vy ys lx ly h => by
    unfold f95.j1
    refine Wl.getA (b := b4) h rfl (Wi.call (fn47 (i := 3) h rfl hg fun H w1 w2 g h hg => ?_))
    have h : Ab.Loc H0 (.view RGame [w1, w2] g :: .data RFS [vx] xs :: .data RFS [vy] ys :: .box b4 [u1, u2] :: .src b vc code :: .box b1 nil2 :: L) H := h
    have kc := (h.rd (cs := [w1, w2]) (r := RGame)).cell
    refine Wl.putA (b := b1) (i := 5) h rfl rfl kc fun H h => Wl.getA (b := b1) h rfl ?_
    exact hQ _ w1 w2 g vx xs vy ys (((h.cut 3).cut 3).cut 3) hg lx ly
  refine Wl.new h fun H b4 h => Wl.putA (b := b4) h rfl rfl kc fun H h => ?_
  have h : Ab.Loc H0 (.box b4 [u1, u2] :: .data RSS [u1] g.1 :: .data RSS [u2] g.2 :: .src b vc code :: .box b1 nil2 :: L) H := h
  obtain ⟨us, hus, h⟩ := h.heads (i := 1) rfl rfl
  have h : Ab.Loc H0 (.box b4 [u1, u2] :: .rows RS u1 us g.1 :: .data RSS [u2] g.2 :: .src b vc code :: .box b1 nil2 :: L) H := h
  have hu0 : 0 < us.length := by omega
  have hw0 : us[0]? = some us[0] := List.getElem?_eq_getElem hu0
  refine Wi.fieldAddr0 (Wl.get (b := b4) h rfl (Wl.lenH (h.rawOf rfl (i := 1) rfl) ?_))
  rw [hus, ga]
  have hk := h
  refine Wi.call (fn104 (i := 3) h rfl k1 fun H vx xs h lx => ?_)
  refine Wi.fieldAddr0 (Wl.get (b := b4) h rfl (Wi.chk (Wl.get (b := b4) hk rfl ⟨rfl, rfl⟩) ?_))
  refine Wl.adrH (h.rawOf rfl (i := 2) rfl) hu0 (Wl.ldRaw (h.rawOf rfl (i := 2) rfl) hu0 (Wi.chk (Wl.ldRaw (hk.rawOf rfl (i := 1) rfl) hu0 ⟨rfl, rfl⟩) (Wl.lenH (h.row (j := 2) rfl rfl hw0 a0) ?_)))
  rw [hrl]
  refine Wi.call (fn104 (i := 4) h rfl l1 fun H vy ys h ly => ?_)
  have h : Ab.Loc H0 (.data RFS [vy] ys :: .data RFS [vx] xs :: .box b4 [u1, u2] :: .rows RS u1 us g.1 :: .data RSS [u2] g.2 :: .src b vc code :: .box b1 nil2 :: L) H := h
  have h := h.unrows (i := 3) rfl
  have h : Ab.Loc H0 (.data RFS [vy] ys :: .data RFS [vx] xs :: .box b4 [u1, u2] :: .data RSS [u1] g.1 :: .data RSS [u2] g.2 :: .src b vc code :: .box b1 nil2 :: L) H := h
  have h := h.pair (i := 3) (j := 4) rfl rfl (by decide)
  have h : Ab.Loc H0 (.data RFS [vy] ys :: .data RFS [vx] xs :: .box b4 [u1, u2] :: .data RGame [u1, u2] g :: .emp :: .src b vc code :: .box b1 nil2 :: L) H := h
  refine Wl.getA (b := b4) h rfl (Wi.call (fnG23 (h.rd (cs := [u1, u2]) (x := g)) hg.small.w fun H v17 f => ?_))
  have h := h.add f
  have h : Ab.Loc H0 (.data (Rd.slice RFG) [v17] (eqRes g).1 :: .data RFS [vy] ys :: .data RFS [vx] xs :: .box b4 [u1, u2] :: .data RGame [u1, u2] g :: .emp :: .src b vc code :: .box b1 nil2 :: L) H := h
  have no : ∀ H, Ab.Loc H0 (.data (Rd.slice RFG) [v17] (eqRes g).1 :: .data RFS [vy] ys :: .data RFS [vx] xs :: .box b4 [u1, u2] :: .data RGame [u1, u2] g :: .emp :: .src b vc code :: .box b1 nil2 :: L) H → f95.j1 Q (pt b4 0) (pt b 0) (pt b1 0) vx vy H := fun H h => by
    have h := h.tl
    have h : Ab.Loc H0 (.data RGame [u1, u2] g :: .data RFS [vy] ys :: .data RFS [vx] xs :: .box b4 [u1, u2] :: .emp :: .src b vc code :: .box b1 nil2 :: L) H := h.front 3 rfl
    have h : Ab.Loc H0 (.data RFS [vx] xs :: .data RGame [u1, u2] g :: .data RFS [vy] ys :: .box b4 [u1, u2] :: .emp :: .src b vc code :: .box b1 nil2 :: L) H := h.front 2 rfl
    have h : Ab.Loc H0 (.data RGame [u1, u2] g :: .data RFS [vx] xs :: .data RFS [vy] ys :: .box b4 [u1, u2] :: .emp :: .src b vc code :: .box b1 nil2 :: L) H := h.front 1 rfl
    exact fin _ _ _ _ _ _ lx ly (h.cut 4)
  simp only [gw]
  refine Wi.eqlC (fun h0 => ?_) fun _ => ?_
  rotate_left
  · simp only [gw]
    exact no _ h
  obtain ⟨hgm, hne, hev⟩ := eqRes_good h0
  simp only [gw]
  refine Wl.lenH (h.rd (cs := [v17]) (r := Rd.slice RFG)) (Wi.gtrC (fun hpos => ?_) fun _ => ?_)
  rotate_left
  · simp only [gw]
    exact no _ h
  simp only [gw]
  refine Wi.call (fn103 (i := 6) h rfl fun H y h hy _ => ?_)
  refine Wi.eqlC (fun _ => Wi.tru ?_) fun _ => Wi.fls (no _ h)
  refine Wl.lenH (h.rd (cs := [v17]) (r := Rd.slice RFG)) (Wi.call (fn103 (i := 6) h rfl fun H z h hz hlim => ?_))
  have hlim := hlim (by omega)
  obtain ⟨m, rfl⟩ : ∃ m : Nat, z = (m : Int) := ⟨z.toNat, by omega⟩
  have hm : m < (eqRes g).1.length := by omega
  obtain ⟨es, hes, h⟩ := h.heads (r := RFG) (i := 0) rfl rfl
  have h : Ab.Loc H0 (.rows RFG v17 es (eqRes g).1 :: .data RFS [vy] ys :: .data RFS [vx] xs :: .box b4 [u1, u2] :: .data RGame [u1, u2] g :: .emp :: .src b vc code :: .box b1 nil2 :: L) H := h
  have hme : m < es.length := by omega
  have hwm : es[m]? = some es[m] := List.getElem?_eq_getElem hme
  obtain ⟨zz, D, hz1, hz2, hz3⟩ := hev _ (List.getElem_mem hm)
  obtain ⟨_, _, hz4⟩ := hz1.mix hz2
  have hel : ((eqRes g).1[m]).length = nG g := by rw [hz3]; exact hz4
  have hnn : nG g = g.1.length + lw g := rfl
  have kl := hgm.kl
  refine Wl.atRaw (h.rawOf rfl (i := 0) rfl) hme (Wl.lit0 (ty := 39) RFrac rfl h fun H w h => ?_)
  have h : Ab.Loc H0 (.grow RFrac 39 w [] :: .rows RFG v17 es (eqRes g).1 :: .data RFS [vy] ys :: .data RFS [vx] xs :: .box b4 [u1, u2] :: .data RGame [u1, u2] g :: .emp :: .src b vc code :: .box b1 nil2 :: L) H := h
  have len1 : ∀ {L' : List (Atom H0.next)} {H}, Ab.Loc H0 L' H → Has RGame H [u1, u2] g → Has RSS H [u1] g.1 := fun _ r => by
    obtain ⟨a1, a2, e, r1, _⟩ := hasGame r
    cases e
    exact r1
  refine Wi.fieldAddr0 (Wl.get (b := b4) h rfl (Wl.lenH (len1 h (h.rd (cs := [u1, u2]) (x := g))) ?_))
  refine Wl.cutLoH (h.row (j := 1) rfl rfl hwm hm).ofG1 (by omega) fun w1 hw1 => ?_
  refine Wl.appendH (r := RFrac) (zs := ((eqRes g).1[m]).take g.1.length) (i := 0) rfl h rfl hw1 (by simp; omega) fun H wx h => ?_
  rw [List.nil_append] at h
  have h : Ab.Loc H0 (.grow RFrac 39 wx (((eqRes g).1[m]).take g.1.length) :: .rows RFG v17 es (eqRes g).1 :: .data RFS [vy] ys :: .data RFS [vx] xs :: .box b4 [u1, u2] :: .data RGame [u1, u2] g :: .emp :: .src b vc code :: .box b1 nil2 :: L) H := h
  have h := h.asData (i := 0) rfl
  have h : Ab.Loc H0 (.data RFS [wx] (((eqRes g).1[m]).take g.1.length) :: .rows RFG v17 es (eqRes g).1 :: .data RFS [vy] ys :: .data RFS [vx] xs :: .box b4 [u1, u2] :: .data RGame [u1, u2] g :: .emp :: .src b vc code :: .box b1 nil2 :: L) H := h
  refine Wl.lit0 (ty := 39) RFrac rfl h fun H w h => ?_
  have h : Ab.Loc H0 (.grow RFrac 39 w [] :: .data RFS [wx] (((eqRes g).1[m]).take g.1.length) :: .rows RFG v17 es (eqRes g).1 :: .data RFS [vy] ys :: .data RFS [vx] xs :: .box b4 [u1, u2] :: .data RGame [u1, u2] g :: .emp :: .src b vc code :: .box b1 nil2 :: L) H := h
  refine Wi.fieldAddr0 (Wl.get (b := b4) h rfl (Wl.lenH (len1 h (h.rd (cs := [u1, u2]) (x := g))) ?_))
  refine Wl.cutHiG rfl (h.row (j := 2) rfl rfl hwm hm) (by omega) fun w2 hw2 => ?_
  refine Wl.appendH (r := RFrac) (zs := ((eqRes g).1[m]).drop g.1.length) (i := 0) rfl h rfl hw2 (by simp; omega) fun H wy h => ?_
  rw [List.nil_append] at h
  have h : Ab.Loc H0 (.grow RFrac 39 wy (((eqRes g).1[m]).drop g.1.length) :: .data RFS [wx] (((eqRes g).1[m]).take g.1.length) :: .rows RFG v17 es (eqRes g).1 :: .data RFS [vy] ys :: .data RFS [vx] xs :: .box b4 [u1, u2] :: .data RGame [u1, u2] g :: .emp :: .src b vc code :: .box b1 nil2 :: L) H := h
  have h := h.asData (i := 0) rfl
  have h : Ab.Loc H0 (.data RFS [wy] (((eqRes g).1[m]).drop g.1.length) :: .data RFS [wx] (((eqRes g).1[m]).take g.1.length) :: .rows RFG v17 es (eqRes g).1 :: .data RFS [vy] ys :: .data RFS [vx] xs :: .box b4 [u1, u2] :: .data RGame [u1, u2] g :: .emp :: .src b vc code :: .box b1 nil2 :: L) H := h
  have h := (((h.cut 2).cut 2).cut 2)
  have h : Ab.Loc H0 (.data RFS [wy] (((eqRes g).1[m]).drop g.1.length) :: .data RFS [wx] (((eqRes g).1[m]).take g.1.length) :: .box b4 [u1, u2] :: .data RGame [u1, u2] g :: .emp :: .src b vc code :: .box b1 nil2 :: L) H := h
  have h : Ab.Loc H0 (.data RFS [wx] (((eqRes g).1[m]).take g.1.length) :: .data RFS [wy] (((eqRes g).1[m]).drop g.1.length) :: .box b4 [u1, u2] :: .data RGame [u1, u2] g :: .emp :: .src b vc code :: .box b1 nil2 :: L) H := h.front 1 rfl
  have h : Ab.Loc H0 (.data RGame [u1, u2] g :: .data RFS [wx] (((eqRes g).1[m]).take g.1.length) :: .data RFS [wy] (((eqRes g).1[m]).drop g.1.length) :: .box b4 [u1, u2] :: .emp :: .src b vc code :: .box b1 nil2 :: L) H := h.front 3 rfl
  exact fin _ _ _ _ _ _ (by simp; omega) (by simp; omega) (h.cut 4)

theorem fn33 (hc : Has RBytes H0 [vc] code) (hQ : ∀ H' u1 u2 g vx xs vy ys, H0.Le H' → Has RGame H' [u1, u2] g → SmallA g → Has RFS H' [vx] xs → Has RFS H' [vy] ys → xs.length ≤ 7 → ys.length ≤ 7 → Q (.tuple #[.agg #[u1, u2], vx, vy]) H') : Runs Tryz.prog 33 #[vc] H0 Q := by
  refine f33.enter ?_
  unfold f33.w
  refine Wl.new (Loc.start H0) fun H b1 h => Wi.call (fn95 hc h fun H u1 u2 g vx xs vy ys h hs lx ly => ?_)
  have kc := (h.rd (cs := [u1, u2]) (r := RGame) (x := g)).cell
  simp only [gw]
  refine Wl.new h fun H b6 h => Wl.putA (b := b6) (i := 0) h rfl rfl kc fun H h => Wl.getA (b := b6) h rfl (Wl.putA (b := b1) (i := 4) h rfl rfl kc fun H h => Wl.getA (b := b1) h rfl ?_)
  exact hQ _ u1 u2 g vx xs vy ys h.le (h.rd (cs := [u1, u2])) hs (h.rd (cs := [vx])) (h.rd (cs := [vy])) lx ly

end
end Go.Proofs.YtbcfknboheghkaaGreat
