/- SolutionsOf of the reference, where all covering sets have one solution. No condition. -/
import Derived.Test.YtdmgomeogedjgaaGreatSO5
import Derived.Test.YtdmgomeogedjgaaGreatZabLit
namespace Go.Proofs.YtdmgomeogedjgaaGreat
open Go.Ab

/- loop.example/g01343/spec.l02All -/
def f28.j1 (Q : Post) (s_4 : Value) (I1 : St [3, 4] → Heap → Prop) (out_3' : Value) (H : Heap) : Prop :=
  W.bin .add s_4 (.int .i64 1) H fun v12 H =>
  I1 (out_3', v12, ()) H
def f28.l2 (Q : Post) (v14 : Value) (out_3 : Value) (s_4 : Value) (I1 : St [3, 4] → Heap → Prop) (I2 : St [6] → Heap → Prop) (at_6 : Value) (H : Heap) : Prop :=
  W.bin .gtr at_6 (.int .i64 0) H fun v16 H =>
  W.guarded v16 true (fun H k => k v14 H) H fun v17 H =>
  W.guarded v16 true (fun H k => k out_3 H) H fun v18 H =>
  W.guarded v16 true (fun H k => k at_6 H) H fun v19 H =>
  W.guarded v16 true (fun H k => W.bin .sub v19 (.int .i64 1) H k) H fun v20 H =>
  W.guarded v16 true (fun H k => W.indexAddr 1 v18 v20 H k) H fun v21 H =>
  W.guarded v16 true (fun H k => W.get v21 H k) H fun v22 H =>
  W.guarded v16 true (fun H k => W.call Tryz.prog (.func (.func 58) #[] #[]) #[v17, v22] H k) H fun v23 H =>
  W.pick v16 v23 (.bool false) H fun v24 H =>
  W.cond v24 H
  (fun H => W.bin .sub at_6 (.int .i64 1) H fun v25 H =>
   I2 (v25, ()) H)
  (fun H => W.bin .gtr at_6 (.int .i64 0) H fun v26 H =>
   W.guarded v26 true (fun H k => k out_3 H) H fun v27 H =>
   W.guarded v26 true (fun H k => k at_6 H) H fun v28 H =>
   W.guarded v26 true (fun H k => W.bin .sub v28 (.int .i64 1) H k) H fun v29 H =>
   W.guarded v26 true (fun H k => W.indexAddr 1 v27 v29 H k) H fun v30 H =>
   W.guarded v26 true (fun H k => W.get v30 H k) H fun v31 H =>
   W.guarded v26 true (fun H k => k v14 H) H fun v32 H =>
   W.guarded v26 true (fun H k => W.call Tryz.prog (.func (.func 58) #[] #[]) #[v31, v32] H k) H fun v33 H =>
   W.guarded v26 true (fun H k => W.un .not v33 H k) H fun v34 H =>
   W.pick v26 v34 (.bool false) H fun v35 H =>
   W.cond v35 H
   (fun H => f28.j1 Q s_4 I1 out_3 H)
   (fun H => W.lit 1 [(.slice none 0 0)] 38 [(0, 1, v14)] H fun v36 H =>
    W.slice 1 out_3 (some at_6) none H fun v37 H =>
    W.append 1 38 v36 v37 H fun v38 H =>
    W.lit 0 [(.slice none 0 0)] 38 [] H fun v39 H =>
    W.slice 1 out_3 none (some at_6) H fun v40 H =>
    W.append 1 38 v39 v40 H fun v41 H =>
    W.append 1 38 v41 v38 H fun v42 H =>
    f28.j1 Q s_4 I1 v42 H))
def f28.l1 (Q : Post) (v1 : Value) (I1 : St [3, 4] → Heap → Prop) (out_3 : Value) (s_4 : Value) (H : Heap) : Prop :=
  W.fieldAddr 1 v1 H fun v3 H =>
  W.get v3 H fun v4 H =>
  W.len v4 H fun v5 H =>
  W.conv .u64 v5 H fun v6 H =>
  W.bin .shl (.int .i64 1) v6 H fun v7 H =>
  W.bin .lss s_4 v7 H fun v8 H =>
  W.cond v8 H
  (fun H => W.getN 2 v1 H fun v9 H =>
   W.call Tryz.prog (.func (.func 56) #[] #[]) #[v9, s_4] H fun v10 H =>
   W.un .not v10 H fun v11 H =>
   W.cond v11 H
   (fun H => f28.j1 Q s_4 I1 out_3 H)
   (fun H => W.getN 2 v1 H fun v13 H =>
    W.call Tryz.prog (.func (.func 57) #[] #[]) #[v13, s_4] H fun v14 H =>
    W.len out_3 H fun v15 H =>
    W.loop (S := St [6]) (fun I2 s H => f28.l2 Q v14 out_3 s_4 I1 I2 s.1 H) (v15, ()) H))
  (fun H => Q out_3 H)
def f28.w (Q : Post) (p_0 : Value) (H : Heap) : Prop :=
  W.box p_0 31 H fun v1 H =>
  W.lit 0 [(.slice none 0 0)] 38 [] H fun v2 H =>
  W.loop (S := St [3, 4]) (fun I1 s H => f28.l1 Q v1 I1 s.1 s.2.1 H) (v2, (.int .i64 0), ()) H
theorem f28.enter {Q : Post} {p_0 : Value} {H : Heap} (h : f28.w Q p_0 H) : Runs Tryz.prog 28 #[p_0] H Q :=
  fn_enter (ann := [(3, [3, 4]), (7, [6])]) (by kernel_rfl) Tryz.func28 rfl (by kernel_rfl) h (by kernel_rfl)

/- loop.example/g01343/spec.SolutionsOf -/
def f9.l1 (Q : Post) (v6 : Value) (I1 : St [5] → Heap → Prop) (i_5 : Value) (H : Heap) : Prop :=
  W.len v6 H fun v7 H =>
  W.bin .lss i_5 v7 H fun v8 H =>
  W.cond v8 H
  (fun H => W.indexAddr 1 v6 i_5 H fun v9 H =>
   W.get v9 H fun v10 H =>
   W.call Tryz.prog (.func (.func 29) #[] #[]) #[v10] H fun v11 H =>
   W.extract 0 v11 H fun v12 H =>
   W.extract 1 v11 H fun v13 H =>
   W.bin .neq v13 (.int .i64 0) H fun v14 H =>
   W.cond v14 H
   (fun H => Q (.tuple #[(.slice none 0 0), v13]) H)
   (fun H => W.bin .add i_5 (.int .i64 1) H fun v15 H =>
    I1 (v15, ()) H))
  (fun H => Q (.tuple #[v6, (.int .i64 0)]) H)
def f9.w (Q : Post) (p_0 : Value) (H : Heap) : Prop :=
  W.box p_0 31 H fun v1 H =>
  W.getN 2 v1 H fun v2 H =>
  W.call Tryz.prog (.func (.func 27) #[] #[]) #[v2] H fun v3 H =>
  W.un .not v3 H fun v4 H =>
  W.cond v4 H
  (fun H => Q (.tuple #[(.slice none 0 0), (.int .i64 1)]) H)
  (fun H => W.getN 2 v1 H fun v5 H =>
   W.call Tryz.prog (.func (.func 28) #[] #[]) #[v5] H fun v6 H =>
   W.loop (S := St [5]) (fun I1 s H => f9.l1 Q v6 I1 s.1 H) ((.int .i64 0), ()) H)
theorem f9.enter {Q : Post} {p_0 : Value} {H : Heap} (h : f9.w Q p_0 H) : Runs Tryz.prog 9 #[p_0] H Q :=
  fn_enter (ann := [(5, [5])]) (by kernel_rfl) Tryz.func9 rfl (by kernel_rfl) h (by kernel_rfl)


/-- What is found among the first sets. -/
def oneL (n : Nat) (p : Prob) (Z : List Frac) (x : Nat) : List (List Frac) := if ((List.range x).filter (covB n p)) = [] then [] else [Z]

theorem oneL_no {n : Nat} {p : Prob} {Z : List Frac} {x : Nat} (h : covB n p x = false) : oneL n p Z (x + 1) = oneL n p Z x := by
  unfold oneL
  rw [List.range_succ, List.filter_append]
  simp [h]
theorem oneL_yes {n : Nat} {p : Prob} {Z : List Frac} {x : Nat} (h : covB n p x = true) : oneL n p Z (x + 1) = [Z] := by
  unfold oneL
  rw [List.range_succ, List.filter_append]
  simp [h]

theorem fnP28 {H0 : Heap} {Q : Post} {cs : List Value} {p : Prob} {Z : List Frac} (hr : Has RProblem H0 cs p) (hp : isProb p = true) (hZ : ∀ s, s < 2 ^ p.2.length → covB p.2.length p s = true → solF p.2.length p s = Z)
    (hQ : ∀ H' w, Fresh (Rd.slice RFS) H0 [w] (oneL p.2.length p Z (2 ^ p.2.length)) H' → Q w H') : Runs Tryz.prog 28 #[.agg cs.toArray] H0 Q := by
  obtain ⟨u1, u2, rfl, r1, r2⟩ := hasProb hr
  have hpb := PB.of hp
  have hn5 := hpb.n5
  have h32 := pow5 hn5
  have h := (((Loc.start H0).lent r2).lent hr)
  refine f28.enter ?_
  unfold f28.w
  refine Wl.box h fun H b h => Wl.lit0 (ty := 38) RFS rfl h fun H o h => ?_
  obtain ⟨N, hN⟩ : ∃ N : Nat, N = 2 ^ p.2.length := ⟨_, rfl⟩
  refine W.for_rule N (fun x st H => ∃ out, st = (out, .int .i64 (x : Nat), ()) ∧ Ab.Loc H0 [.grow RFS 38 out (oneL p.2.length p Z x), .box b [u1, u2], .lent RProblem [u1, u2] p, .lent RS [u2] p.2] H) ⟨o, rfl, h⟩ ?_
  rintro x st H J hx ⟨out, rfl, h⟩ hJ
  have hI : I64 ((x : Int) + 1) := by unfold I64; omega
  refine Wi.fieldAddr (Wl.get (b := b) (o := 1) h rfl (Wl.len (v := u2) (xs := p.2) h (Wi.convN (by omega) (Wi.shl1 (by omega) ?_))))
  rw [← hN]
  refine Wi.lssC (fun hlt => Wi.tru ?_) fun hge => Wi.fls ?_
  · have hxN : x < N := by omega
    have fin : ∀ H out', Ab.Loc H0 [.grow RFS 38 out' (oneL p.2.length p Z (x + 1)), .box b [u1, u2], .lent RProblem [u1, u2] p, .lent RS [u2] p.2] H → f28.j1 Q (.int .i64 (x : Nat)) (fun st => J st) out' H := fun H out' h => by
      unfold f28.j1
      exact Wi.add hI (hJ _ _ hxN ⟨out', rfl, h⟩)
    refine Wl.getA (b := b) h rfl (Wi.call (fn56 (h.rd (cs := [u1, u2])) hpb (by omega) fun H l => ?_))
    have h := h.to l
    cases hcb : covB p.2.length p x with
    | false =>
      simp only [gw]
      refine fin _ _ ?_
      rw [oneL_no hcb]
      exact h
    | true =>
      simp only [gw]
      have hD : det p.2.length (mAt (colL p.2.length p.1 x)) ≠ 0 := by
        unfold covB at hcb
        rw [Bool.and_eq_true] at hcb
        exact of_decide_eq_true hcb.1
      rw [oneL_yes hcb] at fin
      refine Wl.getA (b := b) h rfl (Wi.call (fn57 (h.rd (cs := [u1, u2])) hpb (by omega) hD fun H v14 f => ?_))
      rw [hZ x (by omega) hcb] at f
      have h := h.add f
      by_cases he : oneL p.2.length p Z x = []
      · rw [he] at h
        refine Wl.len (v := out) (xs := ([] : List (List Frac))) h ?_
        refine W.for_rule 1 (fun _ st H' => st = (.int .i64 0, ()) ∧ H' = H) ⟨rfl, rfl⟩ ?_
        rintro _ st H' J2 _ ⟨rfl, rfl⟩ _
        refine Wi.gtrC (fun g => absurd g (by decide)) fun _ => ?_
        simp only [gw]
        refine Wi.gtrC (fun g => absurd g (by decide)) fun _ => ?_
        simp only [gw]
        have hcu := (h.rd (cs := [v14]) (r := RFS)).one
        refine litOwn (j := 0) rfl h rfl hcu fun H v36 h => ?_
        have h : Ab.Loc H0 [.grow RFS 38 v36 [Z], .emp, .grow RFS 38 out [], .box b [u1, u2], .lent RProblem [u1, u2] p, .lent RS [u2] p.2] H := h
        refine (cut_emp (j := 2) h rfl fun w hw => ?_).1
        have h := h.empA RFS hw
        refine Wl.appendO (m := 1) (zs := []) (i := 1) (j := 0) rfl h (by decide) (by simp) fun H v38 h => ?_
        refine Wl.lit0 (ty := 38) RFS rfl h fun H v39 h => ?_
        have h : Ab.Loc H0 [.grow RFS 38 v39 [], .emp, .grow RFS 38 v38 [Z], .emp, .grow RFS 38 out [], .box b [u1, u2], .lent RProblem [u1, u2] p, .lent RS [u2] p.2] H := h
        refine (cut_emp (j := 4) h rfl fun w hw => ?_).2
        have h := h.empA RFS hw
        refine Wl.appendO (m := 1) (zs := []) (i := 1) (j := 0) rfl h (by decide) (by simp) fun H v41 h => ?_
        have h : Ab.Loc H0 [.emp, .grow RFS 38 v41 [], .emp, .grow RFS 38 v38 [Z], .emp, .grow RFS 38 out [], .box b [u1, u2], .lent RProblem [u1, u2] p, .lent RS [u2] p.2] H := h
        have h := h.asData (i := 3) rfl
        have h : Ab.Loc H0 [.emp, .grow RFS 38 v41 [], .emp, .data (Rd.slice RFS) [v38] [Z], .emp, .grow RFS 38 out [], .box b [u1, u2], .lent RProblem [u1, u2] p, .lent RS [u2] p.2] H := h
        refine Wl.appendO (m := 1) (zs := [Z]) (i := 1) (j := 3) rfl h (by decide) (by simp) fun H v42 h => ?_
        have h : Ab.Loc H0 [.emp, .grow RFS 38 v42 [Z], .emp, .emp, .emp, .grow RFS 38 out [], .box b [u1, u2], .lent RProblem [u1, u2] p, .lent RS [u2] p.2] H := h
        exact fin _ _ (((((h.cut 0).cut 1).cut 1).cut 1).cut 1)
      · have he : oneL p.2.length p Z x = [Z] := by
          unfold oneL at he ⊢
          split
          · rename_i g; rw [if_pos g] at he; exact absurd rfl he
          · rfl
        rw [he] at h
        refine Wl.len (v := out) (xs := [Z]) h ?_
        refine W.for_rule 1 (fun _ st H' => st = (.int .i64 1, ()) ∧ H' = H) ⟨rfl, rfl⟩ ?_
        rintro _ st H' J2 _ ⟨rfl, rfl⟩ _
        have hO : Has (Rd.slice RFS) H' [out] [Z] := h.rd (cs := [out])
        refine Wi.gtrC (fun _ => ?_) fun g => absurd (by decide) g
        simp only [gw]
        refine Wi.sub (by unfold I64; omega) (Wl.at1H (κ := .i64) rfl hO (i := 0) (by simp) fun u hu => ?_)
        refine Wi.call (fn58 (h.rd (cs := [v14])) hu ?_)
        simp only [gw]
        refine Wi.gtrC (fun _ => ?_) fun g => absurd (by decide) g
        simp only [gw]
        refine Wi.sub (by unfold I64; omega) (Wl.at1H (κ := .i64) rfl hO (i := 0) (by simp) fun u hu => ?_)
        refine Wi.call (fn58 hu (h.rd (cs := [v14])) ?_)
        simp only [gw]
        exact fin _ _ h.tl
  · have : x = N := by omega
    subst this
    rw [← hN] at hQ
    exact hQ _ _ ((h.asData (i := 0) rfl).ret (i := 0) rfl)

theorem oneL_some {n : Nat} {p : Prob} {Z : List Frac} {s x : Nat} (hs : s < x) (h : covB n p s = true) : oneL n p Z x = [Z] := by
  unfold oneL
  rw [if_neg fun g => by
    have : s ∈ (List.range x).filter (covB n p) := List.mem_filter.2 ⟨by simpa using hs, h⟩
    rw [g] at this
    cases this]

theorem fnP9 {H0 : Heap} {Q : Post} {cs : List Value} {p : Prob} {Z : List Frac} {s0 : Nat} (hr : Has RProblem H0 cs p) (hp : isProb p = true) (hZ : ∀ s, s < 2 ^ p.2.length → covB p.2.length p s = true → solF p.2.length p s = Z) (hs0 : s0 < 2 ^ p.2.length) (hc0 : covB p.2.length p s0 = true) (hz : ∀ a ∈ Z, isFr 1000000000 a = true)
    (hQ : ∀ H' w, Fresh (Rd.slice RFS) H0 [w] [Z] H' → Q (.tuple #[w, .int .i64 0]) H') : Runs Tryz.prog 9 #[.agg cs.toArray] H0 Q := by
  have hlen := hr.len
  have h := (Loc.start H0).lent hr
  refine f9.enter ?_
  unfold f9.w
  refine Wl.box h fun H b h => Wl.getA (b := b) h hlen ?_
  obtain ⟨_, q⟩ := h.rd (cs := cs) (r := RProblem)
  refine Wi.call (fn27 q fun H l => ?_)
  have h := h.to l
  rw [hp]
  simp only [gw]
  refine Wl.getA (b := b) h hlen (Wi.call (fnP28 (h.rd (cs := cs)) hp hZ fun H w f => ?_))
  rw [oneL_some hs0 hc0] at f
  have h := h.add f
  refine W.for_rule 1 (fun i st H => st = (.int .i64 (i : Nat), ()) ∧ Ab.Loc H0 [.data (Rd.slice RFS) [w] [Z], .box b cs, .lent RProblem cs p] H) ⟨rfl, h⟩ ?_
  rintro i st H J hi ⟨rfl, h⟩ hJ
  refine Wl.len (v := w) (xs := [Z]) h (Wi.lssC (fun hlt => Wi.tru ?_) fun hge => Wi.fls ?_)
  · have : i = 0 := by simp at hlt; omega
    subst this
    have hO : Has (Rd.slice RFS) H [w] [Z] := h.rd (cs := [w])
    refine Wl.at1H rfl hO (i := 0) (by simp) fun u hu => Wi.call (fn29 hz hu ?_)
    simp only [gw]
    exact Wi.neqC (fun g => absurd rfl g) fun _ => Wi.fls (Wi.add (by unfold I64; omega) (hJ _ _ (by omega) ⟨rfl, h⟩))
  · exact hQ _ _ (h.ret (i := 0) rfl)

end Go.Proofs.YtdmgomeogedjgaaGreat
