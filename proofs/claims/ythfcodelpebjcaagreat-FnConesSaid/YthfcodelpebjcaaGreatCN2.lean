/- The contract of the reference's CoverNumbers. No condition. -/
import Derived.Test.YthfcodelpebjcaaGreatCN1
namespace Go.Proofs.YthfcodelpebjcaaGreat
open Go.Ab

/- loop.example/g01343/spec.CoverNumbers -/
def f18.l4 (Q : Post) (v37 : Value) (code_10 : Value) (I2 : St [6, 10] → Heap → Prop) (I4 : St [6] → Heap → Prop) (out_6' : Value) (H : Heap) : Prop :=
  W.len out_6' H fun v38 H =>
  W.bin .leq v38 v37 H fun v39 H =>
  W.cond v39 H
  (fun H => W.lit 1 [(.int .i64 0)] 2 [(0, 1, (.int .i64 0))] H fun v40 H =>
   W.append 1 2 out_6' v40 H fun v41 H =>
   I4 (v41, ()) H)
  (fun H => W.indexAddr 1 out_6' v37 H fun v42 H =>
   W.get v42 H fun v43 H =>
   W.bin .add v43 (.int .i64 1) H fun v44 H =>
   W.indexAddr 1 out_6' v37 H fun v45 H =>
   W.put v45 v44 H fun _ H =>
   W.bin .add code_10 (.int .i64 1) H fun v46 H =>
   I2 (out_6', v46, ()) H)
def f18.l3 (Q : Post) (v1 : Value) (v21 : Value) (v9 : Value) (k_1 : Value) (code_10 : Value) (out_6 : Value) (I2 : St [6, 10] → Heap → Prop) (I3 : St [12, 13] → Heap → Prop) (left_12 : Value) (i_13 : Value) (H : Heap) : Prop :=
  W.fieldAddr 1 v1 H fun v22 H =>
  W.get v22 H fun v23 H =>
  W.len v23 H fun v24 H =>
  W.bin .lss i_13 v24 H fun v25 H =>
  W.cond v25 H
  (fun H => W.fieldAddr 1 v21 H fun v26 H =>
   W.get v26 H fun v27 H =>
   W.bin .rem left_12 v9 H fun v28 H =>
   W.bin .sub v28 k_1 H fun v29 H =>
   W.lit 1 [(.int .i64 0)] 2 [(0, 1, v29)] H fun v30 H =>
   W.append 1 2 v27 v30 H fun v31 H =>
   W.fieldAddr 1 v21 H fun v32 H =>
   W.put v32 v31 H fun _ H =>
   W.bin .quo left_12 v9 H fun v33 H =>
   W.bin .add i_13 (.int .i64 1) H fun v34 H =>
   I3 (v33, v34, ()) H)
  (fun H => W.getN 2 v21 H fun v35 H =>
   W.call Tryz.prog (.func (.func 47) #[] #[]) #[v35] H fun v36 H =>
   W.len v36 H fun v37 H =>
   W.loop (S := St [6]) (fun I4 s H => f18.l4 Q v37 code_10 I2 I4 s.1 H) (out_6, ()) H)
def f18.l2 (Q : Post) (all_8 : Value) (v1 : Value) (v9 : Value) (k_1 : Value) (I2 : St [6, 10] → Heap → Prop) (out_6 : Value) (code_10 : Value) (H : Heap) : Prop :=
  W.bin .lss code_10 all_8 H fun v16 H =>
  W.cond v16 H
  (fun H => W.fieldAddr 0 v1 H fun v17 H =>
   W.get v17 H fun v18 H =>
   W.lit 0 [(.int .i64 0)] 2 [] H fun v19 H =>
   W.build [(.slice none 0 0), (.slice none 0 0)] [(0, 1, v18), (1, 1, v19)] H fun v20 H =>
   W.new [(.slice none 0 0), (.slice none 0 0)] 27 H fun v21 H =>
   W.putN 2 v21 v20 H fun _ H =>
   W.loop (S := St [12, 13]) (fun I3 s H => f18.l3 Q v1 v21 v9 k_1 code_10 out_6 I2 I3 s.1 s.2.1 H) (code_10, (.int .i64 0), ()) H)
  (fun H => Q (.tuple #[out_6, (.int .i64 0)]) H)
def f18.l1 (Q : Post) (v1 : Value) (v9 : Value) (k_1 : Value) (v7 : Value) (I1 : St [8, 9] → Heap → Prop) (all_8 : Value) (i_9 : Value) (H : Heap) : Prop :=
  W.fieldAddr 1 v1 H fun v10 H =>
  W.get v10 H fun v11 H =>
  W.len v11 H fun v12 H =>
  W.bin .lss i_9 v12 H fun v13 H =>
  W.cond v13 H
  (fun H => W.bin .mul all_8 v9 H fun v14 H =>
   W.bin .add i_9 (.int .i64 1) H fun v15 H =>
   I1 (v14, v15, ()) H)
  (fun H => W.loop (S := St [6, 10]) (fun I2 s H => f18.l2 Q all_8 v1 v9 k_1 I2 s.1 s.2.1 H) (v7, (.int .i64 0), ()) H)
def f18.w (Q : Post) (p_0 : Value) (k_1 : Value) (H : Heap) : Prop :=
  W.box p_0 27 H fun v1 H =>
  W.getN 2 v1 H fun v2 H =>
  W.call Tryz.prog (.func (.func 46) #[] #[]) #[v2] H fun v3 H =>
  W.un .not v3 H fun v4 H =>
  W.cond v4 H
  (fun H => Q (.tuple #[(.slice none 0 0), (.int .i64 1)]) H)
  (fun H => W.call Tryz.prog (.func (.func 65) #[] #[]) #[k_1, (.int .i64 1), (.int .i64 2)] H fun v5 H =>
   W.un .not v5 H fun v6 H =>
   W.cond v6 H
   (fun H => Q (.tuple #[(.slice none 0 0), (.int .i64 2)]) H)
   (fun H => W.lit 0 [(.int .i64 0)] 2 [] H fun v7 H =>
    W.bin .mul (.int .i64 2) k_1 H fun v8 H =>
    W.bin .add v8 (.int .i64 1) H fun v9 H =>
    W.loop (S := St [8, 9]) (fun I1 s H => f18.l1 Q v1 v9 k_1 v7 I1 s.1 s.2.1 H) ((.int .i64 1), (.int .i64 0), ()) H))
theorem f18.enter {Q : Post} {p_0 : Value} {k_1 : Value} {H : Heap} (h : f18.w Q p_0 k_1 H) : Runs Tryz.prog 18 #[p_0, k_1] H Q :=
  fn_enter (ann := [(7, [8, 9]), (11, [6, 10]), (15, [12, 13]), (20, [6])]) (by kernel_rfl) Tryz.func18 rfl (by kernel_rfl) h (by kernel_rfl)


theorem vecL_take {side : Nat} {k : Int} : ∀ (n t i : Nat) (hi : i < n), (vecL side k n t)[i]'(by rw [vecL_len]; exact hi) = ((t / side ^ i % side : Nat) : Int) - k
  | 0, _, _, hi => by omega
  | n + 1, t, 0, _ => by simp [vecL]
  | n + 1, t, i + 1, hi => by
    simp only [vecL, List.getElem_cons_succ]
    rw [vecL_take n (t / side) i (by omega), Nat.div_div_eq_div_mul, Nat.pow_succ, Nat.mul_comm side]

theorem hasPair {H : Heap} {u1 u2 : Value} {p : Prob} (h1 : Has RSS H [u1] p.1) (h2 : Has RS H [u2] p.2) : Has RProblem H [u1, u2] p := by
  obtain ⟨b1, h1⟩ := h1
  obtain ⟨b2, h2⟩ := h2
  exact ⟨b1 ++ b2, b1, b2, [u1], [u2], rfl, rfl, h1, h2⟩

theorem fn18 {H0 : Heap} {Q : Post} {cs : List Value} {p : Prob} {k : Int} (hr : Has RProblem H0 cs p) (_ : I64 k) (_ : wProblem p ≤ 1048576)
    (hQ : ∀ H' u, Fresh RS H0 [u] (cnRes p k).1 H' → Q (.tuple #[u, .int .i64 (cnRes p k).2]) H') : Runs Tryz.prog 18 #[.agg cs.toArray, .int .i64 k] H0 Q := by
  obtain ⟨u1, u2, rfl, r1, r2⟩ := hasProb hr
  have hz : ∀ H c, H0.Le H → cnRes p k = ([], c) → Q (.tuple #[.slice none 0 0, .int .i64 c]) H := fun H c l e => by
    have := hQ H (.slice none 0 0) (by rw [e]; exact fresh_nil l)
    rw [e] at this
    exact this
  have h := (((Loc.start H0).lent r1).lent r2).lent hr
  refine f18.enter (Wl.box h fun H b h => Wl.getA h rfl ?_)
  obtain ⟨_, q⟩ := h.rd (cs := [u1, u2])
  refine Wi.call (fn46 q fun H l => ?_)
  have h := h.to l
  cases hp : isProb p with
  | false =>
    simp only [gw]
    exact hz _ _ h.le (by unfold cnRes; rw [hp]; rfl)
  | true =>
  have hpb := PB.of hp
  have hn := hpb.n5
  have h32 := pow5 hn
  simp only [gw]
  refine Wi.call (fn65 ?_)
  cases hin : inR 1 2 k with
  | false =>
    simp only [gw]
    exact hz _ _ h.le (by unfold cnRes; rw [hp, hin]; rfl)
  | true =>
  have hk := inR_iff.1 hin
  simp only [gw]
  obtain ⟨side, hside⟩ : ∃ side : Nat, (side : Int) = 2 * k + 1 := ⟨(2 * k + 1).toNat, by omega⟩
  have hse : (2 * k + 1).toNat = side := by omega
  have hres : cnRes p k = (cnL (cntC p.2.length p.1 side k) (side ^ p.2.length) (cnM (cntC p.2.length p.1 side k) (side ^ p.2.length)), 0) := by
    unfold cnRes
    rw [if_pos hp, if_pos hin, hse]
  have hcd : ∀ c, cntC p.2.length p.1 side k c = (covL p.2.length (p.1, vecL side k p.2.length c)).length := fun _ => rfl
  have hcl : ∀ c, cntC p.2.length p.1 side k c ≤ 32 := fun c => Nat.le_trans (cntC_le _ _ _ _ c) h32
  have hql := hpb.ql
  have hsq := hpb.sq
  have hm20 := hpb.m
  have hn0 := hpb.n0
  generalize hnn : p.2.length = n at *
  generalize hf : cntC n p.1 side k = f at *
  have hML := cnM_le hcl
  refine Wl.lit0 (ty := 2) Rd.int rfl h fun H o h => Wi.mul (by unfold I64; omega) (Wi.add (by unfold I64; omega) ?_)
  rw [← hside]
  have hpw : ∀ i, i ≤ n → side ^ i ≤ 3125 := fun i hi => by
    have h1 : side ^ i ≤ 5 ^ i := Nat.pow_le_pow_left (by omega) i
    have h2 : 5 ^ i ≤ 5 ^ 5 := Nat.pow_le_pow_right (by decide) (by omega)
    omega
  refine W.for_rule n (fun i st H' => H' = H ∧ st = (.int .i64 ((side ^ i : Nat) : Int), .int .i64 (i : Nat), ())) ⟨rfl, rfl⟩ ?_
  rintro i st H' J hi ⟨rfl, rfl⟩ hJ
  refine Wi.fieldAddr (Wl.get h rfl (Wl.len h ?_))
  rw [hnn]
  refine Wi.lssC (fun hlt => Wi.tru ?_) fun hge => Wi.fls ?_
  · have hin' : i < n := by omega
    have e : ((side ^ i : Nat) : Int) * (side : Int) = ((side ^ (i + 1) : Nat) : Int) := by rw [Nat.pow_succ, Int.natCast_mul]
    have := hpw (i + 1) (by omega)
    refine Wi.mul (by rw [e]; unfold I64; omega) ?_
    rw [e]
    exact Wi.add (by unfold I64; omega) (hJ _ _ hin' ⟨rfl, rfl⟩)
  have hie : i = n := by omega
  rw [hie]
  have hT5 := hpw n (Nat.le_refl _)
  generalize hTT : side ^ n = T at *
  refine W.for_rule T (fun t st H => ∃ o, st = (o, .int .i64 (t : Nat), ()) ∧ Ab.Loc H0 [.grow Rd.int 2 o (cnL f t (cnM f t)), .box b [u1, u2], .lent RProblem [u1, u2] p, .lent RS [u2] p.2, .lent RSS [u1] p.1] H) ⟨_, rfl, h⟩ ?_
  rintro t st H J ht ⟨o, rfl, h⟩ hJ
  refine Wi.lssC (fun hlt => Wi.tru ?_) fun hge => Wi.fls ?_
  · have htT : t < T := by omega
    have hI : I64 ((t : Int) + 1) := by unfold I64; omega
    have hvl := vecL_len side k n t
    have hva := vecL_abs hside hk n t
    refine Wi.fieldAddr0 (Wl.get h rfl (Wl.lit0 (ty := 2) Rd.int rfl h fun H q h => ?_))
    have k1 := h.rd (cs := [u1])
    have k2 := h.rd (cs := [q])
    refine Wi.build (cells := [u1, q]) (by simp [fillA, k1.one, k2.one]) (Wl.new h fun H b21 h => Wl.putA h rfl rfl (by
      have e1 := k1.cell
      have e2 := k2.cell
      simp only [List.all_cons, List.all_nil, Bool.and_true] at e1 e2 ⊢
      rw [e1, e2]
      rfl) fun H h => ?_)
    refine W.for_rule n (fun i st H => ∃ q, st = (.int .i64 ((t / side ^ i : Nat) : Int), .int .i64 (i : Nat), ()) ∧ Ab.Loc H0 [.box b21 [u1, q], .grow Rd.int 2 q ((vecL side k n t).take i), .grow Rd.int 2 o (cnL f t (cnM f t)), .box b [u1, u2], .lent RProblem [u1, u2] p, .lent RS [u2] p.2, .lent RSS [u1] p.1] H) ⟨_, by simp; rfl, by simpa using h⟩ ?_
    rintro i st H J3 hi3 ⟨q, rfl, h⟩ hJ3
    refine Wi.fieldAddr (Wl.get h rfl (Wl.len h ?_))
    rw [hnn]
    refine Wi.lssC (fun hlt3 => Wi.tru ?_) fun hge3 => Wi.fls ?_
    · have hin' : i < n := by omega
      have hiv : i < (vecL side k n t).length := by omega
      have hvi := vecL_take (side := side) (k := k) n t i hin'
      have hle : t / side ^ i ≤ t := Nat.div_le_self _ _
      have hlm : t / side ^ i % side < side := Nat.mod_lt _ (by omega)
      have er : ((t / side ^ i : Nat) : Int).tmod (side : Int) = ((t / side ^ i % side : Nat) : Int) := rfl
      have eq : ((t / side ^ i : Nat) : Int).tdiv (side : Int) = ((t / side ^ (i + 1) : Nat) : Int) := by
        rw [Nat.pow_succ, ← Nat.div_div_eq_div_mul]
        rfl
      have hle2 : t / side ^ (i + 1) ≤ t := Nat.div_le_self _ _
      obtain ⟨dg, hdg⟩ : ∃ dg, dg = t / side ^ i % side := ⟨_, rfl⟩
      rw [← hdg] at hvi hlm er
      have hi1 : I64 ((dg : Nat) : Int) := by unfold I64; omega
      have hi2 : I64 (((dg : Nat) : Int) - k) := by unfold I64; omega
      have hi3 : I64 ((t / side ^ (i + 1) : Nat) : Int) := i64N hle2 (by omega)
      refine Wi.fieldAddr (Wl.get h rfl (Wi.rem (by omega) (by rw [er]; exact hi1) ?_))
      rw [er]
      refine Wi.sub hi2 ?_
      rw [← hvi]
      have hvb := hva _ (List.getElem_mem hiv)
      refine Wl.pushP (r := Rd.int) (x := (vecL side k n t)[i]) rfl rfl rfl (fun _ => ⟨rfl, rfl, by unfold I64; omega⟩) h (i := 1) (by simp; omega) fun H q' h => ?_
      simp only [List.set_cons_succ, List.set_cons_zero] at h
      refine Wi.fieldAddr (Wl.put h (h.rd (cs := [q'])).cell1 (by simp) fun H h => Wi.quo (by omega) (by rw [eq]; exact hi3) ?_)
      rw [eq]
      refine Wi.add (by unfold I64; omega) (hJ3 _ _ hin' ⟨q', rfl, ?_⟩)
      rw [List.take_succ_eq_append_getElem hiv]
      exact h
    · have hie : i = n := by omega
      rw [hie, List.take_of_length_le (show (vecL side k n t).length ≤ n by omega)] at h
      have hpr : Has RProblem H [u1, q] (p.1, vecL side k n t) := hasPair (h.rd (cs := [u1])) (h.rd (cs := [q]))
      have hpb2 : PB n (p.1, vecL side k n t) := ⟨hsq, hvl, hn0, hn, hm20, fun e he => by have := (hva e he).1; omega⟩
      refine Wl.getA h rfl (Wi.call (fn47 (n := n) hpr hpb2 fun H u f3 => ?_))
      have h := h.add f3
      refine Wl.len h ?_
      rw [← hcd]
      have hft := hcl t
      have hMt := hML t
      refine W.for_rule (f t + 1 - cnM f t) (fun j st H => ∃ o, st = (o, ()) ∧ Ab.Loc H0 [.grow Rd.int 2 o (cnL f t (cnM f t + j)), .box b [u1, u2], .lent RProblem [u1, u2] p, .lent RS [u2] p.2, .lent RSS [u1] p.1] H) ⟨o, rfl, h.tl.tl.tl⟩ ?_
      rintro j st H J4 hj4 ⟨o, rfl, h⟩ hJ4
      have hol := cnL_len f t (cnM f t + j)
      refine Wl.len h ?_
      rw [hol]
      refine Wi.leqC (fun hle => Wi.tru ?_) fun hgt => Wi.fls ?_
      · refine Wl.pushP (r := Rd.int) (x := 0) rfl rfl rfl (fun _ => ⟨rfl, rfl, by unfold I64; omega⟩) h (by omega) fun H o' h => hJ4 _ _ (by omega) ⟨o', rfl, ?_⟩
        rw [← Nat.add_assoc, ← cnL_push (by omega)]
        exact h
      · have hcl2 : f t < (cnL f t (cnM f t + j)).length := by omega
        have hcb := cnH_le f t (f t)
        have hcp := cnH_nonneg f t (f t)
        have hset := cnL_step hcl2
        rw [cnL_at hcl2] at hset
        refine Wl.atInt h hcl2 fun _ => ?_
        rw [cnL_at hcl2]
        refine Wi.add (by unfold I64; omega) (Wl.setG h hcl2 (by unfold I64; omega) fun H h => Wi.add hI (hJ _ _ htT ⟨o, rfl, ?_⟩))
        rw [hset] at h
        have eM : cnM f (t + 1) = cnM f t + j := by
          show max (cnM f t) (f t + 1) = _
          omega
        rw [eM]
        exact h
  · have : t = T := by omega
    subst this
    have := hQ H o (by rw [hres]; exact (h.asData (i := 0) rfl).ret (i := 0) rfl)
    rw [hres] at this
    exact this

end Go.Proofs.YthfcodelpebjcaaGreat
