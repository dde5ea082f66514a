/- The contracts of CoverList, the program's and the reference's. No condition. -/
import Derived.Test.YtdmgomeogedjgaaGreatGVV
namespace Go.Proofs.YtdmgomeogedjgaaGreat
open Go.Ab

/- loop.example/g01343/impl.sets -/
def f46.j1 (Q : Post) (x_16 : Value) (I1 : St [6, 16] → Heap → Prop) (out_6' : Value) (H : Heap) : Prop :=
  W.bin .add x_16 (.int .i64 1) H fun v19 H =>
  I1 (out_6', v19, ()) H
def f46.l1 (Q : Post) (v6 : Value) (v1 : Value) (is_1 : Value) (I1 : St [6, 16] → Heap → Prop) (out_6 : Value) (x_16 : Value) (H : Heap) : Prop :=
  W.bin .lss x_16 v6 H fun v7 H =>
  W.cond v7 H
  (fun H => W.getN 2 v1 H fun v8 H =>
   W.call Tryz.prog (.func (.func 49) #[] #[]) #[v8, x_16] H fun v9 H =>
   W.extract 0 v9 H fun v10 H =>
   W.extract 1 v9 H fun v11 H =>
   W.extract 2 v9 H fun v12 H =>
   W.guarded v12 true (fun H k => k is_1 H) H fun v13 H =>
   W.guarded v12 true (fun H k => k v10 H) H fun v14 H =>
   W.guarded v12 true (fun H k => W.call Tryz.prog v13 #[v14] H k) H fun v15 H =>
   W.pick v12 v15 (.bool false) H fun v16 H =>
   W.cond v16 H
   (fun H => W.lit 1 [(.int .i64 0)] 2 [(0, 1, x_16)] H fun v17 H =>
    W.append 1 2 out_6 v17 H fun v18 H =>
    f46.j1 Q x_16 I1 v18 H)
   (fun H => f46.j1 Q x_16 I1 out_6 H))
  (fun H => Q (.tuple #[out_6, (.int .i64 0)]) H)
def f46.w (Q : Post) (p_0 : Value) (is_1 : Value) (H : Heap) : Prop :=
  W.box p_0 31 H fun v1 H =>
  W.getN 2 v1 H fun v2 H =>
  W.call Tryz.prog (.func (.func 89) #[] #[]) #[v2] H fun v3 H =>
  W.un .not v3 H fun v4 H =>
  W.cond v4 H
  (fun H => Q (.tuple #[(.slice none 0 0), (.int .i64 1)]) H)
  (fun H => W.getN 2 v1 H fun v5 H =>
   W.call Tryz.prog (.func (.func 90) #[] #[]) #[v5] H fun v6 H =>
   W.loop (S := St [6, 16]) (fun I1 s H => f46.l1 Q v6 v1 is_1 I1 s.1 s.2.1 H) ((.slice none 0 0), (.int .i64 0), ()) H)
theorem f46.enter {Q : Post} {p_0 : Value} {is_1 : Value} {H : Heap} (h : f46.w Q p_0 is_1 H) : Runs Tryz.prog 46 #[p_0, is_1] H Q :=
  fn_enter (ann := [(5, [6, 16])]) (by kernel_rfl) Tryz.func46 rfl (by kernel_rfl) h (by kernel_rfl)

/- loop.example/g01343/impl.FeasibleSets -/
def f21.w (Q : Post) (p_0 : Value) (H : Heap) : Prop :=
  W.box p_0 31 H fun v1 H =>
  W.getN 2 v1 H fun v2 H =>
  W.call Tryz.prog (.func (.func 46) #[] #[]) #[v2, (.func (.func 47) #[] #[])] H fun v3 H =>
  W.extract 0 v3 H fun v4 H =>
  W.extract 1 v3 H fun v5 H =>
  Q (.tuple #[v4, v5]) H
theorem f21.enter {Q : Post} {p_0 : Value} {H : Heap} (h : f21.w Q p_0 H) : Runs Tryz.prog 21 #[p_0] H Q :=
  fn_enter (ann := []) (by kernel_rfl) Tryz.func21 rfl (by kernel_rfl) h (by kernel_rfl)

/- loop.example/g01343/impl.CoverList -/
def f15.w (Q : Post) (p_0 : Value) (H : Heap) : Prop :=
  W.box p_0 31 H fun v1 H =>
  W.getN 2 v1 H fun v2 H =>
  W.call Tryz.prog (.func (.func 21) #[] #[]) #[v2] H fun v3 H =>
  W.extract 0 v3 H fun v4 H =>
  W.extract 1 v3 H fun v5 H =>
  Q (.tuple #[v4, v5]) H
theorem f15.enter {Q : Post} {p_0 : Value} {H : Heap} (h : f15.w Q p_0 H) : Runs Tryz.prog 15 #[p_0] H Q :=
  fn_enter (ann := []) (by kernel_rfl) Tryz.func15 rfl (by kernel_rfl) h (by kernel_rfl)

/- loop.example/g01343/spec.l10List -/
def f40.j1 (Q : Post) (s_4 : Value) (I1 : St [3, 4] → Heap → Prop) (out_3' : Value) (H : Heap) : Prop :=
  W.bin .add s_4 (.int .i64 1) H fun v16 H =>
  I1 (out_3', v16, ()) H
def f40.l1 (Q : Post) (v1 : Value) (I1 : St [3, 4] → Heap → Prop) (out_3 : Value) (s_4 : Value) (H : Heap) : Prop :=
  W.fieldAddr 1 v1 H fun v3 H =>
  W.get v3 H fun v4 H =>
  W.len v4 H fun v5 H =>
  W.conv .u64 v5 H fun v6 H =>
  W.bin .shl (.int .i64 1) v6 H fun v7 H =>
  W.bin .lss s_4 v7 H fun v8 H =>
  W.cond v8 H
  (fun H => W.getN 2 v1 H fun v9 H =>
   W.call Tryz.prog (.func (.func 81) #[] #[]) #[v9, s_4] H fun v10 H =>
   W.extract 0 v10 H fun v11 H =>
   W.extract 1 v10 H fun v12 H =>
   W.extract 2 v10 H fun v13 H =>
   W.cond v12 H
   (fun H => W.lit 1 [(.int .i64 0)] 2 [(0, 1, s_4)] H fun v14 H =>
    W.append 1 2 out_3 v14 H fun v15 H =>
    f40.j1 Q s_4 I1 v15 H)
   (fun H => f40.j1 Q s_4 I1 out_3 H))
  (fun H => Q out_3 H)
def f40.w (Q : Post) (p_0 : Value) (H : Heap) : Prop :=
  W.box p_0 31 H fun v1 H =>
  W.lit 0 [(.int .i64 0)] 2 [] H fun v2 H =>
  W.loop (S := St [3, 4]) (fun I1 s H => f40.l1 Q v1 I1 s.1 s.2.1 H) (v2, (.int .i64 0), ()) H
theorem f40.enter {Q : Post} {p_0 : Value} {H : Heap} (h : f40.w Q p_0 H) : Runs Tryz.prog 40 #[p_0] H Q :=
  fn_enter (ann := [(3, [3, 4])]) (by kernel_rfl) Tryz.func40 rfl (by kernel_rfl) h (by kernel_rfl)

/- loop.example/g01343/spec.CoverList -/
def f17.w (Q : Post) (p_0 : Value) (H : Heap) : Prop :=
  W.box p_0 31 H fun v1 H =>
  W.getN 2 v1 H fun v2 H =>
  W.call Tryz.prog (.func (.func 27) #[] #[]) #[v2] H fun v3 H =>
  W.un .not v3 H fun v4 H =>
  W.cond v4 H
  (fun H => Q (.tuple #[(.slice none 0 0), (.int .i64 1)]) H)
  (fun H => W.getN 2 v1 H fun v5 H =>
   W.call Tryz.prog (.func (.func 40) #[] #[]) #[v5] H fun v6 H =>
   Q (.tuple #[v6, (.int .i64 0)]) H)
theorem f17.enter {Q : Post} {p_0 : Value} {H : Heap} (h : f17.w Q p_0 H) : Runs Tryz.prog 17 #[p_0] H Q :=
  fn_enter (ann := []) (by kernel_rfl) Tryz.func17 rfl (by kernel_rfl) h (by kernel_rfl)


/-- A set whose cone covers the right side. -/
def covB (n : Nat) (p : Prob) (s : Nat) : Bool := decide (det n (mAt (colL n p.1 s)) ≠ 0) && (pointL n (colL n p.1 s) p.2).all (fun x => decide (0 ≤ x))

def covTo (n : Nat) (p : Prob) (x : Nat) : List Int := ((List.range x).filter (covB n p)).map fun (s : Nat) => (s : Int)
def covL (n : Nat) (p : Prob) : List Int := covTo n p (2 ^ n)

theorem covTo_in {n : Nat} {p : Prob} {x : Nat} (h : covB n p x = true) : covTo n p (x + 1) = covTo n p x ++ [(x : Int)] := by
  unfold covTo
  rw [List.range_succ, List.filter_append, List.map_append]
  simp [h]
theorem covTo_out {n : Nat} {p : Prob} {x : Nat} (h : covB n p x = false) : covTo n p (x + 1) = covTo n p x := by
  unfold covTo
  rw [List.range_succ, List.filter_append, List.map_append]
  simp [h]
theorem covTo_len (n : Nat) (p : Prob) (x : Nat) : (covTo n p x).length ≤ x := by
  have := List.length_filter_le (covB n p) (List.range x)
  simpa [covTo] using this

def cvRes (p : Prob) : List Int × Int := if isProb p = true then (covL p.2.length p, 0) else ([], 1)

theorem covB_of {n : Nat} {p : Prob} {s : Nat} (h : det n (mAt (colL n p.1 s)) ≠ 0) : covB n p s = (pointL n (colL n p.1 s) p.2).all (fun x => decide (0 ≤ x)) := by
  unfold covB
  rw [decide_eq_true h, Bool.true_and]
theorem covB_no {n : Nat} {p : Prob} {s : Nat} (h : det n (mAt (colL n p.1 s)) = 0) : covB n p s = false := by
  unfold covB
  rw [decide_eq_false (fun g => g h), Bool.false_and]

theorem fn46 {H0 : Heap} {Q : Post} {cs : List Value} {p : Prob} (hr : Has RProblem H0 cs p) (hQ : ∀ H' u, Fresh RS H0 [u] (cvRes p).1 H' → Q (.tuple #[u, .int .i64 (cvRes p).2]) H') : Runs Tryz.prog 46 #[.agg cs.toArray, .func (.func 47) #[] #[]] H0 Q := by
  obtain ⟨u1, u2, rfl, r1, r2⟩ := hasProb hr
  have h := ((Loc.start H0).lent r2).lent hr
  refine f46.enter (Wl.box h fun H b h => Wl.getA h rfl ?_)
  obtain ⟨_, q⟩ := h.rd (cs := [u1, u2])
  refine Wi.call (fn89 q fun H l => ?_)
  have h := h.to l
  cases hp : isProb p with
  | false =>
    simp only [gw]
    have := hQ H (.slice none 0 0)
    simp only [cvRes, hp] at this
    exact this (fresh_nil h.le)
  | true =>
  have hpb := PB.of hp
  have hn := hpb.n5
  have h32 := pow5 hn
  simp only [gw]
  refine Wl.getA h rfl (Wi.call (f90.enter (Wl.box h fun H b2 h => Wi.fieldAddr (Wl.get h rfl (Wl.len h (Wi.shl1 (by omega) ?_))))))
  have h := h.tl
  have hres : cvRes p = (covTo p.2.length p (2 ^ p.2.length), 0) := by simp only [cvRes, hp]; rfl
  rw [hres] at hQ
  generalize hN : 2 ^ p.2.length = N at *
  refine W.for_rule N (fun x st H => ∃ u, st = (u, .int .i64 (x : Nat), ()) ∧ Ab.Loc H0 [.grow Rd.int 2 u (covTo p.2.length p x), .box b [u1, u2], .lent RProblem [u1, u2] p, .lent RS [u2] p.2] H) ⟨_, rfl, h.nilG Rd.int 2⟩ ?_
  rintro x st H J hx ⟨u, rfl, h⟩ hJ
  refine Wi.lssC (fun hlt => Wi.tru ?_) fun hge => Wi.fls ?_
  · have hxN : x < N := by omega
    have hI : I64 ((x : Int) + 1) := by unfold I64; omega
    have cl := covTo_len p.2.length p x
    refine Wl.getA h rfl (Wi.call (fn49 (h.rd (cs := [u1, u2])) hpb (by omega) (fun hz H l => ?_) fun hnz H w f => ?_))
    · have h := h.to l
      simp only [gw]
      unfold f46.j1
      refine Wi.add hI (hJ _ _ hxN ⟨u, rfl, ?_⟩)
      rw [covTo_out (covB_no hz)]
      exact h
    · have h := h.add f
      simp only [gw]
      refine Wi.call (fn47 (h.rd (cs := [w])) fun H t l ht => ?_)
      have h := (h.to l).tl
      have hc : covB p.2.length p x = t := by
        rw [covB_of hnz, Bool.eq_iff_iff, ht, List.all_eq_true]
        simp
      cases t with
      | false =>
        simp only [gw]
        unfold f46.j1
        refine Wi.add hI (hJ _ _ hxN ⟨u, rfl, ?_⟩)
        rw [covTo_out hc]
        exact h
      | true =>
        simp only [gw]
        refine Wl.pushP (r := Rd.int) (x := (x : Int)) rfl rfl rfl (fun _ => ⟨rfl, rfl, by unfold I64; omega⟩) h (by omega) fun H u' h => ?_
        unfold f46.j1
        refine Wi.add hI (hJ _ _ hxN ⟨u', rfl, ?_⟩)
        rw [covTo_in hc]
        exact h
  · have : x = N := by omega
    subst this
    exact hQ _ _ ((h.asData (i := 0) rfl).ret (i := 0) rfl)

theorem fn21 {H0 : Heap} {Q : Post} {cs : List Value} {p : Prob} (hr : Has RProblem H0 cs p) (hQ : ∀ H' u, Fresh RS H0 [u] (cvRes p).1 H' → Q (.tuple #[u, .int .i64 (cvRes p).2]) H') : Runs Tryz.prog 21 #[.agg cs.toArray] H0 Q := by
  have hlen := hr.len
  have h := (Loc.start H0).lent hr
  refine f21.enter (Wl.box h fun H b h => Wl.getA h hlen (Wi.call (fn46 (h.rd (cs := cs)) fun H u f => ?_)))
  simp only [gw]
  exact hQ _ _ ((h.add f).ret (i := 0) rfl)

theorem fnU15 {H0 : Heap} {Q : Post} {cs : List Value} {p : Prob} (hr : Has RProblem H0 cs p) (hQ : ∀ H' u, Fresh RS H0 [u] (cvRes p).1 H' → Q (.tuple #[u, .int .i64 (cvRes p).2]) H') : Runs Tryz.prog 15 #[.agg cs.toArray] H0 Q := by
  have hlen := hr.len
  have h := (Loc.start H0).lent hr
  refine f15.enter (Wl.box h fun H b h => Wl.getA h hlen (Wi.call (fn21 (h.rd (cs := cs)) fun H u f => ?_)))
  simp only [gw]
  exact hQ _ _ ((h.add f).ret (i := 0) rfl)

theorem fn40 {H0 : Heap} {Q : Post} {cs : List Value} {p : Prob} {n : Nat} (hr : Has RProblem H0 cs p) (hpb : PB n p) (hQ : ∀ H' u, Fresh RS H0 [u] (covL n p) H' → Q u H') : Runs Tryz.prog 40 #[.agg cs.toArray] H0 Q := by
  obtain ⟨u1, u2, rfl, r1, r2⟩ := hasProb hr
  have hn := hpb.n5
  have hql := hpb.ql
  have h32 := pow5 hn
  refine f40.enter ?_
  unfold f40.w
  have h := ((Loc.start H0).lent r2).lent hr
  refine Wl.box h fun H b h => Wl.lit0 (ty := 2) Rd.int rfl h fun H u h => ?_
  unfold covL at hQ
  refine W.for_rule (2 ^ n) (fun x st H => ∃ u, st = (u, .int .i64 (x : Nat), ()) ∧ Ab.Loc H0 [.grow Rd.int 2 u (covTo n p x), .box b [u1, u2], .lent RProblem [u1, u2] p, .lent RS [u2] p.2] H) ⟨_, rfl, h⟩ ?_
  rintro x st H J hx ⟨u, rfl, h⟩ hJ
  refine Wi.fieldAddr (Wl.get h rfl (Wl.len h (Wi.convN (by omega) (Wi.shl1 (by omega) ?_))))
  rw [hql]
  generalize hN : 2 ^ n = N at *
  refine Wi.lssC (fun hlt => Wi.tru ?_) fun hge => Wi.fls ?_
  · have hxN : x < N := by omega
    have hI : I64 ((x : Int) + 1) := by unfold I64; omega
    have cl := covTo_len n p x
    refine Wl.getA h rfl (Wi.call (fn81 (h.rd (cs := [u1, u2])) hpb (by omega) (fun hz H l => ?_) fun hnz H l => ?_))
    · have h := h.to l
      simp only [gw]
      unfold f40.j1
      refine Wi.add hI (hJ _ _ hxN ⟨u, rfl, ?_⟩)
      rw [covTo_out (covB_no hz)]
      exact h
    · have h := h.to l
      simp only [gw]
      rw [← covB_of hnz]
      cases hc : covB n p x with
      | false =>
        simp only [gw]
        unfold f40.j1
        refine Wi.add hI (hJ _ _ hxN ⟨u, rfl, ?_⟩)
        rw [covTo_out hc]
        exact h
      | true =>
        simp only [gw]
        refine Wl.pushP (r := Rd.int) (x := (x : Int)) rfl rfl rfl (fun _ => ⟨rfl, rfl, by unfold I64; omega⟩) h (by omega) fun H u' h => ?_
        unfold f40.j1
        refine Wi.add hI (hJ _ _ hxN ⟨u', rfl, ?_⟩)
        rw [covTo_in hc]
        exact h
  · have : x = N := by omega
    subst this
    exact hQ _ _ ((h.asData (i := 0) rfl).ret (i := 0) rfl)

theorem fnU17 {H0 : Heap} {Q : Post} {cs : List Value} {p : Prob} (hr : Has RProblem H0 cs p) (hQ : ∀ H' u, Fresh RS H0 [u] (cvRes p).1 H' → Q (.tuple #[u, .int .i64 (cvRes p).2]) H') : Runs Tryz.prog 17 #[.agg cs.toArray] H0 Q := by
  have hlen := hr.len
  have h := (Loc.start H0).lent hr
  refine f17.enter (Wl.box h fun H b h => Wl.getA h hlen ?_)
  obtain ⟨_, q⟩ := h.rd (cs := cs)
  refine Wi.call (fn27 q fun H l => ?_)
  have h := h.to l
  cases hp : isProb p with
  | false =>
    simp only [gw]
    have := hQ H (.slice none 0 0)
    simp only [cvRes, hp] at this
    exact this (fresh_nil h.le)
  | true =>
    simp only [gw]
    have hres : cvRes p = (covL p.2.length p, 0) := by simp only [cvRes, hp]; rfl
    rw [hres] at hQ
    refine Wl.getA h hlen (Wi.call (fn40 (h.rd (cs := cs)) (PB.of hp) fun H u f => ?_))
    exact hQ _ _ ((h.add f).ret (i := 0) rfl)

end Go.Proofs.YtdmgomeogedjgaaGreat
