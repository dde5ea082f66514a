/- The contracts of DegreeAt, the program's and the reference's. No condition. -/
import Derived.Test.YthfcodelpebjcaaGreatCV1
import Derived.Test.YthfcodelpebjcaaGreatX1
import Derived.Test.YthfcodelpebjcaaGreatX2
import Derived.Test.YthfcodelpebjcaaGreatD7
import Derived.Test.YthfcodelpebjcaaGreatZabG9
namespace Go.Proofs.YthfcodelpebjcaaGreat
open Go.Ab

/- loop.example/g01343/impl.DegreeAt -/
def f14.l1 (Q : Post) (v7 : Value) (v4 : Value) (v1 : Value) (I1 : St [6, 22] → Heap → Prop) (degree_6 : Value) (x_22 : Value) (H : Heap) : Prop :=
  W.bin .lss x_22 v7 H fun v8 H =>
  W.cond v8 H
  (fun H => W.indexAddr 1 v4 x_22 H fun v9 H =>
   W.get v9 H fun v10 H =>
   W.getN 2 v1 H fun v11 H =>
   W.call Tryz.prog (.func (.func 40) #[] #[]) #[v11, v10] H fun v12 H =>
   W.extract 0 v12 H fun v13 H =>
   W.extract 1 v12 H fun v14 H =>
   W.extract 2 v12 H fun v15 H =>
   W.call Tryz.prog (.func (.func 48) #[] #[]) #[v13, (.int .i64 0)] H fun v16 H =>
   W.cond v16 H
   (fun H => Q (.tuple #[(.int .i64 0), (.int .i64 5)]) H)
   (fun H => W.fieldAddr 0 v1 H fun v17 H =>
    W.get v17 H fun v18 H =>
    W.call Tryz.prog (.func (.func 50) #[] #[]) #[v18, v10] H fun v19 H =>
    W.call Tryz.prog (.func (.func 49) #[] #[]) #[v19] H fun v20 H =>
    W.bin .add degree_6 v20 H fun v21 H =>
    W.bin .add x_22 (.int .i64 1) H fun v22 H =>
    I1 (v21, v22, ()) H))
  (fun H => Q (.tuple #[degree_6, (.int .i64 0)]) H)
def f14.w (Q : Post) (p_0 : Value) (H : Heap) : Prop :=
  W.box p_0 27 H fun v1 H =>
  W.getN 2 v1 H fun v2 H =>
  W.call Tryz.prog (.func (.func 21) #[] #[]) #[v2] H fun v3 H =>
  W.extract 0 v3 H fun v4 H =>
  W.extract 1 v3 H fun v5 H =>
  W.bin .neq v5 (.int .i64 0) H fun v6 H =>
  W.cond v6 H
  (fun H => Q (.tuple #[(.int .i64 0), v5]) H)
  (fun H => W.len v4 H fun v7 H =>
   W.loop (S := St [6, 22]) (fun I1 s H => f14.l1 Q v7 v4 v1 I1 s.1 s.2.1 H) ((.int .i64 0), (.int .i64 0), ()) H)
theorem f14.enter {Q : Post} {p_0 : Value} {H : Heap} (h : f14.w Q p_0 H) : Runs Tryz.prog 14 #[p_0] H Q :=
  fn_enter (ann := [(6, [6, 22])]) (by kernel_rfl) Tryz.func14 rfl (by kernel_rfl) h (by kernel_rfl)

/- loop.example/g01343/spec.DegreeAt -/
def f15.j1 (Q : Post) (i_6 : Value) (I1 : St [5, 6] → Heap → Prop) (sum_5' : Value) (H : Heap) : Prop :=
  W.bin .add i_6 (.int .i64 1) H fun v25 H =>
  I1 (sum_5', v25, ()) H
def f15.l1 (Q : Post) (v6 : Value) (v1 : Value) (I1 : St [5, 6] → Heap → Prop) (sum_5 : Value) (i_6 : Value) (H : Heap) : Prop :=
  W.len v6 H fun v7 H =>
  W.bin .lss i_6 v7 H fun v8 H =>
  W.cond v8 H
  (fun H => W.getN 2 v1 H fun v9 H =>
   W.indexAddr 1 v6 i_6 H fun v10 H =>
   W.get v10 H fun v11 H =>
   W.callQ Tryz.prog (.func (.func 43) #[] #[]) #[v9, v11] H fun v12 H =>
   W.extract 0 v12 H fun v13 H =>
   W.extract 1 v12 H fun v14 H =>
   W.extract 2 v12 H fun v15 H =>
   W.un .not v15 H fun v16 H =>
   W.cond v16 H
   (fun H => Q (.tuple #[(.int .i64 0), (.int .i64 5)]) H)
   (fun H => W.fieldAddr 0 v1 H fun v17 H =>
    W.get v17 H fun v18 H =>
    W.indexAddr 1 v6 i_6 H fun v19 H =>
    W.get v19 H fun v20 H =>
    W.callQ Tryz.prog (.func (.func 52) #[] #[]) #[v18, v20] H fun v21 H =>
    W.callQ Tryz.prog (.func (.func 51) #[] #[]) #[v21] H fun v22 H =>
    W.bin .gtr v22 (.int .i64 0) H fun v23 H =>
    W.cond v23 H
    (fun H => W.bin .add sum_5 (.int .i64 1) H fun v24 H =>
     f15.j1 Q i_6 I1 v24 H)
    (fun H => W.bin .sub sum_5 (.int .i64 1) H fun v26 H =>
     f15.j1 Q i_6 I1 v26 H)))
  (fun H => Q (.tuple #[sum_5, (.int .i64 0)]) H)
def f15.w (Q : Post) (p_0 : Value) (H : Heap) : Prop :=
  W.box p_0 27 H fun v1 H =>
  W.getN 2 v1 H fun v2 H =>
  W.call Tryz.prog (.func (.func 46) #[] #[]) #[v2] H fun v3 H =>
  W.un .not v3 H fun v4 H =>
  W.cond v4 H
  (fun H => Q (.tuple #[(.int .i64 0), (.int .i64 1)]) H)
  (fun H => W.getN 2 v1 H fun v5 H =>
   W.call Tryz.prog (.func (.func 47) #[] #[]) #[v5] H fun v6 H =>
   W.loop (S := St [5, 6]) (fun I1 s H => f15.l1 Q v6 v1 I1 s.1 s.2.1 H) ((.int .i64 0), (.int .i64 0), ()) H)
theorem f15.enter {Q : Post} {p_0 : Value} {H : Heap} (h : f15.w Q p_0 H) : Runs Tryz.prog 15 #[p_0] H Q :=
  fn_enter (ann := [(5, [5, 6])]) (by kernel_rfl) Tryz.func15 rfl (by kernel_rfl) h (by kernel_rfl)


def covN (n : Nat) (p : Prob) : List Nat := (List.range (2 ^ n)).filter (covB n p)
theorem covL_map (n : Nat) (p : Prob) : covL n p = (covN n p).map fun (s : Nat) => (s : Int) := rfl
theorem covN_len (n : Nat) (p : Prob) : (covN n p).length ≤ 2 ^ n := by
  have := List.length_filter_le (covB n p) (List.range (2 ^ n))
  simpa [covN] using this

theorem covN_at {n : Nat} {p : Prob} {i : Nat} (h : i < (covN n p).length) : (covN n p)[i] < 2 ^ n ∧ covB n p (covN n p)[i] = true := by
  have := List.mem_filter.1 (List.getElem_mem h)
  exact ⟨by simpa using this.1, this.2⟩

theorem covB_split {n : Nat} {p : Prob} {s : Nat} (h : covB n p s = true) : det n (mAt (colL n p.1 s)) ≠ 0 ∧ (pointL n (colL n p.1 s) p.2).all (fun x => decide (0 ≤ x)) = true := by
  unfold covB at h
  rw [Bool.and_eq_true] at h
  exact ⟨of_decide_eq_true h.1, h.2⟩

/-- One of its point's numbers is 0. -/
def zeroB (n : Nat) (p : Prob) (s : Nat) : Bool := (pointL n (colL n p.1 s) p.2).contains 0

theorem zeroB_inner {n : Nat} {p : Prob} {s : Nat} (h : (pointL n (colL n p.1 s) p.2).all (fun x => decide (0 ≤ x)) = true) : (pointL n (colL n p.1 s) p.2).all (fun x => decide (0 < x)) = !zeroB n p s := by
  unfold zeroB
  generalize pointL n (colL n p.1 s) p.2 = l at *
  rw [List.all_eq_true] at h
  rw [Bool.eq_iff_iff, List.all_eq_true]
  simp only [decide_eq_true_eq] at h
  simp only [decide_eq_true_eq, Bool.not_eq_true', List.contains_eq_mem, decide_eq_false_iff_not]
  constructor
  · intro g hm
    have := g 0 hm
    omega
  · intro g x hx
    have h1 := h x hx
    have h2 : x ≠ 0 := fun e => g (e ▸ hx)
    omega

def degF (n : Nat) (p : Prob) (s : Nat) : Int := sgI (minorL n p.1 s)
def degTo (n : Nat) (p : Prob) (i : Nat) : Int := (((covN n p).take i).map (degF n p)).sum

theorem degTo_succ {n : Nat} {p : Prob} {i : Nat} (h : i < (covN n p).length) : degTo n p (i + 1) = degTo n p i + degF n p (covN n p)[i] := by
  unfold degTo
  rw [List.take_succ_eq_append_getElem h, List.map_append, List.sum_append]
  simp

theorem degTo_abs {n : Nat} {p : Prob} : ∀ {i : Nat}, i ≤ (covN n p).length → (degTo n p i).natAbs ≤ i
  | 0, _ => by simp [degTo]
  | i + 1, h => by
    rw [degTo_succ (by omega)]
    have h1 := degTo_abs (n := n) (p := p) (i := i) (by omega)
    have h2 := sgI_abs (minorL n p.1 (covN n p)[i])
    unfold degF
    omega

def degRes (p : Prob) : Int × Int := if isProb p = true then (if (covN p.2.length p).any (zeroB p.2.length p) = true then (0, 5) else (degTo p.2.length p (covN p.2.length p).length, 0)) else (0, 1)

theorem deg_bad {p : Prob} (hp : isProb p = true) {i : Nat} (hi : i < (covN p.2.length p).length) (h : zeroB p.2.length p (covN p.2.length p)[i] = true) : degRes p = (0, 5) := by
  unfold degRes
  rw [if_pos hp, if_pos (List.any_eq_true.2 ⟨_, List.getElem_mem hi, h⟩)]

theorem deg_good {p : Prob} (hp : isProb p = true) (h : ∀ i (hi : i < (covN p.2.length p).length), zeroB p.2.length p (covN p.2.length p)[i] = false) : degRes p = (degTo p.2.length p (covN p.2.length p).length, 0) := by
  unfold degRes
  rw [if_pos hp, if_neg]
  intro g
  obtain ⟨s, hs, hz⟩ := List.any_eq_true.1 g
  obtain ⟨i, hi, rfl⟩ := List.mem_iff_getElem.1 hs
  rw [h i hi] at hz
  cases hz

theorem fn14 {H0 : Heap} {Q : Post} {cs : List Value} {p : Prob} (hr : Has RProblem H0 cs p) (_ : wProblem p ≤ 1048576) (hQ : ∀ H', H0.Le H' → Q (.tuple #[.int .i64 (degRes p).1, .int .i64 (degRes p).2]) H') : Runs Tryz.prog 14 #[.agg cs.toArray] H0 Q := by
  obtain ⟨u1, u2, rfl, r1, r2⟩ := hasProb hr
  have hz : ∀ H a c, H0.Le H → degRes p = (a, c) → Q (.tuple #[.int .i64 a, .int .i64 c]) H := fun H a c l e => by
    have := hQ H l
    rw [e] at this
    exact this
  have h := ((Loc.start H0).lent r1).lent hr
  refine f14.enter (Wl.box h fun H b h => Wl.getA h rfl (Wi.call (fn21 (h.rd (cs := [u1, u2])) fun H u f => ?_)))
  simp only [gw]
  have h := h.add f
  cases hp : isProb p with
  | false =>
    have e : cvRes p = ([], 1) := by unfold cvRes; rw [hp]; rfl
    rw [e]
    exact Wi.neqC (fun _ => Wi.tru (hz _ _ _ h.le (by unfold degRes; rw [hp]; rfl))) fun e => absurd e (by decide)
  | true =>
  have hpb := PB.of hp
  have hn := hpb.n5
  have h32 := pow5 hn
  have e : cvRes p = (covL p.2.length p, 0) := by unfold cvRes; rw [hp]; rfl
  rw [e] at h
  rw [e]
  dsimp only at h ⊢
  refine Wi.neqC (fun g => absurd rfl g) fun _ => Wi.fls (Wl.len h ?_)
  have hl : (covL p.2.length p).length = (covN p.2.length p).length := by rw [covL_map, List.length_map]
  have hcl := covN_len p.2.length p
  refine W.for_rule (covN p.2.length p).length (fun x st H => st = (.int .i64 (degTo p.2.length p x), .int .i64 (x : Nat), ()) ∧ Ab.Loc H0 [.data RS [u] (covL p.2.length p), .box b [u1, u2], .lent RProblem [u1, u2] p, .lent RSS [u1] p.1] H ∧ ∀ i (hi : i < (covN p.2.length p).length), i < x → zeroB p.2.length p (covN p.2.length p)[i] = false) ⟨rfl, h, fun i _ hi => by omega⟩ ?_
  rintro x st H J hx ⟨rfl, h, hok⟩ hJ
  refine Wi.lssC (fun hlt => Wi.tru ?_) fun hge => Wi.fls ?_
  · have hxl : x < (covN p.2.length p).length := by omega
    obtain ⟨s1, s2⟩ := covN_at hxl
    obtain ⟨hD, _⟩ := covB_split s2
    have ev : (covL p.2.length p)[x]'(by omega) = ((covN p.2.length p)[x] : Nat) := by simp [covL_map]
    refine Wl.atInt h (i := x) (by omega) fun _ => ?_
    rw [ev]
    refine Wl.getA h rfl (Wi.call (fn40 (h.rd (cs := [u1, u2])) hpb (by omega) (fun g => absurd g hD) fun _ H w f => ?_))
    simp only [gw]
    have h := h.add f
    obtain ⟨_, q⟩ := h.rd (cs := [w])
    refine Wi.call (fn48 q ?_)
    have h := h.tl
    show W.cond (.bool (zeroB p.2.length p (covN p.2.length p)[x])) _ _ _
    cases hzb : zeroB p.2.length p (covN p.2.length p)[x] with
    | true =>
      simp only [gw]
      exact hz _ _ _ h.le (deg_bad hp hxl hzb)
    | false =>
      simp only [gw]
      have b1 := degTo_abs (n := p.2.length) (p := p) (i := x + 1) (by omega)
      rw [degTo_succ hxl] at b1
      refine Wi.fieldAddr0 (Wl.get h rfl (Wi.call (fn50 (h.rd (cs := [u1])) hpb.sq hn (fun r c => Nat.le_trans (hpb.m r c) (by decide)) (by omega) fun H l => ?_)))
      have h := h.to l
      refine Wi.call (fn49 (Wi.add (i64A b1 (by omega)) (Wi.add (by unfold I64; omega) (hJ _ _ hxl ⟨?_, h, fun i hi hix => ?_⟩))))
      · rw [degTo_succ hxl]; rfl
      · by_cases e : i = x
        · subst e; exact hzb
        · exact hok i hi (by omega)
  · have : x = (covN p.2.length p).length := by omega
    subst this
    exact hz _ _ _ h.le (deg_good hp fun i hi => hok i hi hi)

theorem fn15 {H0 : Heap} {Q : Post} {cs : List Value} {p : Prob} (hr : Has RProblem H0 cs p) (_ : wProblem p ≤ 1048576) (hQ : ∀ H', H0.Le H' → Q (.tuple #[.int .i64 (degRes p).1, .int .i64 (degRes p).2]) H') : Runs Tryz.prog 15 #[.agg cs.toArray] H0 Q := by
  obtain ⟨u1, u2, rfl, r1, r2⟩ := hasProb hr
  have hz : ∀ H a c, H0.Le H → degRes p = (a, c) → Q (.tuple #[.int .i64 a, .int .i64 c]) H := fun H a c l e => by
    have := hQ H l
    rw [e] at this
    exact this
  have h := ((Loc.start H0).lent r1).lent hr
  refine f15.enter (Wl.box h fun H b h => Wl.getA h rfl ?_)
  obtain ⟨_, q⟩ := h.rd (cs := [u1, u2])
  refine Wi.call (fn46 q fun H l => ?_)
  have h := h.to l
  cases hp : isProb p with
  | false =>
    simp only [gw]
    exact hz _ _ _ h.le (by unfold degRes; rw [hp]; rfl)
  | true =>
  have hpb := PB.of hp
  have hn := hpb.n5
  have h32 := pow5 hn
  simp only [gw]
  refine Wl.getA h rfl (Wi.call (fn47 (h.rd (cs := [u1, u2])) hpb fun H u f => ?_))
  have h := h.add f
  have hl : (covL p.2.length p).length = (covN p.2.length p).length := by rw [covL_map, List.length_map]
  have hcl := covN_len p.2.length p
  refine W.for_rule (covN p.2.length p).length (fun x st H => st = (.int .i64 (degTo p.2.length p x), .int .i64 (x : Nat), ()) ∧ Ab.Loc H0 [.data RS [u] (covL p.2.length p), .box b [u1, u2], .lent RProblem [u1, u2] p, .lent RSS [u1] p.1] H ∧ ∀ i (hi : i < (covN p.2.length p).length), i < x → zeroB p.2.length p (covN p.2.length p)[i] = false) ⟨rfl, h, fun i _ hi => by omega⟩ ?_
  rintro x st H J hx ⟨rfl, h, hok⟩ hJ
  refine Wl.len h (Wi.lssC (fun hlt => Wi.tru ?_) fun hge => Wi.fls ?_)
  · have hxl : x < (covN p.2.length p).length := by omega
    obtain ⟨s1, s2⟩ := covN_at hxl
    obtain ⟨hD, hall⟩ := covB_split s2
    have ev : (covL p.2.length p)[x]'(by omega) = ((covN p.2.length p)[x] : Nat) := by simp [covL_map]
    refine Wl.getA h rfl (Wl.atInt h (i := x) (by omega) fun _ => ?_)
    rw [ev]
    refine Wi.callQ (fn43 (h.rd (cs := [u1, u2])) hpb (by omega) (fun g => absurd g hD) fun _ H l => ⟨l, ?_⟩)
    simp only [gw]
    have h := h.to l
    rw [zeroB_inner hall]
    cases hzb : zeroB p.2.length p (covN p.2.length p)[x] with
    | true =>
      simp only [Bool.not_true, gw]
      exact hz _ _ _ h.le (deg_bad hp hxl hzb)
    | false =>
      simp only [Bool.not_false, gw]
      have b1 := degTo_abs (n := p.2.length) (p := p) (i := x + 1) (by omega)
      have es := degTo_succ hxl
      have hI : I64 ((x : Int) + 1) := by unfold I64; omega
      have hok' : ∀ i (hi : i < (covN p.2.length p).length), i < x + 1 → zeroB p.2.length p (covN p.2.length p)[i] = false := fun i hi hix => by
        by_cases e : i = x
        · subst e; exact hzb
        · exact hok i hi (by omega)
      refine Wi.fieldAddr0 (Wl.get h rfl (Wl.atInt h (i := x) (by omega) fun _ => ?_))
      rw [ev]
      refine Wi.callQ (fn52 (h.rd (cs := [u1])) hpb.sq hn (fun r c => Nat.le_trans (hpb.m r c) (by decide)) (by omega) fun H w g => ⟨g.le, ?_⟩)
      have h := (h.addG g).asData (i := 0) rfl
      refine Wi.callQ (fn51 (h.rd (cs := [w])) (partRC_sq _ _ _) (Nat.le_trans (idxs_len _ _) hn) (partRC_rows hn fun r c => Nat.le_trans (hpb.m r c) (by decide)) fun H l => ⟨l, ?_⟩)
      have h := (h.to l).tl
      have hm := minor_ne hD
      unfold minorL at hm
      unfold degF minorL sgI at es
      refine Wi.gtrC (fun hpos => Wi.tru ?_) fun hneg => Wi.fls ?_
      · rw [if_neg (by omega), if_pos hpos] at es
        rw [es] at b1
        unfold f15.j1
        exact Wi.add (i64A b1 (by omega)) (Wi.add hI (hJ _ _ hxl ⟨by rw [es]; rfl, h, hok'⟩))
      · rw [if_pos (by omega)] at es
        rw [es] at b1
        unfold f15.j1
        exact Wi.sub (i64A b1 (by omega)) (Wi.add hI (hJ _ _ hxl ⟨by rw [es]; rfl, h, hok'⟩))
  · have : x = (covN p.2.length p).length := by omega
    subst this
    exact hz _ _ _ h.le (deg_good hp fun i hi => hok i hi hi)

end Go.Proofs.YthfcodelpebjcaaGreat
