/- The contracts of the program's IsSolution and IsStationary. No condition. -/
import Derived.Test.YthfcodelpebjcaaGreatY0
import Derived.Test.YthfcodelpebjcaaGreatN4
import Derived.Test.YthfcodelpebjcaaGreatQ1
import Derived.Test.YthfcodelpebjcaaGreatQ2
import Derived.Test.YthfcodelpebjcaaGreatGVV
namespace Go.Proofs.YthfcodelpebjcaaGreat
open Go.Ab

/- loop.example/g01343/impl.fracsCode -/
def f77.w (Q : Post) (p_0 : Value) (z_1 : Value) (H : Heap) : Prop :=
  W.box p_0 27 H fun v1 H =>
  W.getN 2 v1 H fun v2 H =>
  W.call Tryz.prog (.func (.func 56) #[] #[]) #[v2] H fun v3 H =>
  W.un .not v3 H fun v4 H =>
  W.guarded v4 false (fun H k => k z_1 H) H fun v5 H =>
  W.guarded v4 false (fun H k => W.call Tryz.prog (.func (.func 118) #[] #[]) #[v5] H k) H fun v6 H =>
  W.guarded v4 false (fun H k => W.un .not v6 H k) H fun v7 H =>
  W.pick v4 (.bool true) v7 H fun v8 H =>
  W.cond v8 H
  (fun H => Q (.int .i64 1) H)
  (fun H => W.len z_1 H fun v9 H =>
   W.fieldAddr 1 v1 H fun v10 H =>
   W.get v10 H fun v11 H =>
   W.len v11 H fun v12 H =>
   W.bin .neq v9 v12 H fun v13 H =>
   W.cond v13 H
   (fun H => Q (.int .i64 2) H)
   (fun H => Q (.int .i64 0) H))
theorem f77.enter {Q : Post} {p_0 : Value} {z_1 : Value} {H : Heap} (h : f77.w Q p_0 z_1 H) : Runs Tryz.prog 77 #[p_0, z_1] H Q :=
  fn_enter (ann := []) (by kernel_rfl) Tryz.func77 rfl (by kernel_rfl) h (by kernel_rfl)

/- (loop.example/g01343/impl.Problem).rest -/
def f79.l1 (Q : Post) (v6 : Value) (v5 : Value) (v1 : Value) (den_2 : Value) (z_1 : Value) (v3 : Value) (I1 : St [16] → Heap → Prop) (x_16 : Value) (H : Heap) : Prop :=
  W.bin .lss x_16 v6 H fun v7 H =>
  W.cond v7 H
  (fun H => W.indexAddr 1 v5 x_16 H fun v8 H =>
   W.get v8 H fun v9 H =>
   W.fieldAddr 1 v1 H fun v10 H =>
   W.get v10 H fun v11 H =>
   W.indexAddr 1 v11 x_16 H fun v12 H =>
   W.get v12 H fun v13 H =>
   W.bin .mul v13 den_2 H fun v14 H =>
   W.callQ Tryz.prog (.func (.func 64) #[] #[]) #[v9, z_1] H fun v15 H =>
   W.bin .add v14 v15 H fun v16 H =>
   W.indexAddr 1 v3 x_16 H fun v17 H =>
   W.put v17 v16 H fun _ H =>
   W.bin .add x_16 (.int .i64 1) H fun v18 H =>
   I1 (v18, ()) H)
  (fun H => Q v3 H)
def f79.w (Q : Post) (p_0 : Value) (z_1 : Value) (den_2 : Value) (H : Heap) : Prop :=
  W.box p_0 27 H fun v1 H =>
  W.len z_1 H fun v2 H =>
  W.make [(.int .i64 0)] 2 v2 v2 H fun v3 H =>
  W.fieldAddr 0 v1 H fun v4 H =>
  W.get v4 H fun v5 H =>
  W.len v5 H fun v6 H =>
  W.loop (S := St [16]) (fun I1 s H => f79.l1 Q v6 v5 v1 den_2 z_1 v3 I1 s.1 H) ((.int .i64 0), ()) H
theorem f79.enter {Q : Post} {p_0 : Value} {z_1 : Value} {den_2 : Value} {H : Heap} (h : f79.w Q p_0 z_1 den_2 H) : Runs Tryz.prog 79 #[p_0, z_1, den_2] H Q :=
  fn_enter (ann := [(3, [16])]) (by kernel_rfl) Tryz.func79 rfl (by kernel_rfl) h (by kernel_rfl)

/- loop.example/g01343/impl.IsSolution -/
def f37.l1 (Q : Post) (v12 : Value) (v11 : Value) (v6 : Value) (I1 : St [31] → Heap → Prop) (x_31 : Value) (H : Heap) : Prop :=
  W.bin .lss x_31 v12 H fun v13 H =>
  W.cond v13 H
  (fun H => W.indexAddr 1 v11 x_31 H fun v14 H =>
   W.get v14 H fun v15 H =>
   W.bin .lss v15 (.int .i64 0) H fun v16 H =>
   W.guarded v16 false (fun H k => k v6 H) H fun v17 H =>
   W.guarded v16 false (fun H k => k x_31 H) H fun v18 H =>
   W.guarded v16 false (fun H k => W.indexAddr 1 v17 v18 H k) H fun v19 H =>
   W.guarded v16 false (fun H k => W.get v19 H k) H fun v20 H =>
   W.guarded v16 false (fun H k => W.bin .lss v20 (.int .i64 0) H k) H fun v21 H =>
   W.pick v16 (.bool true) v21 H fun v22 H =>
   W.guarded v22 false (fun H k => k v15 H) H fun v23 H =>
   W.guarded v22 false (fun H k => W.bin .gtr v23 (.int .i64 0) H k) H fun v24 H =>
   W.guarded v22 false (fun H k => k v24 H) H fun v25 H =>
   W.guarded v25 true (fun H k => k v6 H) H fun v26 H =>
   W.guarded v25 true (fun H k => k x_31 H) H fun v27 H =>
   W.guarded v25 true (fun H k => W.indexAddr 1 v26 v27 H k) H fun v28 H =>
   W.guarded v25 true (fun H k => W.get v28 H k) H fun v29 H =>
   W.guarded v25 true (fun H k => W.bin .gtr v29 (.int .i64 0) H k) H fun v30 H =>
   W.guarded v22 false (fun H k => W.pick v25 v30 (.bool false) H k) H fun v31 H =>
   W.pick v22 (.bool true) v31 H fun v32 H =>
   W.cond v32 H
   (fun H => Q (.tuple #[(.bool false), (.int .i64 0)]) H)
   (fun H => W.bin .add x_31 (.int .i64 1) H fun v33 H =>
    I1 (v33, ()) H))
  (fun H => Q (.tuple #[(.bool true), (.int .i64 0)]) H)
def f37.w (Q : Post) (p_0 : Value) (z_1 : Value) (H : Heap) : Prop :=
  W.box p_0 27 H fun v1 H =>
  W.getN 2 v1 H fun v2 H =>
  W.call Tryz.prog (.func (.func 77) #[] #[]) #[v2, z_1] H fun v3 H =>
  W.bin .neq v3 (.int .i64 0) H fun v4 H =>
  W.cond v4 H
  (fun H => Q (.tuple #[(.bool false), v3]) H)
  (fun H => W.call Tryz.prog (.func (.func 78) #[] #[]) #[z_1, (.int .i64 1000000000), (.int .i64 1000000000000)] H fun v5 H =>
   W.extract 0 v5 H fun v6 H =>
   W.extract 1 v5 H fun v7 H =>
   W.extract 2 v5 H fun v8 H =>
   W.un .not v8 H fun v9 H =>
   W.cond v9 H
   (fun H => Q (.tuple #[(.bool false), (.int .i64 3)]) H)
   (fun H => W.getN 2 v1 H fun v10 H =>
    W.call Tryz.prog (.func (.func 79) #[] #[]) #[v10, v6, v7] H fun v11 H =>
    W.len v11 H fun v12 H =>
    W.loop (S := St [31]) (fun I1 s H => f37.l1 Q v12 v11 v6 I1 s.1 H) ((.int .i64 0), ()) H))
theorem f37.enter {Q : Post} {p_0 : Value} {z_1 : Value} {H : Heap} (h : f37.w Q p_0 z_1 H) : Runs Tryz.prog 37 #[p_0, z_1] H Q :=
  fn_enter (ann := [(8, [31])]) (by kernel_rfl) Tryz.func37 rfl (by kernel_rfl) h (by kernel_rfl)



theorem fn77 {H0 : Heap} {Q : Post} {cs : List Value} {vz : Value} {P : Prob} {z : List Frac} (hr : Has RProblem H0 cs P) (hz : Has RFS H0 [vz] z)
    (e1 : ¬ (isProb P = true ∧ Frs z) → ∀ H', H0.Le H' → Q (.int .i64 1) H') (e2 : isProb P = true → Frs z → z.length ≠ P.2.length → ∀ H', H0.Le H' → Q (.int .i64 2) H')
    (e3 : isProb P = true → Frs z → z.length = P.2.length → ∀ H', H0.Le H' → Q (.int .i64 0) H') : Runs Tryz.prog 77 #[.agg cs.toArray, vz] H0 Q := by
  obtain ⟨u1, u2, rfl, r1, r2⟩ := hasProb hr
  have h := (((Loc.start H0).lent r2).lent hz).lent hr
  have hs := hz.small
  have hs2 := r2.small
  refine f77.enter (Wl.box h fun H b h => Wl.getA h rfl ?_)
  obtain ⟨_, q⟩ := h.rd (cs := [u1, u2])
  refine Wi.call (fn56 q fun H l => ?_)
  have h := h.to l
  cases hp : isProb P with
  | false =>
    simp only [gw]
    exact e1 (fun g => by rw [hp] at g; cases g.1) _ h.le
  | true =>
    simp only [gw]
    refine Wi.call (fn118 (h.rd (cs := [vz])) fun H t l ht => ?_)
    have h := h.to l
    cases t with
    | false =>
      simp only [gw]
      exact e1 (fun g => Bool.noConfusion (ht.2 g.2)) _ h.le
    | true =>
      simp only [gw]
      have hf := ht.1 rfl
      refine Wl.len h (Wi.fieldAddr (Wl.get h rfl (Wl.len h (Wi.neqC (fun hne => Wi.tru ?_) fun he => Wi.fls ?_))))
      · exact e2 hp hf (fun g => hne (by rw [g])) _ h.le
      · exact e3 hp hf (by omega) _ h.le

theorem fn79 {H0 : Heap} {Q : Post} {cs : List Value} {vl : Value} {P : Prob} {l : List Int} {d : Int} {n : Nat} (hr : Has RProblem H0 cs P) (hl : Has RS H0 [vl] l) (hp : PB n P) (hln : l.length = n) (hd : d.natAbs ≤ 1000000000) (hlb : ∀ e ∈ l, e.natAbs ≤ 1000000000000)
    (hQ : ∀ H' u, Fresh RS H0 [u] (restL n P d l) H' → Q u H') : Runs Tryz.prog 79 #[.agg cs.toArray, vl, .int .i64 d] H0 Q := by
  obtain ⟨u1, u2, rfl, r1, r2⟩ := hasProb hr
  have hn := hp.n5; have hql := hp.ql; have hsq := hp.sq; have hl1 := hsq.1
  have h := (((Loc.start H0).lent r2).lent r1).lent hl
  refine f79.enter (Wl.box h fun H b h => Wl.len h ?_)
  rw [hln]
  refine Wl.make (r := Rd.int) (z := 0) (fun _ => ⟨rfl, rfl, by unfold I64; omega⟩) h (by omega) (by decide) fun H u h => Wi.fieldAddr0 (Wl.get h rfl (Wl.len h ?_))
  have h := h.asData (i := 0) rfl
  have e0 : List.replicate n (0 : Int) = (List.range n).map fun k => if k < 0 then restN P d l k else 0 := by
    apply List.ext_getElem <;> simp
  rw [e0] at h
  refine W.for_rule n (fun x st H => st = (.int .i64 (x : Nat), ()) ∧ Ab.Loc H0 [.data RS [u] ((List.range n).map fun k => if k < x then restN P d l k else 0), .box b [u1, u2], .lent RS [vl] l, .lent RSS [u1] P.1, .lent RS [u2] P.2] H) ⟨rfl, h⟩ ?_
  rintro x st H J hx ⟨rfl, h⟩ hJ
  refine Wi.lssC (fun hlt => Wi.tru ?_) fun hge => Wi.fls ?_
  · have hxn : x < n := by omega
    have hxm : x < P.1.length := by omega
    have hxq : x < P.2.length := by omega
    have hrow := hp.row _ (List.getElem_mem hxm)
    have hrl := hsq.2 _ (List.getElem_mem hxm)
    obtain ⟨b1, b2, b3⟩ := rest_bound hp hd hlb x
    have ev : restN P d l x = P.2[x] * d + dot P.1[x] l := by unfold restN; rw [getD_at hxq, getD_row hxm]
    rw [getD_at hxq] at b1
    rw [ev] at b3
    have hs5 : P.1[x].length * (20 * 1000000000000) < 9223372036854775808 := Nat.lt_of_le_of_lt (Nat.mul_le_mul_right _ hrow.1) (by decide)
    refine Wl.at1 rfl h hxm fun w hw => Wi.fieldAddr (Wl.get h rfl (Wl.atInt h hxq fun _ => Wi.mul (i64A b1 (by decide)) (Wi.callQ (fn64 hw (h.rd (cs := [vl])) (by omega) hrow.2 hlb hs5 ⟨.refl _, Wi.add (i64A b3 (by decide)) ?_⟩))))
    refine Wl.setInt h (by simpa using hxn) (i64A b3 (by decide)) fun H h => Wi.add (by unfold I64; omega) (hJ _ _ hxn ⟨rfl, ?_⟩)
    rw [range_set (g := fun k => if k < x + 1 then restN P d l k else 0) (by simp [ev]) (fun k _ hk => by
      by_cases g : k < x
      · rw [if_pos g, if_pos (by omega)]
      · rw [if_neg g, if_neg (by omega)])] at h
    exact h
  · have : x = n := by omega
    subst this
    refine hQ _ _ ?_
    have e : restL x P d l = (List.range x).map fun k => if k < x then restN P d l k else 0 := List.map_congr_left fun k hk => by rw [if_pos (by simpa using hk)]
    rw [e]
    exact h.ret (i := 0) rfl

theorem fn37 {H0 : Heap} {Q : Post} {cs : List Value} {vz : Value} {P : Prob} {z : List Frac} {n : Nat} (hr : Has RProblem H0 cs P) (hz : Has RFS H0 [vz] z) (hp : isProb P = true) (hn : P.2.length = n) (hf : Frs z) (hl : z.length = n)
    (e1 : tog 1000000000 1000000000000 z = none → ∀ H', H0.Le H' → Q (.tuple #[.bool false, .int .i64 3]) H')
    (e2 : ∀ l d, tog 1000000000 1000000000000 z = some (l, d) → ∀ H', H0.Le H' → Q (.tuple #[.bool (solV n P l d), .int .i64 0]) H') : Runs Tryz.prog 37 #[.agg cs.toArray, vz] H0 Q := by
  have hpb := PB.of hp
  rw [hn] at hpb
  have hn5 := hpb.n5
  have hcl := hr.len
  have h := ((Loc.start H0).lent hz).lent hr
  refine f37.enter (Wl.box h fun H b h => Wl.getA h hcl (Wi.call (fn77 (h.rd (cs := cs)) (h.rd (cs := [vz])) (fun g => absurd ⟨hp, hf⟩ g) (fun _ _ g => absurd (hl.trans hn.symm) g) fun _ _ _ H l1 => ?_)))
  have h := h.to l1
  refine Wi.neqC (fun g => absurd rfl g) fun _ => Wi.fls (Wi.call (fn78 (h.rd (cs := [vz])) hf (by omega) (by omega) (by omega) (fun g H l1 => ?_) fun l d g H u f => ?_))
  · simp only [gw]
    exact e1 g _ (h.to l1).le
  have h := h.add f.fresh
  obtain ⟨f1, f2, f3, f4⟩ := tog_facts hf (by omega) g
  have hlb : ∀ e ∈ l, e.natAbs ≤ 1000000000000 := fun e he => by have := f4 e he; omega
  simp only [gw]
  refine Wl.getA h hcl (Wi.call (fn79 (h.rd (cs := cs)) (h.rd (cs := [u])) hpb (by omega) (by omega) hlb fun H w f2 => ?_))
  have h := h.add f2
  have hwl := restL_len n P d l
  refine Wl.len h (W.all_rule n (fun i => okI (restN P d l i) (l.getD i 0)) (fun i H1 J hi _ l1 hJ => ?_) fun H1 J hall l1 => ?_)
  · have h := h.to l1
    have hiw : i < (restL n P d l).length := by omega
    have hil : i < l.length := by omega
    have ew := restL_at P d l hiw
    have el : l.getD i 0 = l[i] := getD_at hil
    have bad : okI (restN P d l i) (l.getD i 0) = false → Q (.tuple #[.bool false, .int .i64 0]) H1 := fun hb => by
      have := e2 l d g _ h.le
      rw [show solV n P l d = false from allN_false hi hb] at this
      exact this
    have good : okI (restN P d l i) (l.getD i 0) = true → W.bin .add (.int .i64 (i : Nat)) (.int .i64 1) H1 fun v33 H => J (v33, ()) H := fun hb => Wi.add (by unfold I64; omega) (hJ hb _ (.refl _))
    rw [el] at bad good
    refine Wi.lssC (fun _ => Wi.tru ?_) fun h => by omega
    refine Wl.atInt h hiw fun _ => ?_
    rw [ew]
    refine Wi.lssC (fun h1 => ?_) fun h1 => ?_
    · simp only [gw]
      exact bad (by simp [okI]; omega)
    simp only [gw]
    refine Wl.atInt h hil fun _ => Wi.lssC (fun h2 => ?_) fun h2 => ?_
    · simp only [gw]
      exact bad (by simp [okI]; omega)
    simp only [gw]
    refine Wi.gtrC (fun h3 => ?_) fun h3 => ?_
    · simp only [gw]
      refine Wl.atInt h hil fun _ => Wi.gtrC (fun h4 => ?_) fun h4 => ?_
      · simp only [gw]
        exact bad (by simp [okI]; omega)
      · simp only [gw]
        exact good (okI_iff.2 ⟨by omega, by omega, by omega⟩)
    · simp only [gw]
      exact good (okI_iff.2 ⟨by omega, by omega, by omega⟩)
  · have h := h.to l1
    refine Wi.lssC (fun h => by omega) fun _ => Wi.fls ?_
    have := e2 l d g _ h.le
    rw [show solV n P l d = true from allN_true hall] at this
    exact this


end Go.Proofs.YthfcodelpebjcaaGreat
