/- The contract of isFeasible. No condition. -/
import Derived.Test.YtgdiebnokgnniaaGreatDoorGAA
import Derived.Test.YtgdiebnokgnniaaGreatDoorZabG5
import Derived.Test.YtgdiebnokgnniaaGreatDoorGQQ
import Derived.Test.YtgdiebnokgnniaaGreatDoorGPP
import Derived.Test.YtgdiebnokgnniaaGreatDoorGVV
namespace Go.Proofs.YtgdiebnokgnniaaGreatDoor
open Go.Ab




end Go.Proofs.YtgdiebnokgnniaaGreatDoor
/-! The contract of the program's IsPlace. No condition. -/
namespace Go.Proofs.YtgdiebnokgnniaaGreatDoor
open Go.Ab



theorem tog_facts {m n : Int} {xs : List Frac} (hf : Frs xs) (hm : 1 ≤ m) {l : List Int} {d : Int} (h : tog m n xs = some (l, d)) : l.length = xs.length ∧ 1 ≤ d ∧ d ≤ m ∧ ∀ a ∈ l, -n ≤ a ∧ a ≤ n := by
  unfold tog at h
  split at h
  · rename_i g
    simp only [Option.some.injEq, Prod.mk.injEq] at h
    obtain ⟨rfl, rfl⟩ := h
    refine ⟨by simp, comTo_pos hf (Nat.le_refl _), ?_, fun a ha => ?_⟩
    · cases hx : xs.length with
      | zero => simp [comTo]; omega
      | succ k =>
        have := g.1 k (by omega)
        exact this
    · obtain ⟨b, hb, rfl⟩ := List.mem_map.1 ha
      exact g.2 b hb
  · cases h

/-- The numbers make a place. -/
def plOK (p : Prg) (l : List Int) (d : Int) : Prop := (∀ j, j < p.2.2.1.length → p.2.2.2.getD j 0 * d ≤ dot (p.2.2.1.getD j []) l) ∧ ∀ a ∈ l, 0 ≤ a

noncomputable def plRes (p : Prg) (xs : List Frac) : Bool × Int := open Classical in
  if IsPrg p ∧ Frs xs then (if xs.length = p.2.1.length then (match tog 1000000000 1000000000000 xs with | none => (false, 3) | some (l, d) => (decide (plOK p l d), 0)) else (false, 2)) else (false, 1)

end Go.Proofs.YtgdiebnokgnniaaGreatDoor

/-! Lists of fractions joined; compared. No condition. -/
namespace Go.Proofs.YtgdiebnokgnniaaGreatDoor
open Go.Ab





theorem Wi.nePair {a c : Frac} {H : Heap} {k : Post} (ha : I64 a.1 ∧ I64 a.2) (hc : I64 c.1 ∧ I64 c.2) (h : k (.bool !(decide (a = c))) H) : W.eqPair .neq (.agg (frC a).toArray) (.agg (frC c).toArray) H k := by
  show W.eqPair .neq (.agg #[.int .i64 a.1, .int .i64 a.2]) (.agg #[.int .i64 c.1, .int .i64 c.2]) H k
  unfold W.eqPair
  refine ⟨by rw [wf_of_i64 ha.1, wf_of_i64 ha.2, wf_of_i64 hc.1, wf_of_i64 hc.2]; rfl, ?_⟩
  have e : decide (a = c) = (decide (a.1 = c.1) && decide (a.2 = c.2)) := by
    rw [Bool.eq_iff_iff, Bool.and_eq_true, decide_eq_true_iff, decide_eq_true_iff, decide_eq_true_iff]
    exact Prod.ext_iff
  rw [e] at h
  exact h



end Go.Proofs.YtgdiebnokgnniaaGreatDoor

/-! The contracts of the program's IsSolution and IsStationary. No condition. -/
namespace Go.Proofs.YtgdiebnokgnniaaGreatDoor
open Go.Ab

/- loop.example/g01343/impl.fracsCode -/
def f48.w (Q : Post) (p_0 : Value) (z_1 : Value) (H : Heap) : Prop :=
  W.box p_0 27 H fun v1 H =>
  W.getN 2 v1 H fun v2 H =>
  W.call Tryz.prog (.func (.func 11) #[] #[]) #[v2] H fun v3 H =>
  W.un .not v3 H fun v4 H =>
  W.guarded v4 false (fun H k => k z_1 H) H fun v5 H =>
  W.guarded v4 false (fun H k => W.call Tryz.prog (.func (.func 102) #[] #[]) #[v5] H k) H fun v6 H =>
  W.guarded v4 false (fun H k => W.un .not v6 H k) H fun v7 H =>
  W.pick v4 (.bool true) v7 H fun v8 H =>
  W.cond v8 H
  (fun H => Q (.int .i64 1) H)
  (fun H => W.len z_1 H fun v9 H =>
   W.fieldAddr 1 v1 H fun v10 H =>
   W.get v10 H fun v11 H =>
   W.len v11 H fun v12 H =>
   W.bin .neq v9 v12 H fun v13 H =>
   W.cond v13 H
   (fun H => Q (.int .i64 2) H)
   (fun H => Q (.int .i64 0) H))
theorem f48.enter {Q : Post} {p_0 : Value} {z_1 : Value} {H : Heap} (h : f48.w Q p_0 z_1 H) : Runs Tryz.prog 48 #[p_0, z_1] H Q :=
  fn_enter (ann := []) (by kernel_rfl) Tryz.func48 rfl (by kernel_rfl) h (by kernel_rfl)

/- (loop.example/g01343/impl.Problem).rest -/
def f50.l1 (Q : Post) (v6 : Value) (v5 : Value) (v1 : Value) (den_2 : Value) (z_1 : Value) (v3 : Value) (I1 : St [16] → Heap → Prop) (x_16 : Value) (H : Heap) : Prop :=
  W.bin .lss x_16 v6 H fun v7 H =>
  W.cond v7 H
  (fun H => W.indexAddr 1 v5 x_16 H fun v8 H =>
   W.get v8 H fun v9 H =>
   W.fieldAddr 1 v1 H fun v10 H =>
   W.get v10 H fun v11 H =>
   W.indexAddr 1 v11 x_16 H fun v12 H =>
   W.get v12 H fun v13 H =>
   W.bin .mul v13 den_2 H fun v14 H =>
   W.callQ Tryz.prog (.func (.func 104) #[] #[]) #[v9, z_1] H fun v15 H =>
   W.bin .add v14 v15 H fun v16 H =>
   W.indexAddr 1 v3 x_16 H fun v17 H =>
   W.put v17 v16 H fun _ H =>
   W.bin .add x_16 (.int .i64 1) H fun v18 H =>
   I1 (v18, ()) H)
  (fun H => Q v3 H)
def f50.w (Q : Post) (p_0 : Value) (z_1 : Value) (den_2 : Value) (H : Heap) : Prop :=
  W.box p_0 27 H fun v1 H =>
  W.len z_1 H fun v2 H =>
  W.make [(.int .i64 0)] 2 v2 v2 H fun v3 H =>
  W.fieldAddr 0 v1 H fun v4 H =>
  W.get v4 H fun v5 H =>
  W.len v5 H fun v6 H =>
  W.loop (S := St [16]) (fun I1 s H => f50.l1 Q v6 v5 v1 den_2 z_1 v3 I1 s.1 H) ((.int .i64 0), ()) H
theorem f50.enter {Q : Post} {p_0 : Value} {z_1 : Value} {den_2 : Value} {H : Heap} (h : f50.w Q p_0 z_1 den_2 H) : Runs Tryz.prog 50 #[p_0, z_1, den_2] H Q :=
  fn_enter (ann := [(3, [16])]) (by kernel_rfl) Tryz.func50 rfl (by kernel_rfl) h (by kernel_rfl)

/- loop.example/g01343/impl.IsSolution -/
def f14.l1 (Q : Post) (v12 : Value) (v11 : Value) (v6 : Value) (I1 : St [31] → Heap → Prop) (x_31 : Value) (H : Heap) : Prop :=
  W.bin .lss x_31 v12 H fun v13 H =>
  W.cond v13 H
  (fun H => W.indexAddr 1 v11 x_31 H fun v14 H =>
   W.get v14 H fun v15 H =>
   W.bin .lss v15 (.int .i64 0) H fun v16 H =>
   W.guarded v16 false (fun H k => k v6 H) H fun v17 H =>
   W.guarded v16 false (fun H k => k x_31 H) H fun v18 H =>
   W.guarded v16 false (fun H k => W.indexAddr 1 v17 v18 H k) H fun v19 H =>
   W.guarded v16 false (fun H k => W.get v19 H k) H fun v20 H =>
   W.guarded v16 false (fun H k => W.bin .lss v20 (.int .i64 0) H k) H fun v21 H =>
   W.pick v16 (.bool true) v21 H fun v22 H =>
   W.guarded v22 false (fun H k => k v15 H) H fun v23 H =>
   W.guarded v22 false (fun H k => W.bin .gtr v23 (.int .i64 0) H k) H fun v24 H =>
   W.guarded v22 false (fun H k => k v24 H) H fun v25 H =>
   W.guarded v25 true (fun H k => k v6 H) H fun v26 H =>
   W.guarded v25 true (fun H k => k x_31 H) H fun v27 H =>
   W.guarded v25 true (fun H k => W.indexAddr 1 v26 v27 H k) H fun v28 H =>
   W.guarded v25 true (fun H k => W.get v28 H k) H fun v29 H =>
   W.guarded v25 true (fun H k => W.bin .gtr v29 (.int .i64 0) H k) H fun v30 H =>
   W.guarded v22 false (fun H k => W.pick v25 v30 (.bool false) H k) H fun v31 H =>
   W.pick v22 (.bool true) v31 H fun v32 H =>
   W.cond v32 H
   (fun H => Q (.tuple #[(.bool false), (.int .i64 0)]) H)
   (fun H => W.bin .add x_31 (.int .i64 1) H fun v33 H =>
    I1 (v33, ()) H))
  (fun H => Q (.tuple #[(.bool true), (.int .i64 0)]) H)
def f14.w (Q : Post) (p_0 : Value) (z_1 : Value) (H : Heap) : Prop :=
  W.box p_0 27 H fun v1 H =>
  W.getN 2 v1 H fun v2 H =>
  W.call Tryz.prog (.func (.func 48) #[] #[]) #[v2, z_1] H fun v3 H =>
  W.bin .neq v3 (.int .i64 0) H fun v4 H =>
  W.cond v4 H
  (fun H => Q (.tuple #[(.bool false), v3]) H)
  (fun H => W.call Tryz.prog (.func (.func 49) #[] #[]) #[z_1, (.int .i64 1000000000), (.int .i64 1000000000000)] H fun v5 H =>
   W.extract 0 v5 H fun v6 H =>
   W.extract 1 v5 H fun v7 H =>
   W.extract 2 v5 H fun v8 H =>
   W.un .not v8 H fun v9 H =>
   W.cond v9 H
   (fun H => Q (.tuple #[(.bool false), (.int .i64 3)]) H)
   (fun H => W.getN 2 v1 H fun v10 H =>
    W.call Tryz.prog (.func (.func 50) #[] #[]) #[v10, v6, v7] H fun v11 H =>
    W.len v11 H fun v12 H =>
    W.loop (S := St [31]) (fun I1 s H => f14.l1 Q v12 v11 v6 I1 s.1 H) ((.int .i64 0), ()) H))
theorem f14.enter {Q : Post} {p_0 : Value} {z_1 : Value} {H : Heap} (h : f14.w Q p_0 z_1 H) : Runs Tryz.prog 14 #[p_0, z_1] H Q :=
  fn_enter (ann := [(8, [31])]) (by kernel_rfl) Tryz.func14 rfl (by kernel_rfl) h (by kernel_rfl)


theorem fn48 {H0 : Heap} {Q : Post} {cs : List Value} {vz : Value} {P : Prob} {z : List Frac} (hr : Has RProblem H0 cs P) (hz : Has RFS H0 [vz] z)
    (e1 : ¬ (isProb P = true ∧ Frs z) → ∀ H', H0.Le H' → Q (.int .i64 1) H') (e2 : isProb P = true → Frs z → z.length ≠ P.2.length → ∀ H', H0.Le H' → Q (.int .i64 2) H')
    (e3 : isProb P = true → Frs z → z.length = P.2.length → ∀ H', H0.Le H' → Q (.int .i64 0) H') : Runs Tryz.prog 48 #[.agg cs.toArray, vz] H0 Q := by
  obtain ⟨u1, u2, rfl, r1, r2⟩ := hasProb hr
  have h := (((Loc.start H0).lent r2).lent hz).lent hr
  have hs := hz.small
  have hs2 := r2.small
  refine f48.enter (Wl.box h fun H b h => Wl.getA h rfl ?_)
  obtain ⟨_, q⟩ := h.rd (cs := [u1, u2])
  refine Wi.call (fn11 q fun H l => ?_)
  have h := h.to l
  cases hp : isProb P with
  | false =>
    simp only [gw]
    exact e1 (fun g => by rw [hp] at g; cases g.1) _ h.le
  | true =>
    simp only [gw]
    refine Wi.call (fn102 (h.rd (cs := [vz])) fun H t l ht => ?_)
    have h := h.to l
    cases t with
    | false =>
      simp only [gw]
      exact e1 (fun g => Bool.noConfusion (ht.2 g.2)) _ h.le
    | true =>
      simp only [gw]
      have hf := ht.1 rfl
      refine Wl.len h (Wi.fieldAddr (Wl.get h rfl (Wl.len h (Wi.neqC (fun hne => Wi.tru ?_) fun he => Wi.fls ?_))))
      · exact e2 hp hf (fun g => hne (by rw [g])) _ h.le
      · exact e3 hp hf (by omega) _ h.le

theorem fn50 {H0 : Heap} {Q : Post} {cs : List Value} {vl : Value} {P : Prob} {l : List Int} {d : Int} {n : Nat} (hr : Has RProblem H0 cs P) (hl : Has RS H0 [vl] l) (hp : PB n P) (hln : l.length = n) (hd : d.natAbs ≤ 1000000000) (hlb : ∀ e ∈ l, e.natAbs ≤ 1000000000000)
    (hQ : ∀ H' u, Fresh RS H0 [u] (restL n P d l) H' → Q u H') : Runs Tryz.prog 50 #[.agg cs.toArray, vl, .int .i64 d] H0 Q := by
  obtain ⟨u1, u2, rfl, r1, r2⟩ := hasProb hr
  have hn := hp.n5; have hql := hp.ql; have hsq := hp.sq; have hl1 := hsq.1
  have h := (((Loc.start H0).lent r2).lent r1).lent hl
  refine f50.enter (Wl.box h fun H b h => Wl.len h ?_)
  rw [hln]
  refine Wl.make (r := Rd.int) (z := 0) (fun _ => ⟨rfl, rfl, by unfold I64; omega⟩) h (by omega) (by decide) fun H u h => Wi.fieldAddr0 (Wl.get h rfl (Wl.len h ?_))
  have h := h.asData (i := 0) rfl
  have e0 : List.replicate n (0 : Int) = (List.range n).map fun k => if k < 0 then restN P d l k else 0 := by
    apply List.ext_getElem <;> simp
  rw [e0] at h
  refine W.for_rule n (fun x st H => st = (.int .i64 (x : Nat), ()) ∧ Ab.Loc H0 [.data RS [u] ((List.range n).map fun k => if k < x then restN P d l k else 0), .box b [u1, u2], .lent RS [vl] l, .lent RSS [u1] P.1, .lent RS [u2] P.2] H) ⟨rfl, h⟩ ?_
  rintro x st H J hx ⟨rfl, h⟩ hJ
  refine Wi.lssC (fun hlt => Wi.tru ?_) fun hge => Wi.fls ?_
  · have hxn : x < n := by omega
    have hxm : x < P.1.length := by omega
    have hxq : x < P.2.length := by omega
    have hrow := hp.row _ (List.getElem_mem hxm)
    have hrl := hsq.2 _ (List.getElem_mem hxm)
    obtain ⟨b1, b2, b3⟩ := rest_bound hp hd hlb x
    have ev : restN P d l x = P.2[x] * d + dot P.1[x] l := by unfold restN; rw [getD_at hxq, getD_row hxm]
    rw [getD_at hxq] at b1
    rw [ev] at b3
    have hs5 : P.1[x].length * (20 * 1000000000000) < 9223372036854775808 := Nat.lt_of_le_of_lt (Nat.mul_le_mul_right _ hrow.1) (by decide)
    refine Wl.at1 rfl h hxm fun w hw => Wi.fieldAddr (Wl.get h rfl (Wl.atInt h hxq fun _ => Wi.mul (i64A b1 (by decide)) (Wi.callQ (fn104 hw (h.rd (cs := [vl])) (by omega) hrow.2 hlb hs5 ⟨.refl _, Wi.add (i64A b3 (by decide)) ?_⟩))))
    refine Wl.setInt h (by simpa using hxn) (i64A b3 (by decide)) fun H h => Wi.add (by unfold I64; omega) (hJ _ _ hxn ⟨rfl, ?_⟩)
    rw [range_set (g := fun k => if k < x + 1 then restN P d l k else 0) (by simp [ev]) (fun k _ hk => by
      by_cases g : k < x
      · rw [if_pos g, if_pos (by omega)]
      · rw [if_neg g, if_neg (by omega)])] at h
    exact h
  · have : x = n := by omega
    subst this
    refine hQ _ _ ?_
    have e : restL x P d l = (List.range x).map fun k => if k < x then restN P d l k else 0 := List.map_congr_left fun k hk => by rw [if_pos (by simpa using hk)]
    rw [e]
    exact h.ret (i := 0) rfl

theorem fn14 {H0 : Heap} {Q : Post} {cs : List Value} {vz : Value} {P : Prob} {z : List Frac} {n : Nat} (hr : Has RProblem H0 cs P) (hz : Has RFS H0 [vz] z) (hp : isProb P = true) (hn : P.2.length = n) (hf : Frs z) (hl : z.length = n)
    (e1 : tog 1000000000 1000000000000 z = none → ∀ H', H0.Le H' → Q (.tuple #[.bool false, .int .i64 3]) H')
    (e2 : ∀ l d, tog 1000000000 1000000000000 z = some (l, d) → ∀ H', H0.Le H' → Q (.tuple #[.bool (solV n P l d), .int .i64 0]) H') : Runs Tryz.prog 14 #[.agg cs.toArray, vz] H0 Q := by
  have hpb := PB.of hp
  rw [hn] at hpb
  have hn5 := hpb.n5
  have hcl := hr.len
  have h := ((Loc.start H0).lent hz).lent hr
  refine f14.enter (Wl.box h fun H b h => Wl.getA h hcl (Wi.call (fn48 (h.rd (cs := cs)) (h.rd (cs := [vz])) (fun g => absurd ⟨hp, hf⟩ g) (fun _ _ g => absurd (hl.trans hn.symm) g) fun _ _ _ H l1 => ?_)))
  have h := h.to l1
  refine Wi.neqC (fun g => absurd rfl g) fun _ => Wi.fls (Wi.call (fn49 (h.rd (cs := [vz])) hf (by omega) (by omega) (by omega) (fun g H l1 => ?_) fun l d g H u f => ?_))
  · simp only [gw]
    exact e1 g _ (h.to l1).le
  have h := h.add f.fresh
  obtain ⟨f1, f2, f3, f4⟩ := tog_facts hf (by omega) g
  have hlb : ∀ e ∈ l, e.natAbs ≤ 1000000000000 := fun e he => by have := f4 e he; omega
  simp only [gw]
  refine Wl.getA h hcl (Wi.call (fn50 (h.rd (cs := cs)) (h.rd (cs := [u])) hpb (by omega) (by omega) hlb fun H w f2 => ?_))
  have h := h.add f2
  have hwl := restL_len n P d l
  refine Wl.len h (W.all_rule n (fun i => okI (restN P d l i) (l.getD i 0)) (fun i H1 J hi _ l1 hJ => ?_) fun H1 J hall l1 => ?_)
  · have h := h.to l1
    have hiw : i < (restL n P d l).length := by omega
    have hil : i < l.length := by omega
    have ew := restL_at P d l hiw
    have el : l.getD i 0 = l[i] := getD_at hil
    have bad : okI (restN P d l i) (l.getD i 0) = false → Q (.tuple #[.bool false, .int .i64 0]) H1 := fun hb => by
      have := e2 l d g _ h.le
      rw [show solV n P l d = false from allN_false hi hb] at this
      exact this
    have good : okI (restN P d l i) (l.getD i 0) = true → W.bin .add (.int .i64 (i : Nat)) (.int .i64 1) H1 fun v33 H => J (v33, ()) H := fun hb => Wi.add (by unfold I64; omega) (hJ hb _ (.refl _))
    rw [el] at bad good
    refine Wi.lssC (fun _ => Wi.tru ?_) fun h => by omega
    refine Wl.atInt h hiw fun _ => ?_
    rw [ew]
    refine Wi.lssC (fun h1 => ?_) fun h1 => ?_
    · simp only [gw]
      exact bad (by simp [okI]; omega)
    simp only [gw]
    refine Wl.atInt h hil fun _ => Wi.lssC (fun h2 => ?_) fun h2 => ?_
    · simp only [gw]
      exact bad (by simp [okI]; omega)
    simp only [gw]
    refine Wi.gtrC (fun h3 => ?_) fun h3 => ?_
    · simp only [gw]
      refine Wl.atInt h hil fun _ => Wi.gtrC (fun h4 => ?_) fun h4 => ?_
      · simp only [gw]
        exact bad (by simp [okI]; omega)
      · simp only [gw]
        exact good (okI_iff.2 ⟨by omega, by omega, by omega⟩)
    · simp only [gw]
      exact good (okI_iff.2 ⟨by omega, by omega, by omega⟩)
  · have h := h.to l1
    refine Wi.lssC (fun h => by omega) fun _ => Wi.fls ?_
    have := e2 l d g _ h.le
    rw [show solV n P l d = true from allN_true hall] at this
    exact this


end Go.Proofs.YtgdiebnokgnniaaGreatDoor

/-! The contract of the reference's IsProgram. No condition. -/
namespace Go.Proofs.YtgdiebnokgnniaaGreatDoor
open Go.Ab





end Go.Proofs.YtgdiebnokgnniaaGreatDoor

/-! Contracts of the reference's l09Problem and ProgramProblem. No condition. -/
namespace Go.Proofs.YtgdiebnokgnniaaGreatDoor
open Go.Ab



end Go.Proofs.YtgdiebnokgnniaaGreatDoor

/-! The contract of the reference's IsPlace. No condition. -/
namespace Go.Proofs.YtgdiebnokgnniaaGreatDoor
open Go.Ab





end Go.Proofs.YtgdiebnokgnniaaGreatDoor

/-! The contract of the reference's IsStationary. No condition. -/
namespace Go.Proofs.YtgdiebnokgnniaaGreatDoor
open Go.Ab

/- loop.example/g01343/spec.l01Remainder -/
def f74.l2 (Q : Post) (list_1 : Value) (v1 : Value) (i_8 : Value) (out_7 : Value) (I1 : St [7, 8] → Heap → Prop) (I2 : St [9, 10] → Heap → Prop) (sum_9 : Value) (k_10 : Value) (H : Heap) : Prop :=
  W.len list_1 H fun v12 H =>
  W.bin .lss k_10 v12 H fun v13 H =>
  W.cond v13 H
  (fun H => W.fieldAddr 0 v1 H fun v14 H =>
   W.get v14 H fun v15 H =>
   W.indexAddr 1 v15 i_8 H fun v16 H =>
   W.get v16 H fun v17 H =>
   W.indexAddr 1 v17 k_10 H fun v18 H =>
   W.get v18 H fun v19 H =>
   W.indexAddr 1 list_1 k_10 H fun v20 H =>
   W.get v20 H fun v21 H =>
   W.bin .mul v19 v21 H fun v22 H =>
   W.bin .add sum_9 v22 H fun v23 H =>
   W.bin .add k_10 (.int .i64 1) H fun v24 H =>
   I2 (v23, v24, ()) H)
  (fun H => W.lit 1 [(.int .i64 0)] 2 [(0, 1, sum_9)] H fun v25 H =>
   W.append 1 2 out_7 v25 H fun v26 H =>
   W.bin .add i_8 (.int .i64 1) H fun v27 H =>
   I1 (v26, v27, ()) H)
def f74.l1 (Q : Post) (v1 : Value) (den_2 : Value) (list_1 : Value) (I1 : St [7, 8] → Heap → Prop) (out_7 : Value) (i_8 : Value) (H : Heap) : Prop :=
  W.fieldAddr 1 v1 H fun v3 H =>
  W.get v3 H fun v4 H =>
  W.len v4 H fun v5 H =>
  W.bin .lss i_8 v5 H fun v6 H =>
  W.cond v6 H
  (fun H => W.fieldAddr 1 v1 H fun v7 H =>
   W.get v7 H fun v8 H =>
   W.indexAddr 1 v8 i_8 H fun v9 H =>
   W.get v9 H fun v10 H =>
   W.bin .mul v10 den_2 H fun v11 H =>
   W.loop (S := St [9, 10]) (fun I2 s H => f74.l2 Q list_1 v1 i_8 out_7 I1 I2 s.1 s.2.1 H) (v11, (.int .i64 0), ()) H)
  (fun H => Q out_7 H)
def f74.w (Q : Post) (p_0 : Value) (list_1 : Value) (den_2 : Value) (H : Heap) : Prop :=
  W.box p_0 27 H fun v1 H =>
  W.lit 0 [(.int .i64 0)] 2 [] H fun v2 H =>
  W.loop (S := St [7, 8]) (fun I1 s H => f74.l1 Q v1 den_2 list_1 I1 s.1 s.2.1 H) (v2, (.int .i64 0), ()) H
theorem f74.enter {Q : Post} {p_0 : Value} {list_1 : Value} {den_2 : Value} {H : Heap} (h : f74.w Q p_0 list_1 den_2 H) : Runs Tryz.prog 74 #[p_0, list_1, den_2] H Q :=
  fn_enter (ann := [(3, [7, 8]), (7, [9, 10])]) (by kernel_rfl) Tryz.func74 rfl (by kernel_rfl) h (by kernel_rfl)

/- loop.example/g01343/spec.l01Solves -/
def f77.l1 (Q : Post) (v3 : Value) (list_1 : Value) (I1 : St [8] → Heap → Prop) (i_8 : Value) (H : Heap) : Prop :=
  W.len v3 H fun v4 H =>
  W.bin .lss i_8 v4 H fun v5 H =>
  W.cond v5 H
  (fun H => W.indexAddr 1 v3 i_8 H fun v6 H =>
   W.get v6 H fun v7 H =>
   W.bin .lss v7 (.int .i64 0) H fun v8 H =>
   W.guarded v8 false (fun H k => k list_1 H) H fun v9 H =>
   W.guarded v8 false (fun H k => k i_8 H) H fun v10 H =>
   W.guarded v8 false (fun H k => W.indexAddr 1 v9 v10 H k) H fun v11 H =>
   W.guarded v8 false (fun H k => W.get v11 H k) H fun v12 H =>
   W.guarded v8 false (fun H k => W.bin .lss v12 (.int .i64 0) H k) H fun v13 H =>
   W.pick v8 (.bool true) v13 H fun v14 H =>
   W.guarded v14 false (fun H k => k v3 H) H fun v15 H =>
   W.guarded v14 false (fun H k => k i_8 H) H fun v16 H =>
   W.guarded v14 false (fun H k => W.indexAddr 1 v15 v16 H k) H fun v17 H =>
   W.guarded v14 false (fun H k => W.get v17 H k) H fun v18 H =>
   W.guarded v14 false (fun H k => W.bin .neq v18 (.int .i64 0) H k) H fun v19 H =>
   W.guarded v14 false (fun H k => k v19 H) H fun v20 H =>
   W.guarded v20 true (fun H k => k list_1 H) H fun v21 H =>
   W.guarded v20 true (fun H k => k i_8 H) H fun v22 H =>
   W.guarded v20 true (fun H k => W.indexAddr 1 v21 v22 H k) H fun v23 H =>
   W.guarded v20 true (fun H k => W.get v23 H k) H fun v24 H =>
   W.guarded v20 true (fun H k => W.bin .neq v24 (.int .i64 0) H k) H fun v25 H =>
   W.guarded v14 false (fun H k => W.pick v20 v25 (.bool false) H k) H fun v26 H =>
   W.pick v14 (.bool true) v26 H fun v27 H =>
   W.cond v27 H
   (fun H => Q (.bool false) H)
   (fun H => W.bin .add i_8 (.int .i64 1) H fun v28 H =>
    I1 (v28, ()) H))
  (fun H => Q (.bool true) H)
def f77.w (Q : Post) (p_0 : Value) (list_1 : Value) (den_2 : Value) (H : Heap) : Prop :=
  W.box p_0 27 H fun v1 H =>
  W.getN 2 v1 H fun v2 H =>
  W.call Tryz.prog (.func (.func 74) #[] #[]) #[v2, list_1, den_2] H fun v3 H =>
  W.loop (S := St [8]) (fun I1 s H => f77.l1 Q v3 list_1 I1 s.1 H) ((.int .i64 0), ()) H
theorem f77.enter {Q : Post} {p_0 : Value} {list_1 : Value} {den_2 : Value} {H : Heap} (h : f77.w Q p_0 list_1 den_2 H) : Runs Tryz.prog 77 #[p_0, list_1, den_2] H Q :=
  fn_enter (ann := [(3, [8])]) (by kernel_rfl) Tryz.func77 rfl (by kernel_rfl) h (by kernel_rfl)



theorem fn74 {H0 : Heap} {Q : Post} {cs : List Value} {vl : Value} {P : Prob} {l : List Int} {d : Int} {n : Nat} (hr : Has RProblem H0 cs P) (hl : Has RS H0 [vl] l) (hp : PB n P) (hln : l.length = n) (hd : d.natAbs ≤ 1000000000) (hlb : ∀ e ∈ l, e.natAbs ≤ 1000000000000)
    (hQ : ∀ H' u, Fresh RS H0 [u] (restL n P d l) H' → Q u H') : Runs Tryz.prog 74 #[.agg cs.toArray, vl, .int .i64 d] H0 Q := by
  obtain ⟨u1, u2, rfl, r1, r2⟩ := hasProb hr
  have hn := hp.n5; have hql := hp.ql; have hsq := hp.sq; have hl1 := hsq.1
  have h := (((Loc.start H0).lent r2).lent r1).lent hl
  refine f74.enter ?_
  unfold f74.w
  refine Wl.box h fun H b h => Wl.lit0 (ty := 2) Rd.int rfl h fun H u h => ?_
  refine W.for_rule n (fun x st H => ∃ u, st = (u, .int .i64 (x : Nat), ()) ∧ Ab.Loc H0 [.grow Rd.int 2 u ((List.range x).map (restN P d l)), .box b [u1, u2], .lent RS [vl] l, .lent RSS [u1] P.1, .lent RS [u2] P.2] H) ⟨_, rfl, h⟩ ?_
  rintro x st H J hx ⟨u, rfl, h⟩ hJ
  refine Wi.fieldAddr (Wl.get h rfl (Wl.len h (Wi.lssC (fun hlt => Wi.tru ?_) fun hge => Wi.fls ?_)))
  · have hxn : x < n := by omega
    have hxm : x < P.1.length := by omega
    have hxq : x < P.2.length := by omega
    have hrow := hp.row _ (List.getElem_mem hxm)
    have hrl := hsq.2 _ (List.getElem_mem hxm)
    obtain ⟨b1, b2, b3⟩ := rest_bound hp hd hlb x
    have b1' := b1
    rw [getD_at hxq] at b1
    have ed : ∀ k, (dotF (P.1.getD x []) l k).natAbs ≤ 20 * 1000000000000 := fun k => mul_abs (by rw [getD_row hxm]; exact getD_abs hrow.2 k) (getD_abs hlb k)
    refine Wi.fieldAddr (Wl.get h rfl (Wl.atInt h hxq fun _ => Wi.mul (i64A b1 (by decide)) ?_))
    refine W.for_rule n (fun k st H' => H' = H ∧ st = (.int .i64 (P.2.getD x 0 * d + sumTo (dotF (P.1.getD x []) l) k), .int .i64 (k : Nat), ())) ⟨rfl, by simp only [sumTo, Int.add_zero]; rw [getD_at hxq]; rfl⟩ ?_
    rintro k st H2 J2 hk ⟨rfl, rfl⟩ hJ2
    refine Wl.len h (Wi.lssC (fun hlt2 => Wi.tru ?_) fun hge2 => Wi.fls ?_)
    · have hkn : k < n := by omega
      have hkl : k < l.length := by omega
      have hkm : k < P.1[x].length := by omega
      have e1 : dotF (P.1.getD x []) l k = P.1[x][k] * l[k] := by simp only [dotF]; rw [getD_row hxm, getD_at hkm, getD_at hkl]
      have s1 : (sumTo (dotF (P.1.getD x []) l) k).natAbs ≤ 5 * (20 * 1000000000000) := Nat.le_trans (sumTo_abs fun j _ => ed j) (Nat.mul_le_mul_right _ (by omega))
      have t1 := ed k
      have o2 := addA (addA b1' s1) t1
      rw [e1] at t1 o2
      refine Wi.fieldAddr0 (Wl.get h rfl (Wl.at1 rfl h hxm fun w hw => Wl.atIntH hw hkm fun _ => Wl.atInt h hkl fun _ => Wi.mul (i64A t1 (by decide)) (Wi.add (i64A o2 (by decide)) (Wi.add (by unfold I64; omega) (hJ2 _ _ hkn ⟨rfl, ?_⟩)))))
      simp only [sumTo]
      rw [e1, ← Int.add_assoc]
      rfl
    · have : k = n := by omega
      subst this
      have er : P.2.getD x 0 * d + sumTo (dotF (P.1.getD x []) l) k = restN P d l x := by
        unfold restN dot
        rw [getD_row hxm, hrl]
      rw [er]
      refine Wl.pushP (r := Rd.int) (x := restN P d l x) rfl rfl rfl (fun _ => ⟨rfl, rfl, i64A b3 (by decide)⟩) h (by simp; omega) fun H u' h => Wi.add (by unfold I64; omega) (hJ _ _ hxn ⟨u', rfl, ?_⟩)
      have h2 : Ab.Loc H0 [.grow Rd.int 2 u' ((List.range x).map (restN P d l) ++ [restN P d l x]), .box b [u1, u2], .lent RS [vl] l, .lent RSS [u1] P.1, .lent RS [u2] P.2] H := h
      rw [range_push (f := restN P d l) rfl] at h2
      exact h2
  · have : x = n := by omega
    subst this
    exact hQ _ _ ((h.asData (i := 0) rfl).ret (i := 0) rfl)

theorem fn77 {H0 : Heap} {Q : Post} {cs : List Value} {vl : Value} {P : Prob} {l : List Int} {d : Int} {n : Nat} (hr : Has RProblem H0 cs P) (hl : Has RS H0 [vl] l) (hp : PB n P) (hln : l.length = n) (hd : d.natAbs ≤ 1000000000) (hlb : ∀ e ∈ l, e.natAbs ≤ 1000000000000)
    (hQ : ∀ H', H0.Le H' → Q (.bool (solV n P l d)) H') : Runs Tryz.prog 77 #[.agg cs.toArray, vl, .int .i64 d] H0 Q := by
  have hcl := hr.len
  have hn := hp.n5
  have h := ((Loc.start H0).lent hl).lent hr
  refine f77.enter (Wl.box h fun H b h => Wl.getA h hcl (Wi.call (fn74 (h.rd (cs := cs)) (h.rd (cs := [vl])) hp hln hd hlb fun H w f => ?_)))
  have h := h.add f
  have hwl := restL_len n P d l
  refine W.all_rule n (fun i => okI (restN P d l i) (l.getD i 0)) (fun i H1 J hi _ l1 hJ => ?_) fun H1 J hall l1 => ?_
  · have h := h.to l1
    have hiw : i < (restL n P d l).length := by omega
    have hil : i < l.length := by omega
    have ew := restL_at P d l hiw
    have el : l.getD i 0 = l[i] := getD_at hil
    have bad : okI (restN P d l i) (l.getD i 0) = false → Q (.bool false) H1 := fun hb => by
      have := hQ _ h.le
      rw [show solV n P l d = false from allN_false hi hb] at this
      exact this
    have good : okI (restN P d l i) (l.getD i 0) = true → W.bin .add (.int .i64 (i : Nat)) (.int .i64 1) H1 fun v33 H => J (v33, ()) H := fun hb => Wi.add (by unfold I64; omega) (hJ hb _ (.refl _))
    rw [el] at bad good
    refine Wl.len h (Wi.lssC (fun _ => Wi.tru ?_) fun h => by omega)
    refine Wl.atInt h hiw fun _ => ?_
    rw [ew]
    refine Wi.lssC (fun h1 => ?_) fun h1 => ?_
    · simp only [gw]
      exact bad (by simp [okI]; omega)
    simp only [gw]
    refine Wl.atInt h hil fun _ => Wi.lssC (fun h2 => ?_) fun h2 => ?_
    · simp only [gw]
      exact bad (by simp [okI]; omega)
    simp only [gw]
    refine Wl.atInt h hiw fun _ => ?_
    rw [ew]
    refine Wi.neqC (fun h3 => ?_) fun h3 => ?_
    · simp only [gw]
      refine Wl.atInt h hil fun _ => Wi.neqC (fun h4 => ?_) fun h4 => ?_
      · simp only [gw]
        exact bad (by simp [okI]; omega)
      · simp only [gw]
        exact good (okI_iff.2 ⟨by omega, by omega, by omega⟩)
    · simp only [gw]
      exact good (okI_iff.2 ⟨by omega, by omega, by omega⟩)
  · have h := h.to l1
    refine Wl.len h (Wi.lssC (fun h => by omega) fun _ => Wi.fls ?_)
    have := hQ _ h.le
    rw [show solV n P l d = true from allN_true hall] at this
    exact this


end Go.Proofs.YtgdiebnokgnniaaGreatDoor

/-! Contracts of RemainderOf and IsSolution, the program's and the reference's. No condition. -/
namespace Go.Proofs.YtgdiebnokgnniaaGreatDoor
open Go.Ab

/- loop.example/g01343/impl.RemainderOf -/
def f13.w (Q : Post) (p_0 : Value) (z_1 : Value) (H : Heap) : Prop :=
  W.box p_0 27 H fun v1 H =>
  W.getN 2 v1 H fun v2 H =>
  W.call Tryz.prog (.func (.func 48) #[] #[]) #[v2, z_1] H fun v3 H =>
  W.bin .neq v3 (.int .i64 0) H fun v4 H =>
  W.cond v4 H
  (fun H => Q (.tuple #[(.slice none 0 0), v3]) H)
  (fun H => W.call Tryz.prog (.func (.func 49) #[] #[]) #[z_1, (.int .i64 1000000000), (.int .i64 1000000000000)] H fun v5 H =>
   W.extract 0 v5 H fun v6 H =>
   W.extract 1 v5 H fun v7 H =>
   W.extract 2 v5 H fun v8 H =>
   W.un .not v8 H fun v9 H =>
   W.cond v9 H
   (fun H => Q (.tuple #[(.slice none 0 0), (.int .i64 3)]) H)
   (fun H => W.getN 2 v1 H fun v10 H =>
    W.call Tryz.prog (.func (.func 50) #[] #[]) #[v10, v6, v7] H fun v11 H =>
    W.call Tryz.prog (.func (.func 37) #[] #[]) #[v11, v7] H fun v12 H =>
    W.extract 0 v12 H fun v13 H =>
    W.extract 1 v12 H fun v14 H =>
    Q (.tuple #[v13, v14]) H))
theorem f13.enter {Q : Post} {p_0 : Value} {z_1 : Value} {H : Heap} (h : f13.w Q p_0 z_1 H) : Runs Tryz.prog 13 #[p_0, z_1] H Q :=
  fn_enter (ann := []) (by kernel_rfl) Tryz.func13 rfl (by kernel_rfl) h (by kernel_rfl)

/- loop.example/g01343/spec.l01Fracs -/
def f72.l1 (Q : Post) (z_1 : Value) (v1 : Value) (I1 : St [5] → Heap → Prop) (i_5 : Value) (H : Heap) : Prop :=
  W.len z_1 H fun v5 H =>
  W.bin .lss i_5 v5 H fun v6 H =>
  W.cond v6 H
  (fun H => W.indexAddr 2 z_1 i_5 H fun v7 H =>
   W.getN 2 v7 H fun v8 H =>
   W.call Tryz.prog (.func (.func 40) #[] #[]) #[v8] H fun v9 H =>
   W.un .not v9 H fun v10 H =>
   W.cond v10 H
   (fun H => Q (.int .i64 1) H)
   (fun H => W.bin .add i_5 (.int .i64 1) H fun v11 H =>
    I1 (v11, ()) H))
  (fun H => W.len z_1 H fun v12 H =>
   W.fieldAddr 1 v1 H fun v13 H =>
   W.get v13 H fun v14 H =>
   W.len v14 H fun v15 H =>
   W.bin .neq v12 v15 H fun v16 H =>
   W.cond v16 H
   (fun H => Q (.int .i64 2) H)
   (fun H => Q (.int .i64 0) H))
def f72.w (Q : Post) (p_0 : Value) (z_1 : Value) (H : Heap) : Prop :=
  W.box p_0 27 H fun v1 H =>
  W.getN 2 v1 H fun v2 H =>
  W.call Tryz.prog (.func (.func 47) #[] #[]) #[v2] H fun v3 H =>
  W.un .not v3 H fun v4 H =>
  W.cond v4 H
  (fun H => Q (.int .i64 1) H)
  (fun H => W.loop (S := St [5]) (fun I1 s H => f72.l1 Q z_1 v1 I1 s.1 H) ((.int .i64 0), ()) H)
theorem f72.enter {Q : Post} {p_0 : Value} {z_1 : Value} {H : Heap} (h : f72.w Q p_0 z_1 H) : Runs Tryz.prog 72 #[p_0, z_1] H Q :=
  fn_enter (ann := [(4, [5])]) (by kernel_rfl) Tryz.func72 rfl (by kernel_rfl) h (by kernel_rfl)

/- loop.example/g01343/spec.RemainderOf -/
def f25.l1 (Q : Post) (v11 : Value) (v7 : Value) (I1 : St [11, 12] → Heap → Prop) (out_11 : Value) (i_12 : Value) (H : Heap) : Prop :=
  W.len v11 H fun v13 H =>
  W.bin .lss i_12 v13 H fun v14 H =>
  W.cond v14 H
  (fun H => W.indexAddr 1 v11 i_12 H fun v15 H =>
   W.get v15 H fun v16 H =>
   W.call Tryz.prog (.func (.func 76) #[] #[]) #[v16, v7] H fun v17 H =>
   W.call Tryz.prog (.func (.func 75) #[] #[]) #[v17] H fun v18 H =>
   W.extract 0 v18 H fun v19 H =>
   W.extract 1 v18 H fun v20 H =>
   W.new [(.int .i64 0), (.int .i64 0)] 38 H fun v21 H =>
   W.putN 2 v21 v19 H fun _ H =>
   W.bin .neq v20 (.int .i64 0) H fun v22 H =>
   W.cond v22 H
   (fun H => Q (.tuple #[(.slice none 0 0), v20]) H)
   (fun H => W.getN 2 v21 H fun v23 H =>
    W.lit 1 [(.int .i64 0), (.int .i64 0)] 38 [(0, 2, v23)] H fun v24 H =>
    W.append 2 38 out_11 v24 H fun v25 H =>
    W.bin .add i_12 (.int .i64 1) H fun v26 H =>
    I1 (v25, v26, ()) H))
  (fun H => Q (.tuple #[out_11, (.int .i64 0)]) H)
def f25.w (Q : Post) (p_0 : Value) (z_1 : Value) (H : Heap) : Prop :=
  W.box p_0 27 H fun v1 H =>
  W.getN 2 v1 H fun v2 H =>
  W.call Tryz.prog (.func (.func 72) #[] #[]) #[v2, z_1] H fun v3 H =>
  W.bin .neq v3 (.int .i64 0) H fun v4 H =>
  W.cond v4 H
  (fun H => Q (.tuple #[(.slice none 0 0), v3]) H)
  (fun H => W.call Tryz.prog (.func (.func 73) #[] #[]) #[z_1] H fun v5 H =>
   W.extract 0 v5 H fun v6 H =>
   W.extract 1 v5 H fun v7 H =>
   W.extract 2 v5 H fun v8 H =>
   W.un .not v8 H fun v9 H =>
   W.cond v9 H
   (fun H => Q (.tuple #[(.slice none 0 0), (.int .i64 3)]) H)
   (fun H => W.getN 2 v1 H fun v10 H =>
    W.call Tryz.prog (.func (.func 74) #[] #[]) #[v10, v6, v7] H fun v11 H =>
    W.lit 0 [(.int .i64 0), (.int .i64 0)] 38 [] H fun v12 H =>
    W.loop (S := St [11, 12]) (fun I1 s H => f25.l1 Q v11 v7 I1 s.1 s.2.1 H) (v12, (.int .i64 0), ()) H))
theorem f25.enter {Q : Post} {p_0 : Value} {z_1 : Value} {H : Heap} (h : f25.w Q p_0 z_1 H) : Runs Tryz.prog 25 #[p_0, z_1] H Q :=
  fn_enter (ann := [(9, [11, 12])]) (by kernel_rfl) Tryz.func25 rfl (by kernel_rfl) h (by kernel_rfl)

/- loop.example/g01343/spec.IsSolution -/
def f27.w (Q : Post) (p_0 : Value) (z_1 : Value) (H : Heap) : Prop :=
  W.box p_0 27 H fun v1 H =>
  W.getN 2 v1 H fun v2 H =>
  W.call Tryz.prog (.func (.func 72) #[] #[]) #[v2, z_1] H fun v3 H =>
  W.bin .neq v3 (.int .i64 0) H fun v4 H =>
  W.cond v4 H
  (fun H => Q (.tuple #[(.bool false), v3]) H)
  (fun H => W.call Tryz.prog (.func (.func 73) #[] #[]) #[z_1] H fun v5 H =>
   W.extract 0 v5 H fun v6 H =>
   W.extract 1 v5 H fun v7 H =>
   W.extract 2 v5 H fun v8 H =>
   W.un .not v8 H fun v9 H =>
   W.cond v9 H
   (fun H => Q (.tuple #[(.bool false), (.int .i64 3)]) H)
   (fun H => W.getN 2 v1 H fun v10 H =>
    W.call Tryz.prog (.func (.func 77) #[] #[]) #[v10, v6, v7] H fun v11 H =>
    Q (.tuple #[v11, (.int .i64 0)]) H))
theorem f27.enter {Q : Post} {p_0 : Value} {z_1 : Value} {H : Heap} (h : f27.w Q p_0 z_1 H) : Runs Tryz.prog 27 #[p_0, z_1] H Q :=
  fn_enter (ann := []) (by kernel_rfl) Tryz.func27 rfl (by kernel_rfl) h (by kernel_rfl)


noncomputable def reRes (p : Prob) (z : List Frac) : List Frac × Int := open Classical in
  if isProb p = true ∧ Frs z then (if z.length = p.2.length then (match tog 1000000000 1000000000000 z with | none => ([], 3) | some (l, d) => frAll (restL p.2.length p d l) d) else ([], 2)) else ([], 1)
noncomputable def isRes (p : Prob) (z : List Frac) : Bool × Int := open Classical in
  if isProb p = true ∧ Frs z then (if z.length = p.2.length then (match tog 1000000000 1000000000000 z with | none => (false, 3) | some (l, d) => (solV p.2.length p l d, 0)) else (false, 2)) else (false, 1)

theorem fn72 {H0 : Heap} {Q : Post} {cs : List Value} {vz : Value} {P : Prob} {z : List Frac} (hr : Has RProblem H0 cs P) (hz : Has RFS H0 [vz] z)
    (e1 : ¬ (isProb P = true ∧ Frs z) → ∀ H', H0.Le H' → Q (.int .i64 1) H') (e2 : isProb P = true → Frs z → z.length ≠ P.2.length → ∀ H', H0.Le H' → Q (.int .i64 2) H')
    (e3 : isProb P = true → Frs z → z.length = P.2.length → ∀ H', H0.Le H' → Q (.int .i64 0) H') : Runs Tryz.prog 72 #[.agg cs.toArray, vz] H0 Q := by
  obtain ⟨u1, u2, rfl, r1, r2⟩ := hasProb hr
  have hs := hz.small
  have hs2 := r2.small
  refine f72.enter ?_
  unfold f72.w
  have h := (((Loc.start H0).lent hz).lent r2).lent hr
  refine Wl.box h fun H b h => Wl.getA h rfl ?_
  obtain ⟨_, q⟩ := h.rd (cs := [u1, u2])
  refine Wi.call (fn47 q fun H l => ?_)
  have h := h.to l
  cases hp : isProb P with
  | false =>
    simp only [gw]
    exact e1 (fun g => by rw [hp] at g; cases g.1) _ h.le
  | true =>
  simp only [gw]
  refine W.all_rule z.length (fun i => isFr 1000000000 (z.getD i (0, 0))) (fun i H1 J hi _ l hJ => ?_) fun H1 J hall l => ?_
  · have h := h.to l
    refine Wl.lenH (hz.le h.le) (Wi.lssC (fun _ => Wi.tru ?_) fun h => by omega)
    refine Wl.atFrH (hz.le h.le) hi fun _ _ => Wi.call (fn40 fun H3 l3 => Wi.not ?_)
    cases hf : isFr 1000000000 z[i] with
    | false => exact Wi.tru (e1 (fun g => by rw [g.2 _ (List.getElem_mem hi)] at hf; cases hf) _ (h.le.trans l3))
    | true => exact Wi.fls (Wi.add (by unfold I64; omega) (hJ (by rw [fr_at hi]; exact hf) H3 l3))
  have h := h.to l
  have hf : Frs z := fun a ha => by
    obtain ⟨i, hi, rfl⟩ := List.mem_iff_getElem.1 ha
    have := hall i hi
    rw [fr_at hi] at this
    exact this
  refine Wl.lenH (hz.le h.le) (Wi.lssC (fun h => by omega) fun _ => Wi.fls ?_)
  refine Wl.lenH (hz.le h.le) (Wi.fieldAddr (Wl.get h rfl (Wl.len h (Wi.neqC (fun hne => Wi.tru ?_) fun he => Wi.fls ?_))))
  · exact e2 hp hf (fun g => hne (by rw [g])) _ h.le
  · exact e3 hp hf (by omega) _ h.le

theorem fnR14 {H0 : Heap} {Q : Post} {cs : List Value} {vz : Value} {P : Prob} {z : List Frac} (hr : Has RProblem H0 cs P) (hz : Has RFS H0 [vz] z)
    (hQ : ∀ H', H0.Le H' → Q (.tuple #[.bool (isRes P z).1, .int .i64 (isRes P z).2]) H') : Runs Tryz.prog 14 #[.agg cs.toArray, vz] H0 Q := by
  have hk : ∀ H b c, H0.Le H → isRes P z = (b, c) → Q (.tuple #[.bool b, .int .i64 c]) H := fun H b c l e => by
    have := hQ H l
    rw [e] at this
    exact this
  by_cases g : isProb P = true ∧ Frs z
  case pos =>
    by_cases g2 : z.length = P.2.length
    · refine fn14 hr hz g.1 rfl g.2 g2 (fun e H l => hk _ _ _ l (by simp only [isRes, if_pos g, if_pos g2, e])) fun l d e H l1 => hk _ _ _ l1 (by simp only [isRes, if_pos g, if_pos g2, e])
    · have hcl := hr.len
      have h := ((Loc.start H0).lent hz).lent hr
      refine f14.enter (Wl.box h fun H b h => Wl.getA h hcl (Wi.call (fn48 (h.rd (cs := cs)) (h.rd (cs := [vz])) (fun g1 => absurd g g1) (fun _ _ _ H l1 => ?_) fun _ _ e => absurd e g2)))
      exact Wi.neqC (fun _ => Wi.tru (hk _ _ _ (h.to l1).le (by simp only [isRes, if_pos g, if_neg g2]))) fun e => absurd e (by decide)
  case neg =>
    have hcl := hr.len
    have h := ((Loc.start H0).lent hz).lent hr
    refine f14.enter (Wl.box h fun H b h => Wl.getA h hcl (Wi.call (fn48 (h.rd (cs := cs)) (h.rd (cs := [vz])) (fun _ H l1 => ?_) (fun a b => absurd ⟨a, b⟩ g) fun a b => absurd ⟨a, b⟩ g)))
    exact Wi.neqC (fun _ => Wi.tru (hk _ _ _ (h.to l1).le (by simp only [isRes, if_neg g]))) fun e => absurd e (by decide)

theorem fn27 {H0 : Heap} {Q : Post} {cs : List Value} {vz : Value} {P : Prob} {z : List Frac} (hr : Has RProblem H0 cs P) (hz : Has RFS H0 [vz] z)
    (hQ : ∀ H', H0.Le H' → Q (.tuple #[.bool (isRes P z).1, .int .i64 (isRes P z).2]) H') : Runs Tryz.prog 27 #[.agg cs.toArray, vz] H0 Q := by
  have hk : ∀ H b c, H0.Le H → isRes P z = (b, c) → Q (.tuple #[.bool b, .int .i64 c]) H := fun H b c l e => by
    have := hQ H l
    rw [e] at this
    exact this
  have hcl := hr.len
  have h := ((Loc.start H0).lent hz).lent hr
  refine f27.enter (Wl.box h fun H b h => Wl.getA h hcl (Wi.call (fn72 (h.rd (cs := cs)) (h.rd (cs := [vz])) (fun g H l1 => ?_) (fun a c g2 H l1 => ?_) fun hp hf g2 H l1 => ?_)))
  · exact Wi.neqC (fun _ => Wi.tru (hk _ _ _ (h.to l1).le (by simp only [isRes, if_neg g]))) fun e => absurd e (by decide)
  · exact Wi.neqC (fun _ => Wi.tru (hk _ _ _ (h.to l1).le (by simp only [isRes, if_pos (And.intro a c), if_neg g2]))) fun e => absurd e (by decide)
  have h := h.to l1
  have g := And.intro hp hf
  have hpb := PB.of hp
  have hn5 := hpb.n5
  refine Wi.neqC (fun e => absurd rfl e) fun _ => Wi.fls (Wi.call (fn73 (h.rd (cs := [vz])) hf (by omega) (fun e H l1 => ?_) fun l d e H u f => ?_))
  · simp only [gw]
    exact hk _ _ _ (h.to l1).le (by simp only [isRes, if_pos g, if_pos g2, e])
  have h := h.add f.fresh
  obtain ⟨f1, f2, f3, f4⟩ := tog_facts hf (by omega) e
  have hlb : ∀ e ∈ l, e.natAbs ≤ 1000000000000 := fun e he => by have := f4 e he; omega
  simp only [gw]
  refine Wl.getA h hcl (Wi.call (fn77 (h.rd (cs := cs)) (h.rd (cs := [u])) hpb (by omega) (by omega) hlb fun H l1 => ?_))
  exact hk _ _ _ (h.to l1).le (by simp only [isRes, if_pos g, if_pos g2, e])

theorem restL_B64 {n : Nat} {P : Prob} (hp : PB n P) {l : List Int} {d : Int} (hd : d.natAbs ≤ 1000000000) (hl : ∀ e ∈ l, e.natAbs ≤ 1000000000000) : ∀ x ∈ restL n P d l, B64 x := fun x hx => by
  obtain ⟨i, hi, rfl⟩ := List.getElem_of_mem hx
  rw [restL_at]
  obtain ⟨b1, b2, b3⟩ := rest_bound hp hd hl i
  unfold B64
  omega

theorem fn13 {H0 : Heap} {Q : Post} {cs : List Value} {vz : Value} {P : Prob} {z : List Frac} (hr : Has RProblem H0 cs P) (hz : Has RFS H0 [vz] z)
    (hQ : ∀ H' u, H0.Le H' → Fresh RFS H0 [u] (reRes P z).1 H' → Q (.tuple #[u, .int .i64 (reRes P z).2]) H') : Runs Tryz.prog 13 #[.agg cs.toArray, vz] H0 Q := by
  have hk : ∀ H u l c, H0.Le H → Fresh RFS H0 [u] l H → reRes P z = (l, c) → Q (.tuple #[u, .int .i64 c]) H := fun H u l c l1 f e => by
    have := hQ H u l1 (by rw [e]; exact f)
    rw [e] at this
    exact this
  have hcl := hr.len
  have h := ((Loc.start H0).lent hz).lent hr
  refine f13.enter (Wl.box h fun H b h => Wl.getA h hcl (Wi.call (fn48 (h.rd (cs := cs)) (h.rd (cs := [vz])) (fun g H l1 => ?_) (fun a c g2 H l1 => ?_) fun hp hf g2 H l1 => ?_)))
  · exact Wi.neqC (fun _ => Wi.tru (hk _ _ _ _ (h.to l1).le (fresh_nil (h.to l1).le) (by simp only [reRes, if_neg g]))) fun e => absurd e (by decide)
  · exact Wi.neqC (fun _ => Wi.tru (hk _ _ _ _ (h.to l1).le (fresh_nil (h.to l1).le) (by simp only [reRes, if_pos (And.intro a c), if_neg g2]))) fun e => absurd e (by decide)
  have h := h.to l1
  have g := And.intro hp hf
  have hpb := PB.of hp
  have hn5 := hpb.n5
  refine Wi.neqC (fun e => absurd rfl e) fun _ => Wi.fls (Wi.call (fn49 (h.rd (cs := [vz])) hf (by omega) (by omega) (by omega) (fun e H l1 => ?_) fun l d e H u f => ?_))
  · simp only [gw]
    exact hk _ _ _ _ (h.to l1).le (fresh_nil (h.to l1).le) (by simp only [reRes, if_pos g, if_pos g2, e])
  have h := h.add f.fresh
  obtain ⟨f1, f2, f3, f4⟩ := tog_facts hf (by omega) e
  have hlb : ∀ e ∈ l, e.natAbs ≤ 1000000000000 := fun e he => by have := f4 e he; omega
  simp only [gw]
  refine Wl.getA h hcl (Wi.call (fn50 (h.rd (cs := cs)) (h.rd (cs := [u])) hpb (by omega) (by omega) hlb fun H w f2 => ?_))
  have h := h.add f2
  refine Wi.call (fn37 (h.rd (cs := [w])) (restL_B64 hpb (by omega) hlb) (by unfold B64; omega) (by omega) (by rw [restL_len]; omega) fun H y f3 => ?_)
  have h := h.add f3
  simp only [gw]
  exact hk _ _ _ _ h.le (h.ret (i := 0) rfl) (by simp only [reRes, if_pos g, if_pos g2, e])

theorem fn25 {H0 : Heap} {Q : Post} {cs : List Value} {vz : Value} {P : Prob} {z : List Frac} (hr : Has RProblem H0 cs P) (hz : Has RFS H0 [vz] z)
    (hQ : ∀ H' u, H0.Le H' → Fresh RFS H0 [u] (reRes P z).1 H' → Q (.tuple #[u, .int .i64 (reRes P z).2]) H') : Runs Tryz.prog 25 #[.agg cs.toArray, vz] H0 Q := by
  have hk : ∀ H u l c, H0.Le H → Fresh RFS H0 [u] l H → reRes P z = (l, c) → Q (.tuple #[u, .int .i64 c]) H := fun H u l c l1 f e => by
    have := hQ H u l1 (by rw [e]; exact f)
    rw [e] at this
    exact this
  have hcl := hr.len
  have h := ((Loc.start H0).lent hz).lent hr
  refine f25.enter ?_
  unfold f25.w
  refine Wl.box h fun H b h => Wl.getA h hcl (Wi.call (fn72 (h.rd (cs := cs)) (h.rd (cs := [vz])) (fun g H l1 => ?_) (fun a c g2 H l1 => ?_) fun hp hf g2 H l1 => ?_))
  · exact Wi.neqC (fun _ => Wi.tru (hk _ _ _ _ (h.to l1).le (fresh_nil (h.to l1).le) (by simp only [reRes, if_neg g]))) fun e => absurd e (by decide)
  · exact Wi.neqC (fun _ => Wi.tru (hk _ _ _ _ (h.to l1).le (fresh_nil (h.to l1).le) (by simp only [reRes, if_pos (And.intro a c), if_neg g2]))) fun e => absurd e (by decide)
  have h := h.to l1
  have g := And.intro hp hf
  have hpb := PB.of hp
  have hn5 := hpb.n5
  refine Wi.neqC (fun e => absurd rfl e) fun _ => Wi.fls (Wi.call (fn73 (h.rd (cs := [vz])) hf (by omega) (fun e H l1 => ?_) fun l d e H u f => ?_))
  · simp only [gw]
    exact hk _ _ _ _ (h.to l1).le (fresh_nil (h.to l1).le) (by simp only [reRes, if_pos g, if_pos g2, e])
  have h := h.add f.fresh
  obtain ⟨f1, f2, f3, f4⟩ := tog_facts hf (by omega) e
  have hlb : ∀ e ∈ l, e.natAbs ≤ 1000000000000 := fun e he => by have := f4 e he; omega
  have hres : reRes P z = frAll (restL P.2.length P d l) d := by simp only [reRes, if_pos g, if_pos g2, e]
  simp only [gw]
  refine Wl.getA h hcl (Wi.call (fn74 (h.rd (cs := cs)) (h.rd (cs := [u])) hpb (by omega) (by omega) hlb fun H w f2 => ?_))
  have h := h.add f2
  have hB := restL_B64 hpb (d := d) (by omega) hlb
  have hwl := restL_len P.2.length P d l
  generalize restL P.2.length P d l = R at *
  refine Wl.lit0 RFrac (ty := 38) rfl h fun H y h => ?_
  refine W.for_rule R.length (fun i s H => ∃ y, s = (y, .int .i64 (i : Nat), ()) ∧ Ab.Loc H0 [.grow RFrac 38 y ((R.take i).map fun n => (fracT n d).1), .data RS [w] R] H ∧ ∀ j (hj : j < R.length), j < i → (fracT R[j] d).2 = 0) ⟨_, rfl, h.first 2, fun j _ hj => by omega⟩ ?_
  rintro i s H J hi ⟨y, rfl, h, hok⟩ hJ
  refine Wl.len h (Wi.lssC (fun hlt => Wi.tru ?_) fun hge => Wi.fls ?_)
  · have hil : i < R.length := by omega
    refine Wl.atInt h hil fun _ => Wi.call (fn76 (hB _ (List.getElem_mem hil)) (by unfold B64; omega) (by omega) fun H l1 => Wi.call (fn75 fun H l2 => ?_))
    have h := h.to (l1.trans l2)
    have ht : (if isFr 1000000000 (frac R[i] d) = true then (frac R[i] d, 0) else ((0, 0), 3) : Frac × Int) = fracT R[i] d := rfl
    rw [ht]
    simp only [g11, g12]
    refine Wl.new h fun H b3 h => Wl.putA (vs := frC _) h rfl rfl rfl fun H h => Wi.neqC (fun hne => Wi.tru ?_) fun he2 => Wi.fls (Wl.getA h rfl ?_)
    · obtain ⟨e1, e2⟩ := frAll_bad hil hne
      rw [e2]
      exact hk _ _ _ _ h.le (fresh_nil h.le) (hres.trans e1)
    · refine Wl.pushP (r := RFrac) (x := (fracT R[i] d).1) rfl rfl rfl (frac_rel (fracT_i64 _ _)) h.tl (by simp; omega) fun H u' h => Wi.add (by unfold I64; omega) (hJ _ _ hil ⟨u', rfl, ?_, fun j hj hji => ?_⟩)
      · rw [List.take_succ_eq_append_getElem hil, List.map_append]
        exact h
      · by_cases e : j = i
        · subst e; exact he2
        · exact hok j hj (by omega)
  · have : i = R.length := by omega
    subst this
    rw [List.take_length] at h
    have e := frAll_ok fun j hj => hok j hj (by omega)
    exact hk _ _ _ _ h.le ((h.asData (i := 0) rfl).ret (i := 0) rfl) (hres.trans e)

end Go.Proofs.YtgdiebnokgnniaaGreatDoor
