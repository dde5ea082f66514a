/- The contract of the program's determinant: Bareiss' steps, rows exchanged where needed. No condition. -/
import Derived.Test.YtbcfknboheghkaaGreatGNN
import Derived.Test.YtbcfknboheghkaaGreatGAA
import Derived.Test.YtbcfknboheghkaaGreatZabG7
import Derived.Test.YtbcfknboheghkaaGreatZabG8
import Derived.Test.YtbcfknboheghkaaGreatZabG9
import Derived.Test.YtbcfknboheghkaaGreatZabG4
import Derived.Test.YtbcfknboheghkaaGreatGQQ
import Derived.Test.YtbcfknboheghkaaGreatGGM
namespace Go.Proofs.YtbcfknboheghkaaGreat
open Go.Ab

/- loop.example/g01343/impl.determinant -/
/- loop.example/g01343/impl.determinant$1 -/
end Go.Proofs.YtbcfknboheghkaaGreat
/-! The contract of sign. No condition. -/
namespace Go.Proofs.YtbcfknboheghkaaGreat
open Go.Ab

/- loop.example/g01343/impl.sign -/
def f152.w (Q : Post) (n_0 : Value) (H : Heap) : Prop :=
  W.bin .lss n_0 (.int .i64 0) H fun v1 H =>
  W.cond v1 H
  (fun H => Q (.int .i64 (-1)) H)
  (fun H => W.bin .gtr n_0 (.int .i64 0) H fun v2 H =>
   W.cond v2 H
   (fun H => Q (.int .i64 1) H)
   (fun H => Q (.int .i64 0) H))
theorem f152.enter {Q : Post} {n_0 : Value} {H : Heap} (h : f152.w Q n_0 H) : Runs Tryz.prog 152 #[n_0] H Q :=
  fn_enter (ann := []) (by kernel_rfl) Tryz.func152 rfl (by kernel_rfl) h (by kernel_rfl)


theorem fn152 {H0 : Heap} {Q : Post} {x : Int} (hQ : Q (.int .i64 (sgI x)) H0) : Runs Tryz.prog 152 #[.int .i64 x] H0 Q := by
  unfold sgI at hQ
  refine f152.enter (Wi.lssC (fun h => Wi.tru ?_) fun h => Wi.fls (Wi.gtrC (fun h2 => Wi.tru ?_) fun h2 => Wi.fls ?_))
  · rw [if_pos h] at hQ; exact hQ
  · rw [if_neg h, if_pos h2] at hQ; exact hQ
  · rw [if_neg h, if_neg h2] at hQ; exact hQ

end Go.Proofs.YtbcfknboheghkaaGreat

/-! Contracts of the program's columns, solve and point. No condition. -/
namespace Go.Proofs.YtbcfknboheghkaaGreat
open Go.Ab

/- loop.example/g01343/impl.has -/
/- loop.example/g01343/impl.put -/
/- (loop.example/g01343/impl.Problem).column -/
/- (loop.example/g01343/impl.Problem).columns -/
/- (loop.example/g01343/impl.Problem).solve -/
/- (loop.example/g01343/impl.Problem).point -/
theorem range_set {n x : Nat} {f g : Nat → Int} {y : Int} (h : g x = y) (hk : ∀ k, k < n → k ≠ x → g k = f k) : ((List.range n).map f).set x y = (List.range n).map g := by
  apply List.ext_getElem
  · simp
  · intro k h1 h2
    rw [List.getElem_set]
    have hkn : k < n := by simpa using h2
    simp only [List.getElem_map, List.getElem_range]
    by_cases e : x = k
    · subst e; rw [if_pos rfl, h]
    · rw [if_neg e, hk k hkn fun g => e g.symm]

end Go.Proofs.YtbcfknboheghkaaGreat

/-! The contracts of the program's IsSolution and IsStationary. No condition. -/
namespace Go.Proofs.YtbcfknboheghkaaGreat
open Go.Ab

/- loop.example/g01343/impl.fracsCode -/
def f74.w (Q : Post) (p_0 : Value) (z_1 : Value) (H : Heap) : Prop :=
  W.box p_0 43 H fun v1 H =>
  W.getN 2 v1 H fun v2 H =>
  W.call Tryz.prog (.func (.func 122) #[] #[]) #[v2] H fun v3 H =>
  W.un .not v3 H fun v4 H =>
  W.guarded v4 false (fun H k => k z_1 H) H fun v5 H =>
  W.guarded v4 false (fun H k => W.call Tryz.prog (.func (.func 116) #[] #[]) #[v5] H k) H fun v6 H =>
  W.guarded v4 false (fun H k => W.un .not v6 H k) H fun v7 H =>
  W.pick v4 (.bool true) v7 H fun v8 H =>
  W.cond v8 H
  (fun H => Q (.int .i64 1) H)
  (fun H => W.len z_1 H fun v9 H =>
   W.fieldAddr 1 v1 H fun v10 H =>
   W.get v10 H fun v11 H =>
   W.len v11 H fun v12 H =>
   W.bin .neq v9 v12 H fun v13 H =>
   W.cond v13 H
   (fun H => Q (.int .i64 2) H)
   (fun H => Q (.int .i64 0) H))
theorem f74.enter {Q : Post} {p_0 : Value} {z_1 : Value} {H : Heap} (h : f74.w Q p_0 z_1 H) : Runs Tryz.prog 74 #[p_0, z_1] H Q :=
  fn_enter (ann := []) (by kernel_rfl) Tryz.func74 rfl (by kernel_rfl) h (by kernel_rfl)

/- (loop.example/g01343/impl.Problem).rest -/
def f76.l1 (Q : Post) (v6 : Value) (v5 : Value) (v1 : Value) (den_2 : Value) (z_1 : Value) (v3 : Value) (I1 : St [16] → Heap → Prop) (x_16 : Value) (H : Heap) : Prop :=
  W.bin .lss x_16 v6 H fun v7 H =>
  W.cond v7 H
  (fun H => W.indexAddr 1 v5 x_16 H fun v8 H =>
   W.get v8 H fun v9 H =>
   W.fieldAddr 1 v1 H fun v10 H =>
   W.get v10 H fun v11 H =>
   W.indexAddr 1 v11 x_16 H fun v12 H =>
   W.get v12 H fun v13 H =>
   W.bin .mul v13 den_2 H fun v14 H =>
   W.callQ Tryz.prog (.func (.func 117) #[] #[]) #[v9, z_1] H fun v15 H =>
   W.bin .add v14 v15 H fun v16 H =>
   W.indexAddr 1 v3 x_16 H fun v17 H =>
   W.put v17 v16 H fun _ H =>
   W.bin .add x_16 (.int .i64 1) H fun v18 H =>
   I1 (v18, ()) H)
  (fun H => Q v3 H)
def f76.w (Q : Post) (p_0 : Value) (z_1 : Value) (den_2 : Value) (H : Heap) : Prop :=
  W.box p_0 43 H fun v1 H =>
  W.len z_1 H fun v2 H =>
  W.make [(.int .i64 0)] 2 v2 v2 H fun v3 H =>
  W.fieldAddr 0 v1 H fun v4 H =>
  W.get v4 H fun v5 H =>
  W.len v5 H fun v6 H =>
  W.loop (S := St [16]) (fun I1 s H => f76.l1 Q v6 v5 v1 den_2 z_1 v3 I1 s.1 H) ((.int .i64 0), ()) H
theorem f76.enter {Q : Post} {p_0 : Value} {z_1 : Value} {den_2 : Value} {H : Heap} (h : f76.w Q p_0 z_1 den_2 H) : Runs Tryz.prog 76 #[p_0, z_1, den_2] H Q :=
  fn_enter (ann := [(3, [16])]) (by kernel_rfl) Tryz.func76 rfl (by kernel_rfl) h (by kernel_rfl)

/- loop.example/g01343/impl.IsSolution -/
def f17.l1 (Q : Post) (v12 : Value) (v11 : Value) (v6 : Value) (I1 : St [31] → Heap → Prop) (x_31 : Value) (H : Heap) : Prop :=
  W.bin .lss x_31 v12 H fun v13 H =>
  W.cond v13 H
  (fun H => W.indexAddr 1 v11 x_31 H fun v14 H =>
   W.get v14 H fun v15 H =>
   W.bin .lss v15 (.int .i64 0) H fun v16 H =>
   W.guarded v16 false (fun H k => k v6 H) H fun v17 H =>
   W.guarded v16 false (fun H k => k x_31 H) H fun v18 H =>
   W.guarded v16 false (fun H k => W.indexAddr 1 v17 v18 H k) H fun v19 H =>
   W.guarded v16 false (fun H k => W.get v19 H k) H fun v20 H =>
   W.guarded v16 false (fun H k => W.bin .lss v20 (.int .i64 0) H k) H fun v21 H =>
   W.pick v16 (.bool true) v21 H fun v22 H =>
   W.guarded v22 false (fun H k => k v15 H) H fun v23 H =>
   W.guarded v22 false (fun H k => W.bin .gtr v23 (.int .i64 0) H k) H fun v24 H =>
   W.guarded v22 false (fun H k => k v24 H) H fun v25 H =>
   W.guarded v25 true (fun H k => k v6 H) H fun v26 H =>
   W.guarded v25 true (fun H k => k x_31 H) H fun v27 H =>
   W.guarded v25 true (fun H k => W.indexAddr 1 v26 v27 H k) H fun v28 H =>
   W.guarded v25 true (fun H k => W.get v28 H k) H fun v29 H =>
   W.guarded v25 true (fun H k => W.bin .gtr v29 (.int .i64 0) H k) H fun v30 H =>
   W.guarded v22 false (fun H k => W.pick v25 v30 (.bool false) H k) H fun v31 H =>
   W.pick v22 (.bool true) v31 H fun v32 H =>
   W.cond v32 H
   (fun H => Q (.tuple #[(.bool false), (.int .i64 0)]) H)
   (fun H => W.bin .add x_31 (.int .i64 1) H fun v33 H =>
    I1 (v33, ()) H))
  (fun H => Q (.tuple #[(.bool true), (.int .i64 0)]) H)
def f17.w (Q : Post) (p_0 : Value) (z_1 : Value) (H : Heap) : Prop :=
  W.box p_0 43 H fun v1 H =>
  W.getN 2 v1 H fun v2 H =>
  W.call Tryz.prog (.func (.func 74) #[] #[]) #[v2, z_1] H fun v3 H =>
  W.bin .neq v3 (.int .i64 0) H fun v4 H =>
  W.cond v4 H
  (fun H => Q (.tuple #[(.bool false), v3]) H)
  (fun H => W.call Tryz.prog (.func (.func 75) #[] #[]) #[z_1, (.int .i64 1000000000), (.int .i64 1000000000000)] H fun v5 H =>
   W.extract 0 v5 H fun v6 H =>
   W.extract 1 v5 H fun v7 H =>
   W.extract 2 v5 H fun v8 H =>
   W.un .not v8 H fun v9 H =>
   W.cond v9 H
   (fun H => Q (.tuple #[(.bool false), (.int .i64 3)]) H)
   (fun H => W.getN 2 v1 H fun v10 H =>
    W.call Tryz.prog (.func (.func 76) #[] #[]) #[v10, v6, v7] H fun v11 H =>
    W.len v11 H fun v12 H =>
    W.loop (S := St [31]) (fun I1 s H => f17.l1 Q v12 v11 v6 I1 s.1 H) ((.int .i64 0), ()) H))
theorem f17.enter {Q : Post} {p_0 : Value} {z_1 : Value} {H : Heap} (h : f17.w Q p_0 z_1 H) : Runs Tryz.prog 17 #[p_0, z_1] H Q :=
  fn_enter (ann := [(8, [31])]) (by kernel_rfl) Tryz.func17 rfl (by kernel_rfl) h (by kernel_rfl)


theorem fn74 {H0 : Heap} {Q : Post} {cs : List Value} {vz : Value} {P : Prob} {z : List Frac} (hr : Has RProblem H0 cs P) (hz : Has RFS H0 [vz] z)
    (e1 : ¬ (isProb P = true ∧ Frs z) → ∀ H', H0.Le H' → Q (.int .i64 1) H') (e2 : isProb P = true → Frs z → z.length ≠ P.2.length → ∀ H', H0.Le H' → Q (.int .i64 2) H')
    (e3 : isProb P = true → Frs z → z.length = P.2.length → ∀ H', H0.Le H' → Q (.int .i64 0) H') : Runs Tryz.prog 74 #[.agg cs.toArray, vz] H0 Q := by
  obtain ⟨u1, u2, rfl, r1, r2⟩ := hasProb hr
  have h := (((Loc.start H0).lent r2).lent hz).lent hr
  have hs := hz.small
  have hs2 := r2.small
  refine f74.enter (Wl.box h fun H b h => Wl.getA h rfl ?_)
  obtain ⟨_, q⟩ := h.rd (cs := [u1, u2])
  refine Wi.call (fn122 q fun H l => ?_)
  have h := h.to l
  cases hp : isProb P with
  | false =>
    simp only [gw]
    exact e1 (fun g => by rw [hp] at g; cases g.1) _ h.le
  | true =>
    simp only [gw]
    refine Wi.call (fn116 (h.rd (cs := [vz])) fun H t l ht => ?_)
    have h := h.to l
    cases t with
    | false =>
      simp only [gw]
      exact e1 (fun g => Bool.noConfusion (ht.2 g.2)) _ h.le
    | true =>
      simp only [gw]
      have hf := ht.1 rfl
      refine Wl.len h (Wi.fieldAddr (Wl.get h rfl (Wl.len h (Wi.neqC (fun hne => Wi.tru ?_) fun he => Wi.fls ?_))))
      · exact e2 hp hf (fun g => hne (by rw [g])) _ h.le
      · exact e3 hp hf (by omega) _ h.le

theorem fn76 {H0 : Heap} {Q : Post} {cs : List Value} {vl : Value} {P : Prob} {l : List Int} {d : Int} {n : Nat} (hr : Has RProblem H0 cs P) (hl : Has RS H0 [vl] l) (hp : PB n P) (hln : l.length = n) (hd : d.natAbs ≤ 1000000000) (hlb : ∀ e ∈ l, e.natAbs ≤ 1000000000000)
    (hQ : ∀ H' u, Fresh RS H0 [u] (restL n P d l) H' → Q u H') : Runs Tryz.prog 76 #[.agg cs.toArray, vl, .int .i64 d] H0 Q := by
  obtain ⟨u1, u2, rfl, r1, r2⟩ := hasProb hr
  have hn := hp.n5; have hql := hp.ql; have hsq := hp.sq; have hl1 := hsq.1
  have h := (((Loc.start H0).lent r2).lent r1).lent hl
  refine f76.enter (Wl.box h fun H b h => Wl.len h ?_)
  rw [hln]
  refine Wl.make (r := Rd.int) (z := 0) (fun _ => ⟨rfl, rfl, by unfold I64; omega⟩) h (by omega) (by decide) fun H u h => Wi.fieldAddr0 (Wl.get h rfl (Wl.len h ?_))
  have h := h.asData (i := 0) rfl
  have e0 : List.replicate n (0 : Int) = (List.range n).map fun k => if k < 0 then restN P d l k else 0 := by
    apply List.ext_getElem <;> simp
  rw [e0] at h
  refine W.for_rule n (fun x st H => st = (.int .i64 (x : Nat), ()) ∧ Ab.Loc H0 [.data RS [u] ((List.range n).map fun k => if k < x then restN P d l k else 0), .box b [u1, u2], .lent RS [vl] l, .lent RSS [u1] P.1, .lent RS [u2] P.2] H) ⟨rfl, h⟩ ?_
  rintro x st H J hx ⟨rfl, h⟩ hJ
  refine Wi.lssC (fun hlt => Wi.tru ?_) fun hge => Wi.fls ?_
  · have hxn : x < n := by omega
    have hxm : x < P.1.length := by omega
    have hxq : x < P.2.length := by omega
    have hrow := hp.row _ (List.getElem_mem hxm)
    have hrl := hsq.2 _ (List.getElem_mem hxm)
    obtain ⟨b1, b2, b3⟩ := rest_bound hp hd hlb x
    have ev : restN P d l x = P.2[x] * d + dot P.1[x] l := by unfold restN; rw [getD_at hxq, getD_row hxm]
    rw [getD_at hxq] at b1
    rw [ev] at b3
    have hs5 : P.1[x].length * (20 * 1000000000000) < 9223372036854775808 := Nat.lt_of_le_of_lt (Nat.mul_le_mul_right _ hrow.1) (by decide)
    refine Wl.at1 rfl h hxm fun w hw => Wi.fieldAddr (Wl.get h rfl (Wl.atInt h hxq fun _ => Wi.mul (i64A b1 (by decide)) (Wi.callQ (fn117 hw (h.rd (cs := [vl])) (by omega) hrow.2 hlb hs5 ⟨.refl _, Wi.add (i64A b3 (by decide)) ?_⟩))))
    refine Wl.setInt h (by simpa using hxn) (i64A b3 (by decide)) fun H h => Wi.add (by unfold I64; omega) (hJ _ _ hxn ⟨rfl, ?_⟩)
    rw [range_set (g := fun k => if k < x + 1 then restN P d l k else 0) (by simp [ev]) (fun k _ hk => by
      by_cases g : k < x
      · rw [if_pos g, if_pos (by omega)]
      · rw [if_neg g, if_neg (by omega)])] at h
    exact h
  · have : x = n := by omega
    subst this
    refine hQ _ _ ?_
    have e : restL x P d l = (List.range x).map fun k => if k < x then restN P d l k else 0 := List.map_congr_left fun k hk => by rw [if_pos (by simpa using hk)]
    rw [e]
    exact h.ret (i := 0) rfl

theorem fn17 {H0 : Heap} {Q : Post} {cs : List Value} {vz : Value} {P : Prob} {z : List Frac} {n : Nat} (hr : Has RProblem H0 cs P) (hz : Has RFS H0 [vz] z) (hp : isProb P = true) (hn : P.2.length = n) (hf : Frs z) (hl : z.length = n)
    (e1 : tog 1000000000 1000000000000 z = none → ∀ H', H0.Le H' → Q (.tuple #[.bool false, .int .i64 3]) H')
    (e2 : ∀ l d, tog 1000000000 1000000000000 z = some (l, d) → ∀ H', H0.Le H' → Q (.tuple #[.bool (solV n P l d), .int .i64 0]) H') : Runs Tryz.prog 17 #[.agg cs.toArray, vz] H0 Q := by
  have hpb := PB.of hp
  rw [hn] at hpb
  have hn5 := hpb.n5
  have hcl := hr.len
  have h := ((Loc.start H0).lent hz).lent hr
  refine f17.enter (Wl.box h fun H b h => Wl.getA h hcl (Wi.call (fn74 (h.rd (cs := cs)) (h.rd (cs := [vz])) (fun g => absurd ⟨hp, hf⟩ g) (fun _ _ g => absurd (hl.trans hn.symm) g) fun _ _ _ H l1 => ?_)))
  have h := h.to l1
  refine Wi.neqC (fun g => absurd rfl g) fun _ => Wi.fls (Wi.call (fn75 (h.rd (cs := [vz])) hf (by omega) (by omega) (by omega) (fun g H l1 => ?_) fun l d g H u f => ?_))
  · simp only [gw]
    exact e1 g _ (h.to l1).le
  have h := h.add f.fresh
  obtain ⟨f1, f2, f3, f4⟩ := tog_facts hf (by omega) g
  have hlb : ∀ e ∈ l, e.natAbs ≤ 1000000000000 := fun e he => by have := f4 e he; omega
  simp only [gw]
  refine Wl.getA h hcl (Wi.call (fn76 (h.rd (cs := cs)) (h.rd (cs := [u])) hpb (by omega) (by omega) hlb fun H w f2 => ?_))
  have h := h.add f2
  have hwl := restL_len n P d l
  refine Wl.len h (W.all_rule n (fun i => okI (restN P d l i) (l.getD i 0)) (fun i H1 J hi _ l1 hJ => ?_) fun H1 J hall l1 => ?_)
  · have h := h.to l1
    have hiw : i < (restL n P d l).length := by omega
    have hil : i < l.length := by omega
    have ew := restL_at P d l hiw
    have el : l.getD i 0 = l[i] := getD_at hil
    have bad : okI (restN P d l i) (l.getD i 0) = false → Q (.tuple #[.bool false, .int .i64 0]) H1 := fun hb => by
      have := e2 l d g _ h.le
      rw [show solV n P l d = false from allN_false hi hb] at this
      exact this
    have good : okI (restN P d l i) (l.getD i 0) = true → W.bin .add (.int .i64 (i : Nat)) (.int .i64 1) H1 fun v33 H => J (v33, ()) H := fun hb => Wi.add (by unfold I64; omega) (hJ hb _ (.refl _))
    rw [el] at bad good
    refine Wi.lssC (fun _ => Wi.tru ?_) fun h => by omega
    refine Wl.atInt h hiw fun _ => ?_
    rw [ew]
    refine Wi.lssC (fun h1 => ?_) fun h1 => ?_
    · simp only [gw]
      exact bad (by simp [okI]; omega)
    simp only [gw]
    refine Wl.atInt h hil fun _ => Wi.lssC (fun h2 => ?_) fun h2 => ?_
    · simp only [gw]
      exact bad (by simp [okI]; omega)
    simp only [gw]
    refine Wi.gtrC (fun h3 => ?_) fun h3 => ?_
    · simp only [gw]
      refine Wl.atInt h hil fun _ => Wi.gtrC (fun h4 => ?_) fun h4 => ?_
      · simp only [gw]
        exact bad (by simp [okI]; omega)
      · simp only [gw]
        exact good (okI_iff.2 ⟨by omega, by omega, by omega⟩)
    · simp only [gw]
      exact good (okI_iff.2 ⟨by omega, by omega, by omega⟩)
  · have h := h.to l1
    refine Wi.lssC (fun h => by omega) fun _ => Wi.fls ?_
    have := e2 l d g _ h.le
    rw [show solV n P l d = true from allN_true hall] at this
    exact this


end Go.Proofs.YtbcfknboheghkaaGreat

/-! Nothing but 0 solves a game's problem. No condition. -/
namespace Go.Proofs.YtbcfknboheghkaaGreat
open Go.Ab

abbrev zerosF (n : Nat) : List Frac := List.replicate n ((0, 1) : Frac)

theorem com_z {n : Nat} : ∀ i, comTo (zerosF n) i = 1
  | 0 => rfl
  | i + 1 => by
    have e : ((zerosF n).getD i (0, 1)).2 = 1 := by
      simp only [List.getD_eq_getElem?_getD, List.getElem?_replicate]
      split <;> rfl
    simp only [comTo]
    rw [com_z i, e]
    decide

theorem tog_z {a b : Int} {n : Nat} (ha : 1 ≤ a) (hb : 0 ≤ b) : tog a b (zerosF n) = some (List.replicate n 0, 1) := by
  have hok : okNum b 1 (zerosF n) := fun x hx => by
    rw [List.eq_of_mem_replicate hx]
    show -b ≤ 0 * (1 : Int).tdiv 1 ∧ 0 * (1 : Int).tdiv 1 ≤ b
    omega
  have hden : okDen a (zerosF n) := fun i _ => by rw [com_z]; exact ha
  unfold tog
  rw [com_z, if_pos ⟨hden, hok⟩, List.map_replicate]
  rfl

theorem frs_z {n : Nat} : Frs (zerosF n) := fun a ha => by
  rw [List.eq_of_mem_replicate ha]
  exact isFr_iff.2 ⟨by decide, by decide, by decide⟩

theorem gm_prob {g : Game} (hg : IsGm g) : isProb (gmP g) = true := by
  have kl := hg.kl
  have k1 := hg.k1
  have l1 := hg.l1
  have hnn : nG g = g.1.length + lw g := rfl
  have hl : (gmP g).1.length = nG g := tabL_len _ _
  have hq : (gmP g).2.length = nG g := by simp [gmP]
  have hrows : ∀ r ∈ (gmP g).1, r.length = nG g ∧ ∀ x ∈ r, -20 ≤ x ∧ x ≤ 20 := fun r hr => by
    obtain ⟨i, _, rfl⟩ := List.mem_map.1 hr
    refine ⟨by simp, fun x hx => ?_⟩
    obtain ⟨c, _, rfl⟩ := List.mem_map.1 hx
    have hb : ∀ (m : List (List Int)) (_ : ∀ r ∈ m, r.length = lw g ∧ ∀ x ∈ r, 1 ≤ x ∧ x ≤ 20) (a b : Nat), 0 ≤ mAt m a b ∧ mAt m a b ≤ 20 := fun m hm a b => by
      simp only [mAt, List.getD_eq_getElem?_getD]
      cases ha : m[a]? with
      | none => simp
      | some r =>
        simp only [Option.getD_some]
        cases hb : r[b]? with
        | none => simp
        | some x =>
          have := (hm r (List.mem_of_getElem? ha)).2 x (List.mem_of_getElem? hb)
          simp only [Option.getD_some]
          omega
    unfold gmE
    split
    · have := hb g.1 hg.a i (c - g.1.length); omega
    · split
      · have := hb g.2 hg.b c (i - g.1.length); omega
      · decide
  unfold isProb isMat isSq
  rw [hl, hq]
  simp only [Bool.and_eq_true, decide_eq_true_eq, List.all_eq_true]
  refine ⟨⟨⟨⟨inR_iff.2 ⟨by omega, by omega⟩, trivial, fun r hr => (hrows r hr).1⟩, fun r hr => ?_⟩, trivial⟩, ?_⟩
  · unfold allUp
    exact List.all_eq_true.2 fun x hx => inR_iff.2 ((hrows r hr).2 x hx)
  · unfold allUp
    refine List.all_eq_true.2 fun x hx => ?_
    rw [List.eq_of_mem_replicate hx]
    decide

theorem gm_zero {g : Game} : solV (nG g) (gmP g) (List.replicate (nG g) 0) 1 = true := by
  unfold solV allN
  rw [List.all_eq_true]
  intro i hi
  have hi : i < nG g := by simpa using hi
  have e1 : (List.replicate (nG g) (0 : Int)).getD i 0 = 0 := by simp [List.getD_eq_getElem?_getD, List.getElem?_replicate, hi]
  have e2 : dot ((gmP g).1.getD i []) (List.replicate (nG g) (0 : Int)) = 0 := by
    unfold dot
    have : ∀ n, sumTo (dotF ((gmP g).1.getD i []) (List.replicate (nG g) (0 : Int))) n = 0 := fun n => by
      induction n with
      | zero => rfl
      | succ n ih =>
        simp only [sumTo]
        rw [ih]
        have z : (List.replicate (nG g) (0 : Int)).getD n 0 = 0 := by
          simp only [List.getD_eq_getElem?_getD, List.getElem?_replicate]
          split <;> rfl
        show 0 + ((gmP g).1.getD i []).getD n 0 * (List.replicate (nG g) (0 : Int)).getD n 0 = 0
        rw [z, Int.mul_zero]
        rfl
    exact this _
  have e3 : (gmP g).2.getD i 0 = 1 := by simp [gmP, List.getD_eq_getElem?_getD, List.getElem?_replicate, hi]
  rw [okI_iff]
  unfold restN
  rw [e1, e2, e3]
  decide

end Go.Proofs.YtbcfknboheghkaaGreat
