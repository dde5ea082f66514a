/- The contracts of the program's IsSolution and IsStationary. No condition. -/
import Derived.Test.YtdchibdcfdbcpaaGreatGYY
import Derived.Test.YtdchibdcfdbcpaaGreatGMM
import Derived.Test.YtdchibdcfdbcpaaGreatGQQ
import Derived.Test.YtdchibdcfdbcpaaGreatGCC
import Derived.Test.YtdchibdcfdbcpaaGreatGWW
import Derived.Test.YtdchibdcfdbcpaaGreatGMX
import Derived.Test.YtdchibdcfdbcpaaGreatGQX
import Derived.Test.YtdchibdcfdbcpaaGreatGDD
namespace Go.Proofs.YtdchibdcfdbcpaaGreat
open Go.Ab

/- loop.example/g01343/impl.fracsCode -/
def f127.w (Q : Post) (p_0 : Value) (z_1 : Value) (H : Heap) : Prop :=
  W.box p_0 62 H fun v1 H =>
  W.getN 2 v1 H fun v2 H =>
  W.call Tryz.prog (.func (.func 157) #[] #[]) #[v2] H fun v3 H =>
  W.un .not v3 H fun v4 H =>
  W.guarded v4 false (fun H k => k z_1 H) H fun v5 H =>
  W.guarded v4 false (fun H k => W.call Tryz.prog (.func (.func 80) #[] #[]) #[v5] H k) H fun v6 H =>
  W.guarded v4 false (fun H k => W.un .not v6 H k) H fun v7 H =>
  W.pick v4 (.bool true) v7 H fun v8 H =>
  W.cond v8 H
  (fun H => Q (.int .i64 1) H)
  (fun H => W.len z_1 H fun v9 H =>
   W.fieldAddr 1 v1 H fun v10 H =>
   W.get v10 H fun v11 H =>
   W.len v11 H fun v12 H =>
   W.bin .neq v9 v12 H fun v13 H =>
   W.cond v13 H
   (fun H => Q (.int .i64 2) H)
   (fun H => Q (.int .i64 0) H))
theorem f127.enter {Q : Post} {p_0 : Value} {z_1 : Value} {H : Heap} (h : f127.w Q p_0 z_1 H) : Runs Tryz.prog 127 #[p_0, z_1] H Q :=
  fn_enter (ann := []) (by kernel_rfl) Tryz.func127 rfl (by kernel_rfl) h (by kernel_rfl)

/- (loop.example/g01343/impl.Problem).rest -/
def f128.l1 (Q : Post) (v6 : Value) (v5 : Value) (v1 : Value) (den_2 : Value) (z_1 : Value) (v3 : Value) (I1 : St [16] → Heap → Prop) (x_16 : Value) (H : Heap) : Prop :=
  W.bin .lss x_16 v6 H fun v7 H =>
  W.cond v7 H
  (fun H => W.indexAddr 1 v5 x_16 H fun v8 H =>
   W.get v8 H fun v9 H =>
   W.fieldAddr 1 v1 H fun v10 H =>
   W.get v10 H fun v11 H =>
   W.indexAddr 1 v11 x_16 H fun v12 H =>
   W.get v12 H fun v13 H =>
   W.bin .mul v13 den_2 H fun v14 H =>
   W.callQ Tryz.prog (.func (.func 67) #[] #[]) #[v9, z_1] H fun v15 H =>
   W.bin .add v14 v15 H fun v16 H =>
   W.indexAddr 1 v3 x_16 H fun v17 H =>
   W.put v17 v16 H fun _ H =>
   W.bin .add x_16 (.int .i64 1) H fun v18 H =>
   I1 (v18, ()) H)
  (fun H => Q v3 H)
def f128.w (Q : Post) (p_0 : Value) (z_1 : Value) (den_2 : Value) (H : Heap) : Prop :=
  W.box p_0 62 H fun v1 H =>
  W.len z_1 H fun v2 H =>
  W.make [(.int .i64 0)] 2 v2 v2 H fun v3 H =>
  W.fieldAddr 0 v1 H fun v4 H =>
  W.get v4 H fun v5 H =>
  W.len v5 H fun v6 H =>
  W.loop (S := St [16]) (fun I1 s H => f128.l1 Q v6 v5 v1 den_2 z_1 v3 I1 s.1 H) ((.int .i64 0), ()) H
theorem f128.enter {Q : Post} {p_0 : Value} {z_1 : Value} {den_2 : Value} {H : Heap} (h : f128.w Q p_0 z_1 den_2 H) : Runs Tryz.prog 128 #[p_0, z_1, den_2] H Q :=
  fn_enter (ann := [(3, [16])]) (by kernel_rfl) Tryz.func128 rfl (by kernel_rfl) h (by kernel_rfl)

/- loop.example/g01343/impl.IsSolution -/
def f98.l1 (Q : Post) (v12 : Value) (v11 : Value) (v6 : Value) (I1 : St [31] → Heap → Prop) (x_31 : Value) (H : Heap) : Prop :=
  W.bin .lss x_31 v12 H fun v13 H =>
  W.cond v13 H
  (fun H => W.indexAddr 1 v11 x_31 H fun v14 H =>
   W.get v14 H fun v15 H =>
   W.bin .lss v15 (.int .i64 0) H fun v16 H =>
   W.guarded v16 false (fun H k => k v6 H) H fun v17 H =>
   W.guarded v16 false (fun H k => k x_31 H) H fun v18 H =>
   W.guarded v16 false (fun H k => W.indexAddr 1 v17 v18 H k) H fun v19 H =>
   W.guarded v16 false (fun H k => W.get v19 H k) H fun v20 H =>
   W.guarded v16 false (fun H k => W.bin .lss v20 (.int .i64 0) H k) H fun v21 H =>
   W.pick v16 (.bool true) v21 H fun v22 H =>
   W.guarded v22 false (fun H k => k v15 H) H fun v23 H =>
   W.guarded v22 false (fun H k => W.bin .gtr v23 (.int .i64 0) H k) H fun v24 H =>
   W.guarded v22 false (fun H k => k v24 H) H fun v25 H =>
   W.guarded v25 true (fun H k => k v6 H) H fun v26 H =>
   W.guarded v25 true (fun H k => k x_31 H) H fun v27 H =>
   W.guarded v25 true (fun H k => W.indexAddr 1 v26 v27 H k) H fun v28 H =>
   W.guarded v25 true (fun H k => W.get v28 H k) H fun v29 H =>
   W.guarded v25 true (fun H k => W.bin .gtr v29 (.int .i64 0) H k) H fun v30 H =>
   W.guarded v22 false (fun H k => W.pick v25 v30 (.bool false) H k) H fun v31 H =>
   W.pick v22 (.bool true) v31 H fun v32 H =>
   W.cond v32 H
   (fun H => Q (.tuple #[(.bool false), (.int .i64 0)]) H)
   (fun H => W.bin .add x_31 (.int .i64 1) H fun v33 H =>
    I1 (v33, ()) H))
  (fun H => Q (.tuple #[(.bool true), (.int .i64 0)]) H)
def f98.w (Q : Post) (p_0 : Value) (z_1 : Value) (H : Heap) : Prop :=
  W.box p_0 62 H fun v1 H =>
  W.getN 2 v1 H fun v2 H =>
  W.call Tryz.prog (.func (.func 127) #[] #[]) #[v2, z_1] H fun v3 H =>
  W.bin .neq v3 (.int .i64 0) H fun v4 H =>
  W.cond v4 H
  (fun H => Q (.tuple #[(.bool false), v3]) H)
  (fun H => W.call Tryz.prog (.func (.func 121) #[] #[]) #[z_1, (.int .i64 1000000000), (.int .i64 1000000000000)] H fun v5 H =>
   W.extract 0 v5 H fun v6 H =>
   W.extract 1 v5 H fun v7 H =>
   W.extract 2 v5 H fun v8 H =>
   W.un .not v8 H fun v9 H =>
   W.cond v9 H
   (fun H => Q (.tuple #[(.bool false), (.int .i64 3)]) H)
   (fun H => W.getN 2 v1 H fun v10 H =>
    W.call Tryz.prog (.func (.func 128) #[] #[]) #[v10, v6, v7] H fun v11 H =>
    W.len v11 H fun v12 H =>
    W.loop (S := St [31]) (fun I1 s H => f98.l1 Q v12 v11 v6 I1 s.1 H) ((.int .i64 0), ()) H))
theorem f98.enter {Q : Post} {p_0 : Value} {z_1 : Value} {H : Heap} (h : f98.w Q p_0 z_1 H) : Runs Tryz.prog 98 #[p_0, z_1] H Q :=
  fn_enter (ann := [(8, [31])]) (by kernel_rfl) Tryz.func98 rfl (by kernel_rfl) h (by kernel_rfl)

/- loop.example/g01343/impl.IsStationary -/
def f31.w (Q : Post) (p_0 : Value) (x_1 : Value) (y_2 : Value) (H : Heap) : Prop :=
  W.box p_0 27 H fun v1 H =>
  W.getN 4 v1 H fun v2 H =>
  W.call Tryz.prog (.func (.func 28) #[] #[]) #[v2] H fun v3 H =>
  W.un .not v3 H fun v4 H =>
  W.guarded v4 false (fun H k => k x_1 H) H fun v5 H =>
  W.guarded v4 false (fun H k => W.call Tryz.prog (.func (.func 80) #[] #[]) #[v5] H k) H fun v6 H =>
  W.guarded v4 false (fun H k => W.un .not v6 H k) H fun v7 H =>
  W.pick v4 (.bool true) v7 H fun v8 H =>
  W.guarded v8 false (fun H k => k y_2 H) H fun v9 H =>
  W.guarded v8 false (fun H k => W.call Tryz.prog (.func (.func 80) #[] #[]) #[v9] H k) H fun v10 H =>
  W.guarded v8 false (fun H k => W.un .not v10 H k) H fun v11 H =>
  W.pick v8 (.bool true) v11 H fun v12 H =>
  W.cond v12 H
  (fun H => Q (.tuple #[(.bool false), (.int .i64 1)]) H)
  (fun H => W.len x_1 H fun v13 H =>
   W.fieldAddr 1 v1 H fun v14 H =>
   W.get v14 H fun v15 H =>
   W.len v15 H fun v16 H =>
   W.bin .neq v13 v16 H fun v17 H =>
   W.guarded v17 false (fun H k => k y_2 H) H fun v18 H =>
   W.guarded v17 false (fun H k => W.len v18 H k) H fun v19 H =>
   W.guarded v17 false (fun H k => W.fieldAddr 3 v1 H k) H fun v20 H =>
   W.guarded v17 false (fun H k => W.get v20 H k) H fun v21 H =>
   W.guarded v17 false (fun H k => W.len v21 H k) H fun v22 H =>
   W.guarded v17 false (fun H k => W.bin .neq v19 v22 H k) H fun v23 H =>
   W.pick v17 (.bool true) v23 H fun v24 H =>
   W.cond v24 H
   (fun H => Q (.tuple #[(.bool false), (.int .i64 2)]) H)
   (fun H => W.getN 4 v1 H fun v25 H =>
    W.call Tryz.prog (.func (.func 60) #[] #[]) #[v25] H fun v26 H =>
    W.lit 2 [(.slice none 0 0)] 32 [(0, 1, x_1), (1, 1, y_2)] H fun v27 H =>
    W.call Tryz.prog (.func (.func 99) #[] #[]) #[v27] H fun v28 H =>
    W.call Tryz.prog (.func (.func 98) #[] #[]) #[v26, v28] H fun v29 H =>
    W.extract 0 v29 H fun v30 H =>
    W.extract 1 v29 H fun v31 H =>
    Q (.tuple #[v30, v31]) H))
theorem f31.enter {Q : Post} {p_0 : Value} {x_1 : Value} {y_2 : Value} {H : Heap} (h : f31.w Q p_0 x_1 y_2 H) : Runs Tryz.prog 31 #[p_0, x_1, y_2] H Q :=
  fn_enter (ann := []) (by kernel_rfl) Tryz.func31 rfl (by kernel_rfl) h (by kernel_rfl)


theorem fn127 {H0 : Heap} {Q : Post} {cs : List Value} {vz : Value} {P : Prob} {z : List Frac} (hr : Has RProblem H0 cs P) (hz : Has RFS H0 [vz] z)
    (e1 : ¬ (isProb P = true ∧ Frs z) → ∀ H', H0.Le H' → Q (.int .i64 1) H') (e2 : isProb P = true → Frs z → z.length ≠ P.2.length → ∀ H', H0.Le H' → Q (.int .i64 2) H')
    (e3 : isProb P = true → Frs z → z.length = P.2.length → ∀ H', H0.Le H' → Q (.int .i64 0) H') : Runs Tryz.prog 127 #[.agg cs.toArray, vz] H0 Q := by
  obtain ⟨u1, u2, rfl, r1, r2⟩ := hasProb hr
  have h := (((Loc.start H0).lent r2).lent hz).lent hr
  have hs := hz.small
  have hs2 := r2.small
  refine f127.enter (Wl.box h fun H b h => Wl.getA h rfl ?_)
  obtain ⟨_, q⟩ := h.rd (cs := [u1, u2])
  refine Wi.call (fn157 q fun H l => ?_)
  have h := h.to l
  cases hp : isProb P with
  | false =>
    simp only [gw]
    exact e1 (fun g => by rw [hp] at g; cases g.1) _ h.le
  | true =>
    simp only [gw]
    refine Wi.call (fn80 (h.rd (cs := [vz])) fun H t l ht => ?_)
    have h := h.to l
    cases t with
    | false =>
      simp only [gw]
      exact e1 (fun g => Bool.noConfusion (ht.2 g.2)) _ h.le
    | true =>
      simp only [gw]
      have hf := ht.1 rfl
      refine Wl.len h (Wi.fieldAddr (Wl.get h rfl (Wl.len h (Wi.neqC (fun hne => Wi.tru ?_) fun he => Wi.fls ?_))))
      · exact e2 hp hf (fun g => hne (by rw [g])) _ h.le
      · exact e3 hp hf (by omega) _ h.le

theorem fn128 {H0 : Heap} {Q : Post} {cs : List Value} {vl : Value} {P : Prob} {l : List Int} {d : Int} {n : Nat} (hr : Has RProblem H0 cs P) (hl : Has RS H0 [vl] l) (hp : PB n P) (hln : l.length = n) (hd : d.natAbs ≤ 1000000000) (hlb : ∀ e ∈ l, e.natAbs ≤ 1000000000000)
    (hQ : ∀ H' u, Fresh RS H0 [u] (restL n P d l) H' → Q u H') : Runs Tryz.prog 128 #[.agg cs.toArray, vl, .int .i64 d] H0 Q := by
  obtain ⟨u1, u2, rfl, r1, r2⟩ := hasProb hr
  have hn := hp.n5; have hql := hp.ql; have hsq := hp.sq; have hl1 := hsq.1
  have h := (((Loc.start H0).lent r2).lent r1).lent hl
  refine f128.enter (Wl.box h fun H b h => Wl.len h ?_)
  rw [hln]
  refine Wl.make (r := Rd.int) (z := 0) (fun _ => ⟨rfl, rfl, by unfold I64; omega⟩) h (by omega) (by decide) fun H u h => Wi.fieldAddr0 (Wl.get h rfl (Wl.len h ?_))
  have h := h.asData (i := 0) rfl
  have e0 : List.replicate n (0 : Int) = (List.range n).map fun k => if k < 0 then restN P d l k else 0 := by
    apply List.ext_getElem <;> simp
  rw [e0] at h
  refine W.for_rule n (fun x st H => st = (.int .i64 (x : Nat), ()) ∧ Ab.Loc H0 [.data RS [u] ((List.range n).map fun k => if k < x then restN P d l k else 0), .box b [u1, u2], .lent RS [vl] l, .lent RSS [u1] P.1, .lent RS [u2] P.2] H) ⟨rfl, h⟩ ?_
  rintro x st H J hx ⟨rfl, h⟩ hJ
  refine Wi.lssC (fun hlt => Wi.tru ?_) fun hge => Wi.fls ?_
  · have hxn : x < n := by omega
    have hxm : x < P.1.length := by omega
    have hxq : x < P.2.length := by omega
    have hrow := hp.row _ (List.getElem_mem hxm)
    have hrl := hsq.2 _ (List.getElem_mem hxm)
    obtain ⟨b1, b2, b3⟩ := rest_bound hp hd hlb x
    have ev : restN P d l x = P.2[x] * d + dot P.1[x] l := by unfold restN; rw [getD_at hxq, getD_row hxm]
    rw [getD_at hxq] at b1
    rw [ev] at b3
    have hs5 : P.1[x].length * (20 * 1000000000000) < 9223372036854775808 := Nat.lt_of_le_of_lt (Nat.mul_le_mul_right _ hrow.1) (by decide)
    refine Wl.at1 rfl h hxm fun w hw => Wi.fieldAddr (Wl.get h rfl (Wl.atInt h hxq fun _ => Wi.mul (i64A b1 (by decide)) (Wi.callQ (fn67 hw (h.rd (cs := [vl])) (by omega) hrow.2 hlb hs5 ⟨.refl _, Wi.add (i64A b3 (by decide)) ?_⟩))))
    refine Wl.setInt h (by simpa using hxn) (i64A b3 (by decide)) fun H h => Wi.add (by unfold I64; omega) (hJ _ _ hxn ⟨rfl, ?_⟩)
    rw [range_set (g := fun k => if k < x + 1 then restN P d l k else 0) (by simp [ev]) (fun k _ hk => by
      by_cases g : k < x
      · rw [if_pos g, if_pos (by omega)]
      · rw [if_neg g, if_neg (by omega)])] at h
    exact h
  · have : x = n := by omega
    subst this
    refine hQ _ _ ?_
    have e : restL x P d l = (List.range x).map fun k => if k < x then restN P d l k else 0 := List.map_congr_left fun k hk => by rw [if_pos (by simpa using hk)]
    rw [e]
    exact h.ret (i := 0) rfl

theorem fn98 {H0 : Heap} {Q : Post} {cs : List Value} {vz : Value} {P : Prob} {z : List Frac} {n : Nat} (hr : Has RProblem H0 cs P) (hz : Has RFS H0 [vz] z) (hp : isProb P = true) (hn : P.2.length = n) (hf : Frs z) (hl : z.length = n)
    (e1 : tog 1000000000 1000000000000 z = none → ∀ H', H0.Le H' → Q (.tuple #[.bool false, .int .i64 3]) H')
    (e2 : ∀ l d, tog 1000000000 1000000000000 z = some (l, d) → ∀ H', H0.Le H' → Q (.tuple #[.bool (solV n P l d), .int .i64 0]) H') : Runs Tryz.prog 98 #[.agg cs.toArray, vz] H0 Q := by
  have hpb := PB.of hp
  rw [hn] at hpb
  have hn5 := hpb.n5
  have hcl := hr.len
  have h := ((Loc.start H0).lent hz).lent hr
  refine f98.enter (Wl.box h fun H b h => Wl.getA h hcl (Wi.call (fn127 (h.rd (cs := cs)) (h.rd (cs := [vz])) (fun g => absurd ⟨hp, hf⟩ g) (fun _ _ g => absurd (hl.trans hn.symm) g) fun _ _ _ H l1 => ?_)))
  have h := h.to l1
  refine Wi.neqC (fun g => absurd rfl g) fun _ => Wi.fls (Wi.call (fn121 (h.rd (cs := [vz])) hf (by omega) (by omega) (by omega) (fun g H l1 => ?_) fun l d g H u f => ?_))
  · simp only [gw]
    exact e1 g _ (h.to l1).le
  have h := h.add f.fresh
  obtain ⟨f1, f2, f3, f4⟩ := tog_facts hf (by omega) g
  have hlb : ∀ e ∈ l, e.natAbs ≤ 1000000000000 := fun e he => by have := f4 e he; omega
  simp only [gw]
  refine Wl.getA h hcl (Wi.call (fn128 (h.rd (cs := cs)) (h.rd (cs := [u])) hpb (by omega) (by omega) hlb fun H w f2 => ?_))
  have h := h.add f2
  have hwl := restL_len n P d l
  refine Wl.len h (W.all_rule n (fun i => okI (restN P d l i) (l.getD i 0)) (fun i H1 J hi _ l1 hJ => ?_) fun H1 J hall l1 => ?_)
  · have h := h.to l1
    have hiw : i < (restL n P d l).length := by omega
    have hil : i < l.length := by omega
    have ew := restL_at P d l hiw
    have el : l.getD i 0 = l[i] := getD_at hil
    have bad : okI (restN P d l i) (l.getD i 0) = false → Q (.tuple #[.bool false, .int .i64 0]) H1 := fun hb => by
      have := e2 l d g _ h.le
      rw [show solV n P l d = false from allN_false hi hb] at this
      exact this
    have good : okI (restN P d l i) (l.getD i 0) = true → W.bin .add (.int .i64 (i : Nat)) (.int .i64 1) H1 fun v33 H => J (v33, ()) H := fun hb => Wi.add (by unfold I64; omega) (hJ hb _ (.refl _))
    rw [el] at bad good
    refine Wi.lssC (fun _ => Wi.tru ?_) fun h => by omega
    refine Wl.atInt h hiw fun _ => ?_
    rw [ew]
    refine Wi.lssC (fun h1 => ?_) fun h1 => ?_
    · simp only [gw]
      exact bad (by simp [okI]; omega)
    simp only [gw]
    refine Wl.atInt h hil fun _ => Wi.lssC (fun h2 => ?_) fun h2 => ?_
    · simp only [gw]
      exact bad (by simp [okI]; omega)
    simp only [gw]
    refine Wi.gtrC (fun h3 => ?_) fun h3 => ?_
    · simp only [gw]
      refine Wl.atInt h hil fun _ => Wi.gtrC (fun h4 => ?_) fun h4 => ?_
      · simp only [gw]
        exact bad (by simp [okI]; omega)
      · simp only [gw]
        exact good (okI_iff.2 ⟨by omega, by omega, by omega⟩)
    · simp only [gw]
      exact good (okI_iff.2 ⟨by omega, by omega, by omega⟩)
  · have h := h.to l1
    refine Wi.lssC (fun h => by omega) fun _ => Wi.fls ?_
    have := e2 l d g _ h.le
    rw [show solV n P l d = true from allN_true hall] at this
    exact this

theorem fn31 {H0 : Heap} {Q : Post} {cs : List Value} {vx vy : Value} {p : Prg} {xs ys : List Frac} (hr : Has RPrg H0 cs p) (hx : Has RFS H0 [vx] xs) (hy : Has RFS H0 [vy] ys) (hw : wPrg p ≤ 1048576) (hl : xs.length ≤ 1048576) (hl2 : ys.length ≤ 1048576)
    (hQ : ∀ H', H0.Le H' → Q (.tuple #[.bool (stRes p xs ys).1, .int .i64 (stRes p xs ys).2]) H') : Runs Tryz.prog 31 #[.agg cs.toArray, vx, vy] H0 Q := by
  obtain ⟨u1, u2, u3, u4, rfl, r1, r2, r3, r4⟩ := hasPrg hr
  have hz : ∀ H b c, H0.Le H → stRes p xs ys = (b, c) → Q (.tuple #[.bool b, .int .i64 c]) H := fun H b c l e => by
    have := hQ H l
    rw [e] at this
    exact this
  have h := (((((Loc.start H0).lent r4).lent r2).lent hx).lent hy).lent hr
  refine f31.enter (Wl.box h fun H b h => Wl.getA h rfl (Wi.call (fn28 (h.rd (cs := [u1, u2, u3, u4])) hw fun H t l ht => ?_)))
  have h := h.to l
  cases t with
  | false =>
    simp only [gw]
    exact hz _ _ _ h.le (by simp only [stRes, if_neg (fun g : IsPrg p ∧ Frs xs ∧ Frs ys => Bool.noConfusion (ht.2 g.1))])
  | true =>
  simp only [gw]
  have hp := ht.1 rfl
  refine Wi.call (fn80 (h.rd (cs := [vx])) fun H t l ht2 => ?_)
  have h := h.to l
  cases t with
  | false =>
    simp only [gw]
    exact hz _ _ _ h.le (by simp only [stRes, if_neg (fun g : IsPrg p ∧ Frs xs ∧ Frs ys => Bool.noConfusion (ht2.2 g.2.1))])
  | true =>
  simp only [gw]
  refine Wi.call (fn80 (h.rd (cs := [vy])) fun H t l ht3 => ?_)
  have h := h.to l
  cases t with
  | false =>
    simp only [gw]
    exact hz _ _ _ h.le (by simp only [stRes, if_neg (fun g : IsPrg p ∧ Frs xs ∧ Frs ys => Bool.noConfusion (ht3.2 g.2.2))])
  | true =>
  simp only [gw]
  have hf : IsPrg p ∧ Frs xs ∧ Frs ys := ⟨hp, ht2.1 rfl, ht3.1 rfl⟩
  refine Wl.len h (Wi.fieldAddr (Wl.get h rfl (Wl.len h (Wi.neqC (fun hne => ?_) fun he => ?_))))
  · simp only [gw]
    exact hz _ _ _ h.le (by simp only [stRes, if_pos hf, if_neg (fun g : xs.length = p.2.1.length ∧ ys.length = p.2.2.2.length => hne (by rw [g.1]))])
  simp only [gw]
  refine Wl.len h (Wi.fieldAddr (Wl.get h rfl (Wl.len h (Wi.neqC (fun hne => ?_) fun he2 => ?_))))
  · simp only [gw]
    exact hz _ _ _ h.le (by simp only [stRes, if_pos hf, if_neg (fun g : xs.length = p.2.1.length ∧ ys.length = p.2.2.2.length => hne (by rw [g.2]))])
  simp only [gw]
  have hls : xs.length = p.2.1.length ∧ ys.length = p.2.2.2.length := ⟨by omega, by omega⟩
  have nm := hp.nm
  have hst : stRes p xs ys = stOf (p.2.1.length + p.2.2.2.length) (prgProblem p) (tog 1000000000 1000000000000 (xs ++ ys)) := by simp only [stRes, if_pos hf, if_pos hls]
  refine Wl.getA h rfl (Wi.call (fn60 (h.rd (cs := [u1, u2, u3, u4])) hp fun H w1 w2 f => ?_))
  have h := h.add f
  obtain ⟨bsx, qx⟩ := h.rd (cs := [vx])
  obtain ⟨bsy, qy⟩ := h.rd (cs := [vy])
  have ex := Has.one ⟨_, qx⟩
  have ey := Has.one ⟨_, qy⟩
  refine Wi.lit (cells := [vx, vy]) (by simp [fillA, ex, ey, reps]) fun H1 l1 n1' k1 => ?_
  have h := h.to l1
  have hv : Has (Rd.slice RFS) H1 [.slice (some (adr _ 0)) 2 (2 * 2)] [xs, ys] := ⟨_, .inr ⟨_, 0, _, _, fun i => if i = 0 then bsx else bsy, rfl, rfl, ⟨by omega, k1, by simp, by simp, by simp [Rd.slice], fun i hi => by
    match i, hi with
    | 0, _ => exact Rd.le _ qx l1
    | 1, _ => exact Rd.le _ qy l1⟩⟩⟩
  refine Wi.call (concat99 _ _ [xs, ys] _ hv (by simp; omega) fun H w3 j => ?_)
  have eF : ([xs, ys] : List (List Frac)).flatten = xs ++ ys := by simp
  rw [eF] at j
  have h := h.add j.plain.fresh
  refine Wi.call (fn98 (n := p.2.1.length + p.2.2.2.length) (h.rd (cs := [w1, w2])) (h.rd (cs := [w3])) (prgProblem_prob hp) (prgProblem_dims hp).2.1 (hf.2.1.append hf.2.2) (by simp; omega) (fun g H l => ?_) fun l d g H l2 => ?_)
  · simp only [gw]
    exact hz _ _ _ (h.to l).le (by rw [hst, g]; rfl)
  · simp only [gw]
    exact hz _ _ _ (h.to l2).le (by rw [hst, g]; rfl)

end Go.Proofs.YtdchibdcfdbcpaaGreat
/-! The contract of the reference's IsStationary. No condition. -/
namespace Go.Proofs.YtdchibdcfdbcpaaGreat
open Go.Ab

/- loop.example/g01343/spec.l01Remainder -/
def f132.l2 (Q : Post) (list_1 : Value) (v1 : Value) (i_8 : Value) (out_7 : Value) (I1 : St [7, 8] → Heap → Prop) (I2 : St [9, 10] → Heap → Prop) (sum_9 : Value) (k_10 : Value) (H : Heap) : Prop :=
  W.len list_1 H fun v12 H =>
  W.bin .lss k_10 v12 H fun v13 H =>
  W.cond v13 H
  (fun H => W.fieldAddr 0 v1 H fun v14 H =>
   W.get v14 H fun v15 H =>
   W.indexAddr 1 v15 i_8 H fun v16 H =>
   W.get v16 H fun v17 H =>
   W.indexAddr 1 v17 k_10 H fun v18 H =>
   W.get v18 H fun v19 H =>
   W.indexAddr 1 list_1 k_10 H fun v20 H =>
   W.get v20 H fun v21 H =>
   W.bin .mul v19 v21 H fun v22 H =>
   W.bin .add sum_9 v22 H fun v23 H =>
   W.bin .add k_10 (.int .i64 1) H fun v24 H =>
   I2 (v23, v24, ()) H)
  (fun H => W.lit 1 [(.int .i64 0)] 2 [(0, 1, sum_9)] H fun v25 H =>
   W.append 1 2 out_7 v25 H fun v26 H =>
   W.bin .add i_8 (.int .i64 1) H fun v27 H =>
   I1 (v26, v27, ()) H)
def f132.l1 (Q : Post) (v1 : Value) (den_2 : Value) (list_1 : Value) (I1 : St [7, 8] → Heap → Prop) (out_7 : Value) (i_8 : Value) (H : Heap) : Prop :=
  W.fieldAddr 1 v1 H fun v3 H =>
  W.get v3 H fun v4 H =>
  W.len v4 H fun v5 H =>
  W.bin .lss i_8 v5 H fun v6 H =>
  W.cond v6 H
  (fun H => W.fieldAddr 1 v1 H fun v7 H =>
   W.get v7 H fun v8 H =>
   W.indexAddr 1 v8 i_8 H fun v9 H =>
   W.get v9 H fun v10 H =>
   W.bin .mul v10 den_2 H fun v11 H =>
   W.loop (S := St [9, 10]) (fun I2 s H => f132.l2 Q list_1 v1 i_8 out_7 I1 I2 s.1 s.2.1 H) (v11, (.int .i64 0), ()) H)
  (fun H => Q out_7 H)
def f132.w (Q : Post) (p_0 : Value) (list_1 : Value) (den_2 : Value) (H : Heap) : Prop :=
  W.box p_0 62 H fun v1 H =>
  W.lit 0 [(.int .i64 0)] 2 [] H fun v2 H =>
  W.loop (S := St [7, 8]) (fun I1 s H => f132.l1 Q v1 den_2 list_1 I1 s.1 s.2.1 H) (v2, (.int .i64 0), ()) H
theorem f132.enter {Q : Post} {p_0 : Value} {list_1 : Value} {den_2 : Value} {H : Heap} (h : f132.w Q p_0 list_1 den_2 H) : Runs Tryz.prog 132 #[p_0, list_1, den_2] H Q :=
  fn_enter (ann := [(3, [7, 8]), (7, [9, 10])]) (by kernel_rfl) Tryz.func132 rfl (by kernel_rfl) h (by kernel_rfl)

/- loop.example/g01343/spec.l01Solves -/
def f104.l1 (Q : Post) (v3 : Value) (list_1 : Value) (I1 : St [8] → Heap → Prop) (i_8 : Value) (H : Heap) : Prop :=
  W.len v3 H fun v4 H =>
  W.bin .lss i_8 v4 H fun v5 H =>
  W.cond v5 H
  (fun H => W.indexAddr 1 v3 i_8 H fun v6 H =>
   W.get v6 H fun v7 H =>
   W.bin .lss v7 (.int .i64 0) H fun v8 H =>
   W.guarded v8 false (fun H k => k list_1 H) H fun v9 H =>
   W.guarded v8 false (fun H k => k i_8 H) H fun v10 H =>
   W.guarded v8 false (fun H k => W.indexAddr 1 v9 v10 H k) H fun v11 H =>
   W.guarded v8 false (fun H k => W.get v11 H k) H fun v12 H =>
   W.guarded v8 false (fun H k => W.bin .lss v12 (.int .i64 0) H k) H fun v13 H =>
   W.pick v8 (.bool true) v13 H fun v14 H =>
   W.guarded v14 false (fun H k => k v3 H) H fun v15 H =>
   W.guarded v14 false (fun H k => k i_8 H) H fun v16 H =>
   W.guarded v14 false (fun H k => W.indexAddr 1 v15 v16 H k) H fun v17 H =>
   W.guarded v14 false (fun H k => W.get v17 H k) H fun v18 H =>
   W.guarded v14 false (fun H k => W.bin .neq v18 (.int .i64 0) H k) H fun v19 H =>
   W.guarded v14 false (fun H k => k v19 H) H fun v20 H =>
   W.guarded v20 true (fun H k => k list_1 H) H fun v21 H =>
   W.guarded v20 true (fun H k => k i_8 H) H fun v22 H =>
   W.guarded v20 true (fun H k => W.indexAddr 1 v21 v22 H k) H fun v23 H =>
   W.guarded v20 true (fun H k => W.get v23 H k) H fun v24 H =>
   W.guarded v20 true (fun H k => W.bin .neq v24 (.int .i64 0) H k) H fun v25 H =>
   W.guarded v14 false (fun H k => W.pick v20 v25 (.bool false) H k) H fun v26 H =>
   W.pick v14 (.bool true) v26 H fun v27 H =>
   W.cond v27 H
   (fun H => Q (.bool false) H)
   (fun H => W.bin .add i_8 (.int .i64 1) H fun v28 H =>
    I1 (v28, ()) H))
  (fun H => Q (.bool true) H)
def f104.w (Q : Post) (p_0 : Value) (list_1 : Value) (den_2 : Value) (H : Heap) : Prop :=
  W.box p_0 62 H fun v1 H =>
  W.getN 2 v1 H fun v2 H =>
  W.call Tryz.prog (.func (.func 132) #[] #[]) #[v2, list_1, den_2] H fun v3 H =>
  W.loop (S := St [8]) (fun I1 s H => f104.l1 Q v3 list_1 I1 s.1 H) ((.int .i64 0), ()) H
theorem f104.enter {Q : Post} {p_0 : Value} {list_1 : Value} {den_2 : Value} {H : Heap} (h : f104.w Q p_0 list_1 den_2 H) : Runs Tryz.prog 104 #[p_0, list_1, den_2] H Q :=
  fn_enter (ann := [(3, [8])]) (by kernel_rfl) Tryz.func104 rfl (by kernel_rfl) h (by kernel_rfl)

/- loop.example/g01343/spec.IsStationary -/
def f43.w (Q : Post) (p_0 : Value) (x_1 : Value) (y_2 : Value) (H : Heap) : Prop :=
  W.box p_0 27 H fun v1 H =>
  W.getN 4 v1 H fun v2 H =>
  W.fieldAddr 3 v1 H fun v3 H =>
  W.get v3 H fun v4 H =>
  W.len v4 H fun v5 H =>
  W.call Tryz.prog (.func (.func 102) #[] #[]) #[v2, x_1, y_2, v5] H fun v6 H =>
  W.bin .neq v6 (.int .i64 0) H fun v7 H =>
  W.cond v7 H
  (fun H => Q (.tuple #[(.bool false), v6]) H)
  (fun H => W.lit 0 [(.int .i64 0), (.int .i64 0)] 34 [] H fun v8 H =>
   W.append 2 34 v8 x_1 H fun v9 H =>
   W.append 2 34 v9 y_2 H fun v10 H =>
   W.call Tryz.prog (.func (.func 103) #[] #[]) #[v10] H fun v11 H =>
   W.extract 0 v11 H fun v12 H =>
   W.extract 1 v11 H fun v13 H =>
   W.extract 2 v11 H fun v14 H =>
   W.un .not v14 H fun v15 H =>
   W.cond v15 H
   (fun H => Q (.tuple #[(.bool false), (.int .i64 3)]) H)
   (fun H => W.getN 4 v1 H fun v16 H =>
    W.call Tryz.prog (.func (.func 93) #[] #[]) #[v16] H fun v17 H =>
    W.call Tryz.prog (.func (.func 104) #[] #[]) #[v17, v12, v13] H fun v18 H =>
    Q (.tuple #[v18, (.int .i64 0)]) H))
theorem f43.enter {Q : Post} {p_0 : Value} {x_1 : Value} {y_2 : Value} {H : Heap} (h : f43.w Q p_0 x_1 y_2 H) : Runs Tryz.prog 43 #[p_0, x_1, y_2] H Q :=
  fn_enter (ann := []) (by kernel_rfl) Tryz.func43 rfl (by kernel_rfl) h (by kernel_rfl)


theorem fnM102 {H0 : Heap} {Q : Post} {cs : List Value} {vx vy : Value} {p : Prg} {xs ys : List Frac} {m : Nat} (hr : Has RPrg H0 cs p) (hx : Has RFS H0 [vx] xs) (hy : Has RFS H0 [vy] ys) (hw : wPrg p ≤ 1048576)
    (e1 : ¬ (IsPrg p ∧ Frs xs ∧ Frs ys) → ∀ H', H0.Le H' → Q (.int .i64 1) H') (e2 : IsPrg p ∧ Frs xs ∧ Frs ys → ¬ (xs.length = p.2.1.length ∧ ys.length = m) → ∀ H', H0.Le H' → Q (.int .i64 2) H')
    (e3 : IsPrg p ∧ Frs xs ∧ Frs ys → xs.length = p.2.1.length → ys.length = m → ∀ H', H0.Le H' → Q (.int .i64 0) H') : Runs Tryz.prog 102 #[.agg cs.toArray, vx, vy, .int .i64 (m : Nat)] H0 Q := by
  obtain ⟨u1, u2, u3, u4, rfl, r1, r2, r3, r4⟩ := hasPrg hr
  have hs := hx.small
  have hs2 := hy.small
  have hs3 := r2.small
  refine f102.enter ?_
  unfold f102.w
  have h := ((((Loc.start H0).lent hx).lent hy).lent r2).lent hr
  refine Wl.box h fun H b h => Wl.getA h rfl (Wi.call (fn54 (h.rd (cs := [u1, u2, u3, u4])) hw fun H t l ht => ?_))
  have h := h.to l
  cases t with
  | false =>
    simp only [gw]
    exact e1 (fun g => Bool.noConfusion (ht.2 g.1)) _ h.le
  | true =>
  have hp := ht.1 rfl
  simp only [gw]
  refine W.all_rule xs.length (fun i => isFr 1000000000 (xs.getD i (0, 0))) (fun i H1 J hi _ l hJ => ?_) fun H1 J hall l => ?_
  · have h := h.to l
    refine Wl.lenH (hx.le h.le) (Wi.lssC (fun _ => Wi.tru ?_) fun h => by omega)
    refine Wl.atFrH (hx.le h.le) hi fun _ _ => Wi.call (fn131 fun H3 l3 => Wi.not ?_)
    cases hf : isFr 1000000000 xs[i] with
    | false => exact Wi.tru (e1 (fun g => by rw [g.2.1 _ (List.getElem_mem hi)] at hf; cases hf) _ (h.le.trans l3))
    | true => exact Wi.fls (Wi.add (by unfold I64; omega) (hJ (by rw [fr_at hi]; exact hf) H3 l3))
  have h := h.to l
  have hf : Frs xs := fun a ha => by
    obtain ⟨i, hi, rfl⟩ := List.mem_iff_getElem.1 ha
    have := hall i hi
    rw [fr_at hi] at this
    exact this
  refine Wl.lenH (hx.le h.le) (Wi.lssC (fun h => by omega) fun _ => Wi.fls ?_)
  refine W.all_rule ys.length (fun i => isFr 1000000000 (ys.getD i (0, 0))) (fun i H1 J hi _ l hJ => ?_) fun H1 J hall l => ?_
  · have h := h.to l
    refine Wl.lenH (hy.le h.le) (Wi.lssC (fun _ => Wi.tru ?_) fun h => by omega)
    refine Wl.atFrH (hy.le h.le) hi fun _ _ => Wi.call (fn131 fun H3 l3 => Wi.not ?_)
    cases hf : isFr 1000000000 ys[i] with
    | false => exact Wi.tru (e1 (fun g => by rw [g.2.2 _ (List.getElem_mem hi)] at hf; cases hf) _ (h.le.trans l3))
    | true => exact Wi.fls (Wi.add (by unfold I64; omega) (hJ (by rw [fr_at hi]; exact hf) H3 l3))
  have h := h.to l
  have hf2 : Frs ys := fun a ha => by
    obtain ⟨i, hi, rfl⟩ := List.mem_iff_getElem.1 ha
    have := hall i hi
    rw [fr_at hi] at this
    exact this
  have hall3 : IsPrg p ∧ Frs xs ∧ Frs ys := ⟨hp, hf, hf2⟩
  refine Wl.lenH (hy.le h.le) (Wi.lssC (fun h => by omega) fun _ => Wi.fls ?_)
  refine Wl.lenH (hx.le h.le) (Wi.fieldAddr0 (Wl.get h rfl (Wl.len h (Wi.neqC (fun hne => ?_) fun he => ?_))))
  · simp only [gw]
    exact e2 hall3 (fun g => hne (by rw [g.1])) _ h.le
  · simp only [gw]
    refine Wl.lenH (hy.le h.le) (Wi.neqC (fun hne => ?_) fun he2 => ?_)
    · simp only [gw]
      exact e2 hall3 (fun g => hne (by rw [g.2])) _ h.le
    · simp only [gw]
      exact e3 hall3 (by omega) (by omega) _ h.le

theorem fn132 {H0 : Heap} {Q : Post} {cs : List Value} {vl : Value} {P : Prob} {l : List Int} {d : Int} {n : Nat} (hr : Has RProblem H0 cs P) (hl : Has RS H0 [vl] l) (hp : PB n P) (hln : l.length = n) (hd : d.natAbs ≤ 1000000000) (hlb : ∀ e ∈ l, e.natAbs ≤ 1000000000000)
    (hQ : ∀ H' u, Fresh RS H0 [u] (restL n P d l) H' → Q u H') : Runs Tryz.prog 132 #[.agg cs.toArray, vl, .int .i64 d] H0 Q := by
  obtain ⟨u1, u2, rfl, r1, r2⟩ := hasProb hr
  have hn := hp.n5; have hql := hp.ql; have hsq := hp.sq; have hl1 := hsq.1
  have h := (((Loc.start H0).lent r2).lent r1).lent hl
  refine f132.enter ?_
  unfold f132.w
  refine Wl.box h fun H b h => Wl.lit0 (ty := 2) Rd.int rfl h fun H u h => ?_
  refine W.for_rule n (fun x st H => ∃ u, st = (u, .int .i64 (x : Nat), ()) ∧ Ab.Loc H0 [.grow Rd.int 2 u ((List.range x).map (restN P d l)), .box b [u1, u2], .lent RS [vl] l, .lent RSS [u1] P.1, .lent RS [u2] P.2] H) ⟨_, rfl, h⟩ ?_
  rintro x st H J hx ⟨u, rfl, h⟩ hJ
  refine Wi.fieldAddr (Wl.get h rfl (Wl.len h (Wi.lssC (fun hlt => Wi.tru ?_) fun hge => Wi.fls ?_)))
  · have hxn : x < n := by omega
    have hxm : x < P.1.length := by omega
    have hxq : x < P.2.length := by omega
    have hrow := hp.row _ (List.getElem_mem hxm)
    have hrl := hsq.2 _ (List.getElem_mem hxm)
    obtain ⟨b1, b2, b3⟩ := rest_bound hp hd hlb x
    have b1' := b1
    rw [getD_at hxq] at b1
    have ed : ∀ k, (dotF (P.1.getD x []) l k).natAbs ≤ 20 * 1000000000000 := fun k => mul_abs (by rw [getD_row hxm]; exact getD_abs hrow.2 k) (getD_abs hlb k)
    refine Wi.fieldAddr (Wl.get h rfl (Wl.atInt h hxq fun _ => Wi.mul (i64A b1 (by decide)) ?_))
    refine W.for_rule n (fun k st H' => H' = H ∧ st = (.int .i64 (P.2.getD x 0 * d + sumTo (dotF (P.1.getD x []) l) k), .int .i64 (k : Nat), ())) ⟨rfl, by simp only [sumTo, Int.add_zero]; rw [getD_at hxq]; rfl⟩ ?_
    rintro k st H2 J2 hk ⟨rfl, rfl⟩ hJ2
    refine Wl.len h (Wi.lssC (fun hlt2 => Wi.tru ?_) fun hge2 => Wi.fls ?_)
    · have hkn : k < n := by omega
      have hkl : k < l.length := by omega
      have hkm : k < P.1[x].length := by omega
      have e1 : dotF (P.1.getD x []) l k = P.1[x][k] * l[k] := by simp only [dotF]; rw [getD_row hxm, getD_at hkm, getD_at hkl]
      have s1 : (sumTo (dotF (P.1.getD x []) l) k).natAbs ≤ 5 * (20 * 1000000000000) := Nat.le_trans (sumTo_abs fun j _ => ed j) (Nat.mul_le_mul_right _ (by omega))
      have t1 := ed k
      have o2 := addA (addA b1' s1) t1
      rw [e1] at t1 o2
      refine Wi.fieldAddr0 (Wl.get h rfl (Wl.at1 rfl h hxm fun w hw => Wl.atIntH hw hkm fun _ => Wl.atInt h hkl fun _ => Wi.mul (i64A t1 (by decide)) (Wi.add (i64A o2 (by decide)) (Wi.add (by unfold I64; omega) (hJ2 _ _ hkn ⟨rfl, ?_⟩)))))
      simp only [sumTo]
      rw [e1, ← Int.add_assoc]
      rfl
    · have : k = n := by omega
      subst this
      have er : P.2.getD x 0 * d + sumTo (dotF (P.1.getD x []) l) k = restN P d l x := by
        unfold restN dot
        rw [getD_row hxm, hrl]
      rw [er]
      refine Wl.pushP (r := Rd.int) (x := restN P d l x) rfl rfl rfl (fun _ => ⟨rfl, rfl, i64A b3 (by decide)⟩) h (by simp; omega) fun H u' h => Wi.add (by unfold I64; omega) (hJ _ _ hxn ⟨u', rfl, ?_⟩)
      have h2 : Ab.Loc H0 [.grow Rd.int 2 u' ((List.range x).map (restN P d l) ++ [restN P d l x]), .box b [u1, u2], .lent RS [vl] l, .lent RSS [u1] P.1, .lent RS [u2] P.2] H := h
      rw [range_push (f := restN P d l) rfl] at h2
      exact h2
  · have : x = n := by omega
    subst this
    exact hQ _ _ ((h.asData (i := 0) rfl).ret (i := 0) rfl)

theorem fn104 {H0 : Heap} {Q : Post} {cs : List Value} {vl : Value} {P : Prob} {l : List Int} {d : Int} {n : Nat} (hr : Has RProblem H0 cs P) (hl : Has RS H0 [vl] l) (hp : PB n P) (hln : l.length = n) (hd : d.natAbs ≤ 1000000000) (hlb : ∀ e ∈ l, e.natAbs ≤ 1000000000000)
    (hQ : ∀ H', H0.Le H' → Q (.bool (solV n P l d)) H') : Runs Tryz.prog 104 #[.agg cs.toArray, vl, .int .i64 d] H0 Q := by
  have hcl := hr.len
  have hn := hp.n5
  have h := ((Loc.start H0).lent hl).lent hr
  refine f104.enter (Wl.box h fun H b h => Wl.getA h hcl (Wi.call (fn132 (h.rd (cs := cs)) (h.rd (cs := [vl])) hp hln hd hlb fun H w f => ?_)))
  have h := h.add f
  have hwl := restL_len n P d l
  refine W.all_rule n (fun i => okI (restN P d l i) (l.getD i 0)) (fun i H1 J hi _ l1 hJ => ?_) fun H1 J hall l1 => ?_
  · have h := h.to l1
    have hiw : i < (restL n P d l).length := by omega
    have hil : i < l.length := by omega
    have ew := restL_at P d l hiw
    have el : l.getD i 0 = l[i] := getD_at hil
    have bad : okI (restN P d l i) (l.getD i 0) = false → Q (.bool false) H1 := fun hb => by
      have := hQ _ h.le
      rw [show solV n P l d = false from allN_false hi hb] at this
      exact this
    have good : okI (restN P d l i) (l.getD i 0) = true → W.bin .add (.int .i64 (i : Nat)) (.int .i64 1) H1 fun v33 H => J (v33, ()) H := fun hb => Wi.add (by unfold I64; omega) (hJ hb _ (.refl _))
    rw [el] at bad good
    refine Wl.len h (Wi.lssC (fun _ => Wi.tru ?_) fun h => by omega)
    refine Wl.atInt h hiw fun _ => ?_
    rw [ew]
    refine Wi.lssC (fun h1 => ?_) fun h1 => ?_
    · simp only [gw]
      exact bad (by simp [okI]; omega)
    simp only [gw]
    refine Wl.atInt h hil fun _ => Wi.lssC (fun h2 => ?_) fun h2 => ?_
    · simp only [gw]
      exact bad (by simp [okI]; omega)
    simp only [gw]
    refine Wl.atInt h hiw fun _ => ?_
    rw [ew]
    refine Wi.neqC (fun h3 => ?_) fun h3 => ?_
    · simp only [gw]
      refine Wl.atInt h hil fun _ => Wi.neqC (fun h4 => ?_) fun h4 => ?_
      · simp only [gw]
        exact bad (by simp [okI]; omega)
      · simp only [gw]
        exact good (okI_iff.2 ⟨by omega, by omega, by omega⟩)
    · simp only [gw]
      exact good (okI_iff.2 ⟨by omega, by omega, by omega⟩)
  · have h := h.to l1
    refine Wl.len h (Wi.lssC (fun h => by omega) fun _ => Wi.fls ?_)
    have := hQ _ h.le
    rw [show solV n P l d = true from allN_true hall] at this
    exact this

theorem fn43 {H0 : Heap} {Q : Post} {cs : List Value} {vx vy : Value} {p : Prg} {xs ys : List Frac} (hr : Has RPrg H0 cs p) (hx : Has RFS H0 [vx] xs) (hy : Has RFS H0 [vy] ys) (hw : wPrg p ≤ 1048576) (hl : xs.length ≤ 1048576) (hl2 : ys.length ≤ 1048576)
    (hQ : ∀ H', H0.Le H' → Q (.tuple #[.bool (stRes p xs ys).1, .int .i64 (stRes p xs ys).2]) H') : Runs Tryz.prog 43 #[.agg cs.toArray, vx, vy] H0 Q := by
  obtain ⟨u1, u2, u3, u4, rfl, r1, r2, r3, r4⟩ := hasPrg hr
  have hz : ∀ H b c, H0.Le H → stRes p xs ys = (b, c) → Q (.tuple #[.bool b, .int .i64 c]) H := fun H b c l e => by
    have := hQ H l
    rw [e] at this
    exact this
  have h := ((((Loc.start H0).lent r4).lent hx).lent hy).lent hr
  refine f43.enter (Wl.box h fun H b h => Wl.getA h rfl (Wi.fieldAddr (Wl.get h rfl (Wl.len h (Wi.call (fnM102 (h.rd (cs := [u1, u2, u3, u4])) (h.rd (cs := [vx])) (h.rd (cs := [vy])) hw (fun g H l => ?_) (fun g1 g2 H l => ?_) fun hf g1 g2 H l => ?_))))))
  · exact Wi.neqC (fun _ => Wi.tru (hz _ _ _ (h.to l).le (by simp only [stRes, if_neg g]))) fun e => absurd e (by decide)
  · exact Wi.neqC (fun _ => Wi.tru (hz _ _ _ (h.to l).le (by simp only [stRes, if_pos g1, if_neg g2]))) fun e => absurd e (by decide)
  have h := h.to l
  have hp := hf.1
  have nm := hp.nm
  have hst : stRes p xs ys = stOf (p.2.1.length + p.2.2.2.length) (prgProblem p) (tog 1000000000 1000000000000 (xs ++ ys)) := by simp only [stRes, if_pos hf, if_pos (And.intro g1 g2)]
  refine Wi.neqC (fun e => absurd rfl e) fun _ => Wi.fls (Wl.lit0 RFrac (ty := 34) rfl h fun H z h => ?_)
  refine Wl.appendH (i := 0) rfl h rfl (h.rd (cs := [vx])) (by simp; omega) fun H z2 h => ?_
  have h2 : Ab.Loc H0 [.grow RFrac 34 z2 xs, .box b [u1, u2, u3, u4], .lent RPrg [u1, u2, u3, u4] p, .lent RFS [vy] ys, .lent RFS [vx] xs, .lent RS [u4] p.2.2.2] H := h
  refine Wl.appendH (i := 0) rfl h2 rfl (h2.rd (cs := [vy])) (by omega) fun H z3 h => ?_
  have h3 : Ab.Loc H0 [.grow RFrac 34 z3 (xs ++ ys), .box b [u1, u2, u3, u4], .lent RPrg [u1, u2, u3, u4] p, .lent RFS [vy] ys, .lent RFS [vx] xs, .lent RS [u4] p.2.2.2] H := h
  have h := h3.asData (i := 0) rfl
  refine Wi.call (fn103 (h.rd (cs := [z3])) (hf.2.1.append hf.2.2) (by simp; omega) (fun g H l => ?_) fun l d g H u f => ?_)
  · simp only [gw]
    exact hz _ _ _ (h.to l).le (by rw [hst, g]; rfl)
  have h := h.add f.fresh
  obtain ⟨f1, f2, f3, f4⟩ := tog_facts (hf.2.1.append hf.2.2) (by omega) g
  have hlb : ∀ e ∈ l, e.natAbs ≤ 1000000000000 := fun e he => by have := f4 e he; omega
  simp only [gw]
  refine Wl.getA h rfl (Wi.call (fn93 (h.rd (cs := [u1, u2, u3, u4])) hp fun H w1 w2 fp => ?_))
  have h := h.add fp
  refine Wi.call (fn104 (h.rd (cs := [w1, w2])) (h.rd (cs := [u])) (prgPB hp) (by simp at f1; omega) (by omega) hlb fun H l2 => ?_)
  exact hz _ _ _ (h.to l2).le (by rw [hst, g]; rfl)

end Go.Proofs.YtdchibdcfdbcpaaGreat
