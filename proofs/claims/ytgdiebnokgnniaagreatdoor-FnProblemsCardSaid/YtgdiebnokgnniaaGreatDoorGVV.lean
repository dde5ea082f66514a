/- What a problem's numbers are. No condition. -/
import Derived.Test.YtgdiebnokgnniaaGreatDoorGAB
import Derived.Test.YtgdiebnokgnniaaGreatDoorZabG9
import Derived.Test.YtgdiebnokgnniaaGreatDoorZabG8
import Derived.Test.YtgdiebnokgnniaaGreatDoorA1
import Derived.Test.YtgdiebnokgnniaaGreatDoorZabG4
import Derived.Test.YtgdiebnokgnniaaGreatDoorZabG5
import Derived.Test.YtgdiebnokgnniaaGreatDoorGAA
import Derived.Test.YtgdiebnokgnniaaGreatDoorZabG7
namespace Go.Proofs.YtgdiebnokgnniaaGreatDoor
open Go.Ab

/-- What a problem's numbers are, n of them. -/
structure PB (n : Nat) (p : Prob) : Prop where
  sq : Sq n p.1
  ql : p.2.length = n
  n0 : 0 < n
  n5 : n ≤ 5
  m : ∀ r c, (mAt p.1 r c).natAbs ≤ 20
  q : ∀ e ∈ p.2, e.natAbs ≤ 100

theorem PB.of {p : Prob} (h : isProb p = true) : PB p.2.length p := by
  obtain ⟨_, h1, h2, h3, h4, h5⟩ := isProb_rows h
  refine ⟨⟨h3.symm, fun r hr => by rw [h3]; exact (h4 r hr).1⟩, rfl, by omega, by omega, fun r c => ?_, fun e he => by have := h5 e he; omega⟩
  simp only [mAt, List.getD_eq_getElem?_getD]
  cases e1 : p.1[r]? with
  | none => simp
  | some row =>
    simp only [Option.getD_some]
    cases e2 : row[c]? with
    | none => simp
    | some x =>
      have := (h4 row (List.mem_of_getElem? e1)).2 x (List.mem_of_getElem? e2)
      simp only [Option.getD_some]
      omega

end Go.Proofs.YtgdiebnokgnniaaGreatDoor
/-! The contract of sign. No condition. -/
namespace Go.Proofs.YtgdiebnokgnniaaGreatDoor
open Go.Ab

/- loop.example/g01343/impl.sign -/
def f85.w (Q : Post) (n_0 : Value) (H : Heap) : Prop :=
  W.bin .lss n_0 (.int .i64 0) H fun v1 H =>
  W.cond v1 H
  (fun H => Q (.int .i64 (-1)) H)
  (fun H => W.bin .gtr n_0 (.int .i64 0) H fun v2 H =>
   W.cond v2 H
   (fun H => Q (.int .i64 1) H)
   (fun H => Q (.int .i64 0) H))
theorem f85.enter {Q : Post} {n_0 : Value} {H : Heap} (h : f85.w Q n_0 H) : Runs Tryz.prog 85 #[n_0] H Q :=
  fn_enter (ann := []) (by kernel_rfl) Tryz.func85 rfl (by kernel_rfl) h (by kernel_rfl)


theorem fn85 {H0 : Heap} {Q : Post} {x : Int} (hQ : Q (.int .i64 (sgI x)) H0) : Runs Tryz.prog 85 #[.int .i64 x] H0 Q := by
  unfold sgI at hQ
  refine f85.enter (Wi.lssC (fun h => Wi.tru ?_) fun h => Wi.fls (Wi.gtrC (fun h2 => Wi.tru ?_) fun h2 => Wi.fls ?_))
  · rw [if_pos h] at hQ; exact hQ
  · rw [if_neg h, if_pos h2] at hQ; exact hQ
  · rw [if_neg h, if_neg h2] at hQ; exact hQ

end Go.Proofs.YtgdiebnokgnniaaGreatDoor

/-! Contracts of the program's columns, solve and point. No condition. -/
namespace Go.Proofs.YtgdiebnokgnniaaGreatDoor
open Go.Ab

/- loop.example/g01343/impl.has -/
def f93.w (Q : Post) (s_0 : Value) (i_1 : Value) (H : Heap) : Prop :=
  W.bin .shr s_0 i_1 H fun v1 H =>
  W.bin .and v1 (.int .i64 1) H fun v2 H =>
  W.bin .eql v2 (.int .i64 1) H fun v3 H =>
  Q v3 H
theorem f93.enter {Q : Post} {s_0 : Value} {i_1 : Value} {H : Heap} (h : f93.w Q s_0 i_1 H) : Runs Tryz.prog 93 #[s_0, i_1] H Q :=
  fn_enter (ann := []) (by kernel_rfl) Tryz.func93 rfl (by kernel_rfl) h (by kernel_rfl)

/- loop.example/g01343/impl.put -/
def f84.l1 (Q : Post) (v1 : Value) (rows_0 : Value) (column_2 : Value) (i_1 : Value) (I1 : St [10] → Heap → Prop) (x_10 : Value) (H : Heap) : Prop :=
  W.bin .lss x_10 v1 H fun v2 H =>
  W.cond v2 H
  (fun H => W.indexAddr 1 rows_0 x_10 H fun v3 H =>
   W.get v3 H fun v4 H =>
   W.indexAddr 1 column_2 x_10 H fun v5 H =>
   W.get v5 H fun v6 H =>
   W.indexAddr 1 v4 i_1 H fun v7 H =>
   W.put v7 v6 H fun _ H =>
   W.bin .add x_10 (.int .i64 1) H fun v8 H =>
   I1 (v8, ()) H)
  (fun H => Q (.tuple #[]) H)
def f84.w (Q : Post) (rows_0 : Value) (i_1 : Value) (column_2 : Value) (H : Heap) : Prop :=
  W.len rows_0 H fun v1 H =>
  W.loop (S := St [10]) (fun I1 s H => f84.l1 Q v1 rows_0 column_2 i_1 I1 s.1 H) ((.int .i64 0), ()) H
theorem f84.enter {Q : Post} {rows_0 : Value} {i_1 : Value} {column_2 : Value} {H : Heap} (h : f84.w Q rows_0 i_1 column_2 H) : Runs Tryz.prog 84 #[rows_0, i_1, column_2] H Q :=
  fn_enter (ann := [(1, [10])]) (by kernel_rfl) Tryz.func84 rfl (by kernel_rfl) h (by kernel_rfl)

/- (loop.example/g01343/impl.Problem).column -/
def f92.j1 (Q : Post) (x_17 : Value) (I1 : St [17] → Heap → Prop) (H : Heap) : Prop :=
  W.bin .add x_17 (.int .i64 1) H fun v16 H =>
  I1 (v16, ()) H
def f92.j2 (Q : Post) (v5 : Value) (H : Heap) : Prop :=
  Q v5 H
def f92.l1 (Q : Post) (v8 : Value) (v7 : Value) (ofZ_2 : Value) (i_1 : Value) (v5 : Value) (I1 : St [17] → Heap → Prop) (x_17 : Value) (H : Heap) : Prop :=
  W.bin .lss x_17 v8 H fun v9 H =>
  W.cond v9 H
  (fun H => W.indexAddr 1 v7 x_17 H fun v10 H =>
   W.get v10 H fun v11 H =>
   W.cond ofZ_2 H
   (fun H => W.indexAddr 1 v11 i_1 H fun v12 H =>
    W.get v12 H fun v13 H =>
    W.un .neg v13 H fun v14 H =>
    W.indexAddr 1 v5 x_17 H fun v15 H =>
    W.put v15 v14 H fun _ H =>
    f92.j1 Q x_17 I1 H)
   (fun H => f92.j1 Q x_17 I1 H))
  (fun H => W.un .not ofZ_2 H fun v17 H =>
   W.cond v17 H
   (fun H => W.indexAddr 1 v5 i_1 H fun v18 H =>
    W.put v18 (.int .i64 1) H fun _ H =>
    f92.j2 Q v5 H)
   (fun H => f92.j2 Q v5 H))
def f92.w (Q : Post) (p_0 : Value) (i_1 : Value) (ofZ_2 : Value) (H : Heap) : Prop :=
  W.box p_0 27 H fun v1 H =>
  W.fieldAddr 1 v1 H fun v2 H =>
  W.get v2 H fun v3 H =>
  W.len v3 H fun v4 H =>
  W.make [(.int .i64 0)] 2 v4 v4 H fun v5 H =>
  W.fieldAddr 0 v1 H fun v6 H =>
  W.get v6 H fun v7 H =>
  W.len v7 H fun v8 H =>
  W.loop (S := St [17]) (fun I1 s H => f92.l1 Q v8 v7 ofZ_2 i_1 v5 I1 s.1 H) ((.int .i64 0), ()) H
theorem f92.enter {Q : Post} {p_0 : Value} {i_1 : Value} {ofZ_2 : Value} {H : Heap} (h : f92.w Q p_0 i_1 ofZ_2 H) : Runs Tryz.prog 92 #[p_0, i_1, ofZ_2] H Q :=
  fn_enter (ann := [(3, [17])]) (by kernel_rfl) Tryz.func92 rfl (by kernel_rfl) h (by kernel_rfl)

/- (loop.example/g01343/impl.Problem).columns -/
def f42.l2 (Q : Post) (v4 : Value) (v1 : Value) (s_1 : Value) (v5 : Value) (I2 : St [26] → Heap → Prop) (x_26 : Value) (H : Heap) : Prop :=
  W.bin .lss x_26 v4 H fun v11 H =>
  W.cond v11 H
  (fun H => W.getN 2 v1 H fun v12 H =>
   W.callQ Tryz.prog (.func (.func 93) #[] #[]) #[s_1, x_26] H fun v13 H =>
   W.callQ Tryz.prog (.func (.func 92) #[] #[]) #[v12, x_26, v13] H fun v14 H =>
   W.call Tryz.prog (.func (.func 84) #[] #[]) #[v5, x_26, v14] H fun v15 H =>
   W.bin .add x_26 (.int .i64 1) H fun v16 H =>
   I2 (v16, ()) H)
  (fun H => Q v5 H)
def f42.l1 (Q : Post) (v6 : Value) (v4 : Value) (v5 : Value) (v1 : Value) (s_1 : Value) (I1 : St [16] → Heap → Prop) (x_16 : Value) (H : Heap) : Prop :=
  W.bin .lss x_16 v6 H fun v7 H =>
  W.cond v7 H
  (fun H => W.make [(.int .i64 0)] 2 v4 v4 H fun v8 H =>
   W.indexAddr 1 v5 x_16 H fun v9 H =>
   W.put v9 v8 H fun _ H =>
   W.bin .add x_16 (.int .i64 1) H fun v10 H =>
   I1 (v10, ()) H)
  (fun H => W.loop (S := St [26]) (fun I2 s H => f42.l2 Q v4 v1 s_1 v5 I2 s.1 H) ((.int .i64 0), ()) H)
def f42.w (Q : Post) (p_0 : Value) (s_1 : Value) (H : Heap) : Prop :=
  W.box p_0 27 H fun v1 H =>
  W.fieldAddr 1 v1 H fun v2 H =>
  W.get v2 H fun v3 H =>
  W.len v3 H fun v4 H =>
  W.make [(.slice none 0 0)] 25 v4 v4 H fun v5 H =>
  W.len v5 H fun v6 H =>
  W.loop (S := St [16]) (fun I1 s H => f42.l1 Q v6 v4 v5 v1 s_1 I1 s.1 H) ((.int .i64 0), ()) H
theorem f42.enter {Q : Post} {p_0 : Value} {s_1 : Value} {H : Heap} (h : f42.w Q p_0 s_1 H) : Runs Tryz.prog 42 #[p_0, s_1] H Q :=
  fn_enter (ann := [(4, [16]), (9, [26])]) (by kernel_rfl) Tryz.func42 rfl (by kernel_rfl) h (by kernel_rfl)

/- (loop.example/g01343/impl.Problem).solve -/
def f36.l1 (Q : Post) (v8 : Value) (v3 : Value) (right_2 : Value) (v4 : Value) (v7 : Value) (I1 : St [26] → Heap → Prop) (x_26 : Value) (H : Heap) : Prop :=
  W.bin .lss x_26 v8 H fun v9 H =>
  W.cond v9 H
  (fun H => W.call Tryz.prog (.func (.func 83) #[] #[]) #[v3] H fun v10 H =>
   W.call Tryz.prog (.func (.func 84) #[] #[]) #[v10, x_26, right_2] H fun v11 H =>
   W.call Tryz.prog (.func (.func 85) #[] #[]) #[v4] H fun v12 H =>
   W.call Tryz.prog (.func (.func 41) #[] #[]) #[v10] H fun v13 H =>
   W.bin .mul v12 v13 H fun v14 H =>
   W.indexAddr 1 v7 x_26 H fun v15 H =>
   W.put v15 v14 H fun _ H =>
   W.bin .add x_26 (.int .i64 1) H fun v16 H =>
   I1 (v16, ()) H)
  (fun H => W.call Tryz.prog (.func (.func 86) #[] #[]) #[v4] H fun v17 H =>
   Q (.tuple #[v7, v17, (.bool true)]) H)
def f36.w (Q : Post) (p_0 : Value) (s_1 : Value) (right_2 : Value) (H : Heap) : Prop :=
  W.box p_0 27 H fun v1 H =>
  W.getN 2 v1 H fun v2 H =>
  W.call Tryz.prog (.func (.func 42) #[] #[]) #[v2, s_1] H fun v3 H =>
  W.call Tryz.prog (.func (.func 41) #[] #[]) #[v3] H fun v4 H =>
  W.bin .eql v4 (.int .i64 0) H fun v5 H =>
  W.cond v5 H
  (fun H => Q (.tuple #[(.slice none 0 0), (.int .i64 0), (.bool false)]) H)
  (fun H => W.len right_2 H fun v6 H =>
   W.make [(.int .i64 0)] 2 v6 v6 H fun v7 H =>
   W.len v7 H fun v8 H =>
   W.loop (S := St [26]) (fun I1 s H => f36.l1 Q v8 v3 right_2 v4 v7 I1 s.1 H) ((.int .i64 0), ()) H)
theorem f36.enter {Q : Post} {p_0 : Value} {s_1 : Value} {right_2 : Value} {H : Heap} (h : f36.w Q p_0 s_1 right_2 H) : Runs Tryz.prog 36 #[p_0, s_1, right_2] H Q :=
  fn_enter (ann := [(7, [26])]) (by kernel_rfl) Tryz.func36 rfl (by kernel_rfl) h (by kernel_rfl)


theorem range_set {n x : Nat} {f g : Nat → Int} {y : Int} (h : g x = y) (hk : ∀ k, k < n → k ≠ x → g k = f k) : ((List.range n).map f).set x y = (List.range n).map g := by
  apply List.ext_getElem
  · simp
  · intro k h1 h2
    rw [List.getElem_set]
    have hkn : k < n := by simpa using h2
    simp only [List.getElem_map, List.getElem_range]
    by_cases e : x = k
    · subst e; rw [if_pos rfl, h]
    · rw [if_neg e, hk k hkn fun g => e g.symm]

theorem fn93 {H0 : Heap} {Q : Post} {s i : Nat} (hs : s < 9223372036854775808) (hi : i ≤ 63) (hQ : Q (.bool (s.testBit i)) H0) : Runs Tryz.prog 93 #[.int .i64 (s : Nat), .int .i64 (i : Nat)] H0 Q := by
  refine f93.enter (Wi.shrN hs hi (Wi.and1 (Wi.eqlC (fun h => ?_) fun h => ?_)))
  · rw [bit_iff.1 h] at hQ; exact hQ
  · rw [show s.testBit i = false by cases hb : s.testBit i with | false => rfl | true => exact absurd (bit_iff.2 hb) h] at hQ
    exact hQ

theorem fn84 {H : Heap} {Q : Post} {bs bc : List Nat} {v vc : Value} {xs : List (List Int)} {col : List Int} {i : Nat} (h : RSS.rel H bs [v] xs) (hn : bs.Nodup) (hrw : RW H bs) (hc : RS.rel H bc [vc] col) (hap : ∀ b ∈ bc, b ∉ bs)
    (hs : ∀ r ∈ xs, i < r.length) (hcl : xs.length ≤ col.length) (hQ : ∀ H', Marked RSS H bs [v] (putCol i col xs) H' → Q (.tuple #[]) H') : Runs Tryz.prog 84 #[v, .int .i64 (i : Nat), vc] H Q := by
  have hsm := (show Has RSS H [v] xs from ⟨_, h⟩).small
  refine f84.enter (Wl.lenH (show Has RSS H [v] xs from ⟨_, h⟩) ?_)
  refine W.for_rule xs.length (fun k s H' => s = (.int .i64 (k : Nat), ()) ∧ Marked RSS H bs [v] (putTo k i col xs) H') ⟨rfl, by rw [putTo_zero]; exact Marked.refl h hrw⟩ ?_
  rintro k s H1 J hk ⟨rfl, m⟩ hJ
  refine Wi.lssC (fun hlt => Wi.tru ?_) fun hge => Wi.fls ?_
  · have hkx : k < xs.length := by omega
    obtain ⟨u, fi, g1, g2, g3, g4, g5⟩ := rows_at m.rel hn m.rw (a := k) (by rw [putTo_len]; exact hkx)
    rw [putTo_at hkx] at g2
    have hc1 : Has RS H1 [vc] col := ⟨bc, Rd.frame _ hc m.next fun b hb => m.off b (Rd.low _ hc b hb) (hap b hb)⟩
    refine g1 .i64 _ (Wl.atIntH hc1 (i := k) (by omega) fun hy => Wi.setInt g2 g3 (hs _ (List.getElem_mem hkx)) hy fun H2 m2 => Wi.add (by unfold I64; omega) (hJ _ _ hkx ⟨rfl, ?_⟩))
    have := m.trans (g5 H2 _ m2)
    have e : col[k]'(by omega) = col.getD k 0 := by rw [atD]
    rw [e, putTo_step hkx] at this
    exact this
  · have : k = xs.length := by omega
    subst this
    rw [putTo_all] at m
    exact hQ _ m

theorem fn92 {H0 : Heap} {Q : Post} {cs : List Value} {p : Prob} {n i : Nat} {ofZ : Bool} (hr : Has RProblem H0 cs p) (hp : PB n p) (hi : i < n) (hQ : ∀ H' u, Fresh RS H0 [u] (columnV n p.1 ofZ i) H' → Q u H') :
    Runs Tryz.prog 92 #[.agg cs.toArray, .int .i64 (i : Nat), .bool ofZ] H0 Q := by
  obtain ⟨u1, u2, rfl, r1, r2⟩ := hasProb hr
  have hn := hp.n5; have hql := hp.ql; have hsq := hp.sq; have hl1 := hsq.1
  refine f92.enter ?_
  unfold f92.w
  have h := ((Loc.start H0).lent r1).lent r2
  refine Wl.box h fun H b h => Wi.fieldAddr (Wl.get h rfl (Wl.len h ?_))
  refine Wl.make (r := Rd.int) (z := 0) (fun _ => ⟨rfl, rfl, by unfold I64; omega⟩) h (by omega) (by decide) fun H u h => Wi.fieldAddr0 (Wl.get h rfl (Wl.len h ?_))
  have h := h.asData (i := 0) rfl
  have e0 : List.replicate p.2.length (0 : Int) = (List.range n).map fun _ => 0 := by
    rw [hql]
    apply List.ext_getElem <;> simp
  rw [e0] at h
  refine W.for_rule n (fun x s H => s = (.int .i64 (x : Nat), ()) ∧ Ab.Loc H0 [.data RS [u] ((List.range n).map fun k => if ofZ = true ∧ k < x then -(mAt p.1 k i) else 0), .box b [u1, u2], .lent RS [u2] p.2, .lent RSS [u1] p.1] H) ⟨rfl, by simpa using h⟩ ?_
  rintro x s H J hx ⟨rfl, h⟩ hJ
  have hI : I64 ((x : Int) + 1) := by unfold I64; omega
  refine Wi.lssC (fun hlt => Wi.tru ?_) fun hge => Wi.fls ?_
  · have hxn : x < n := by omega
    have hxl : x < p.1.length := by omega
    have hrl := hsq.2 _ (List.getElem_mem hxl)
    refine Wl.at1 rfl h hxl fun w hw => ?_
    cases ofZ with
    | true =>
      have hil : i < p.1[x].length := by omega
      have e1 : p.1[x][i] = mAt p.1 x i := (mAt_at hxl hil).symm
      have b1 := hp.m x i
      refine Wi.tru (Wl.atIntH hw hil fun _ => Wi.neg (by rw [e1]; unfold I64; omega) (Wl.setInt h (by simpa using hxn) (by rw [e1]; unfold I64; omega) fun H h => Wi.add hI (hJ _ _ hxn ⟨rfl, ?_⟩)))
      rw [e1, range_set (g := fun k => if true = true ∧ k < x + 1 then -(mAt p.1 k i) else 0) (by simp) (fun k _ hk => by
        by_cases g : k < x
        · simp [g, show k < x + 1 by omega]
        · simp [g, show ¬ k < x + 1 by omega])] at h
      exact h
    | false =>
      refine Wi.fls (Wi.add hI (hJ _ _ hxn ⟨rfl, ?_⟩))
      simpa using h
  · have : x = n := by omega
    subst this
    cases ofZ with
    | true =>
      simp only [gw]
      refine hQ _ _ ?_
      have e : columnV x p.1 true i = (List.range x).map fun k => if true = true ∧ k < x then -(mAt p.1 k i) else 0 := List.map_congr_left fun k hk => by
        rw [if_pos rfl, if_pos ⟨rfl, by simpa using hk⟩]
      rw [e]
      exact h.ret (i := 0) rfl
    | false =>
      simp only [gw]
      refine Wl.setInt h (by simpa using hi) (by unfold I64; omega) fun H h => hQ _ _ ?_
      rw [range_set (g := fun k => if k = i then 1 else 0) (by simp) (fun k _ hk => by simp [hk])] at h
      have e : columnV x p.1 false i = (List.range x).map fun k => if k = i then 1 else 0 := List.map_congr_left fun k hk => by simp
      rw [e]
      exact h.ret (i := 0) rfl

theorem fn42 {H0 : Heap} {Q : Post} {cs : List Value} {p : Prob} {n s : Nat} (hr : Has RProblem H0 cs p) (hp : PB n p) (hs : s < 9223372036854775808) (hQ : ∀ H' u, Fresh RSS H0 [u] (colL n p.1 s) H' → Q u H') :
    Runs Tryz.prog 42 #[.agg cs.toArray, .int .i64 (s : Nat)] H0 Q := by
  obtain ⟨u1, u2, rfl, r1, r2⟩ := hasProb hr
  have hn := hp.n5; have hql := hp.ql; have hsq := hp.sq; have hl1 := hsq.1
  refine f42.enter ?_
  unfold f42.w
  have h := ((Loc.start H0).lent hr).lent r2
  refine Wl.box h fun H b h => Wi.fieldAddr (Wl.get h rfl (Wl.len h ?_))
  rw [hql]
  refine Wl.make (r := RS) (z := []) (fun _ => .inl ⟨rfl, rfl, .inl rfl⟩) h (by omega) (by decide) fun H v h => Wl.len h ?_
  obtain ⟨us, hus, h⟩ := h.headsE (i := 0) rfl rfl
  have e0 : List.replicate n ([] : List Int) = (List.range n).map fun r => if r < 0 then List.replicate n 0 else [] := by
    apply List.ext_getElem <;> simp
  rw [e0] at h
  rw [List.length_replicate]
  refine W.for_rule n (fun x st H => st = (.int .i64 (x : Nat), ()) ∧ ∃ us, Ab.Loc H0 [.rowsE RS v us ((List.range n).map fun r => if r < x then List.replicate n 0 else []), .box b [u1, u2], .lent RS [u2] p.2, .lent RProblem [u1, u2] p] H) ⟨rfl, us, h⟩ ?_
  rintro x st H J hx ⟨rfl, us, h⟩ hJ
  refine Wi.lssC (fun hlt => Wi.tru ?_) fun hge => Wi.fls ?_
  · have hxn : x < n := by omega
    refine Wl.make (r := Rd.int) (z := 0) (fun _ => ⟨rfl, rfl, by unfold I64; omega⟩) h (by omega) (by decide) fun H u h => ?_
    have h := h.asData (i := 0) rfl
    refine Wl.putRowE rfl h (i := 1) (j := 0) (by simpa using hxn) (by omega) fun H h => Wi.add (by unfold I64; omega) (hJ _ _ hxn ⟨rfl, us.set x u, ?_⟩)
    have e : ((List.range n).map fun r => if r < x then List.replicate n (0 : Int) else []).set x (List.replicate n 0) = (List.range n).map fun r => if r < x + 1 then List.replicate n 0 else [] := by
      apply List.ext_getElem
      · simp
      · intro k h1 h2
        rw [List.getElem_set]
        simp only [List.getElem_map, List.getElem_range]
        by_cases g : x = k
        · subst g; simp
        · rw [if_neg g]
          by_cases g2 : k < x
          · rw [if_pos g2, if_pos (by omega)]
          · rw [if_neg g2, if_neg (by omega)]
    have h := h.tl
    rw [e] at h
    exact h
  have : x = n := by omega
  subst this
  have h := h.unrowsE (i := 0) rfl
  have e1 : ((List.range x).map fun r => if r < x then List.replicate x (0 : Int) else []) = colTo x p.1 s 0 := by
    unfold colTo tabL
    refine List.map_congr_left fun r hr => ?_
    rw [if_pos (by simpa using hr)]
    apply List.ext_getElem <;> simp
  rw [e1] at h
  refine W.for_rule x (fun i st H => st = (.int .i64 (i : Nat), ()) ∧ Ab.Loc H0 [.data RSS [v] (colTo x p.1 s i), .box b [u1, u2], .lent RS [u2] p.2, .lent RProblem [u1, u2] p] H) ⟨rfl, h⟩ ?_
  rintro i st H J2 hi ⟨rfl, h⟩ hJ2
  refine Wi.lssC (fun hlt => Wi.tru ?_) fun hge => Wi.fls ?_
  · have hin : i < x := by omega
    refine Wl.getA h rfl (Wi.callQ (fn93 hs (by omega) ⟨.refl _, Wi.callQ (fn92 (h.rd (cs := [u1, u2])) hp hin fun H1 u f => ⟨f.le, ?_⟩)⟩))
    have h := h.add f
    obtain ⟨bs, bc, g1, g2, g3, g4, g5, g6⟩ := h.apart (i := 1) (j := 0) rfl rfl (by omega)
    have hsq2 := tabL_sq x fun r c => if c < i then colE p.1 s r c else 0
    refine Wi.call (fn84 g1 g2 g3 g4 g5 (fun r hr => by rw [hsq2.2 r hr]; exact hin) (by rw [show (colTo x p.1 s i).length = x from hsq2.1]; simp [columnV]) fun H2 m => Wi.add (by unfold I64; omega) (hJ2 _ _ hin ⟨rfl, ?_⟩))
    have h := (g6 _ _ m).tl
    rw [colTo_step hin] at h
    exact h
  · have : i = x := by omega
    subst this
    rw [colTo_all] at h
    exact hQ _ _ (h.ret (i := 0) rfl)

theorem fn36 {H0 : Heap} {Q : Post} {cs : List Value} {vr : Value} {p : Prob} {n s : Nat} {right : List Int} (hr : Has RProblem H0 cs p) (hp : PB n p) (hs : s < 9223372036854775808) (hx : Has RS H0 [vr] right) (hrl : right.length = n) (hrb : ∀ e ∈ right, e.natAbs ≤ 100)
    (h1 : det n (mAt (colL n p.1 s)) = 0 → ∀ H', H0.Le H' → Q (.tuple #[.slice none 0 0, .int .i64 0, .bool false]) H')
    (h2 : det n (mAt (colL n p.1 s)) ≠ 0 → ∀ H' u, Fresh RS H0 [u] (pointL n (colL n p.1 s) right) H' → Q (.tuple #[u, .int .i64 (det n (mAt (colL n p.1 s))).natAbs, .bool true]) H') :
    Runs Tryz.prog 36 #[.agg cs.toArray, .int .i64 (s : Nat), vr] H0 Q := by
  obtain ⟨u1, u2, rfl, r1, r2⟩ := hasProb hr
  have hn := hp.n5
  refine f36.enter ?_
  unfold f36.w
  have h := ((Loc.start H0).lent hr).lent hx
  have hcs := tabL_sq n (colE p.1 s)
  have hcr := colL_rows (m := p.1) s hn fun r c _ _ => hp.m r c
  refine Wl.box h fun H b h => Wl.getA h rfl (Wi.call (fn42 (h.rd (cs := [u1, u2])) hp hs fun H vr' f => ?_))
  have h := h.add f
  refine Wi.call (fn41 (h.rd (cs := [vr'])) hcs hn hcr fun H l => ?_)
  have h := h.to l
  have hD := det200 hn hcr
  refine Wi.eqlC (fun hz => Wi.tru (h1 hz _ h.le)) fun hnz => Wi.fls (Wl.len h ?_)
  rw [hrl]
  refine Wl.make (r := Rd.int) (z := 0) (fun _ => ⟨rfl, rfl, by unfold I64; omega⟩) h (by omega) (by decide) fun H u h => Wl.len h ?_
  have h := h.asData (i := 0) rfl
  rw [List.length_replicate]
  have e0 : List.replicate n (0 : Int) = (List.range n).map fun k => if k < 0 then sgI (det n (mAt (colL n p.1 s))) * det n (mAt (putCol k right (colL n p.1 s))) else 0 := by
    apply List.ext_getElem <;> simp
  rw [e0] at h
  refine W.for_rule n (fun x st H => st = (.int .i64 (x : Nat), ()) ∧ Ab.Loc H0 [.data RS [u] ((List.range n).map fun k => if k < x then sgI (det n (mAt (colL n p.1 s))) * det n (mAt (putCol k right (colL n p.1 s))) else 0), .data RSS [vr'] (colL n p.1 s), .box b [u1, u2], .lent RS [vr] right, .lent RProblem [u1, u2] p] H) ⟨rfl, h⟩ ?_
  rintro x st H J hxx ⟨rfl, h⟩ hJ
  refine Wi.lssC (fun hlt => Wi.tru ?_) fun hge => Wi.fls ?_
  · have hxn : x < n := by omega
    refine Wi.call (fn83 (h.rd (cs := [vr'])) ⟨by rw [show (colL n p.1 s).length = n from hcs.1]; omega, fun r hr => by rw [hcs.2 r hr]; omega⟩ fun H w g => ?_)
    have h := (h.add g.fresh)
    obtain ⟨bs, bc, g1, g2, g3, g4, g5, g6⟩ := h.apartL (i := 0) rfl hx
    refine Wi.call (fn84 g1 g2 g3 g4 g5 (fun r hr => by rw [hcs.2 r hr]; exact hxn) (by rw [show (colL n p.1 s).length = n from hcs.1, hrl]; exact Nat.le_refl _) fun H2 m => ?_)
    have h := g6 _ _ m
    have hpr := putCol_rows (k := x) hcs hn (fun r c hr hc => by rw [show mAt (tabL n (colE p.1 s)) r c = colE p.1 s r c from tabL_at hr hc]; exact colE_abs (hp.m r c)) hrb hxn
    have hpd := det200 hn hpr
    refine Wi.call (fn85 (Wi.call (fn41 (h.rd (cs := [w])) (putCol_sq hcs) hn hpr fun H l => ?_)))
    have h := (h.to l).tl
    have hI : (sgI (det n (mAt (colL n p.1 s))) * det n (mAt (putCol x right (colL n p.1 s)))).natAbs ≤ 1 * 320000000000 := mulA (sgI_abs _) hpd
    refine Wi.mul (i64A hI (by decide)) (Wl.setInt h (by simpa using hxn) (i64A hI (by decide)) fun H h => Wi.add (by unfold I64; omega) (hJ _ _ hxn ⟨rfl, ?_⟩))
    rw [range_set (g := fun k => if k < x + 1 then sgI (det n (mAt (colL n p.1 s))) * det n (mAt (putCol k right (colL n p.1 s))) else 0) (by simp) (fun k _ hk => by
      by_cases g : k < x
      · rw [if_pos g, if_pos (by omega)]
      · rw [if_neg g, if_neg (by omega)])] at h
    exact h
  · have : x = n := by omega
    subst this
    refine Wi.call (fn86 (by unfold B64; unfold colL at hD; unfold colL; omega) ?_)
    have e : pointL x (colL x p.1 s) right = (List.range x).map fun k => if k < x then sgI (det x (mAt (colL x p.1 s))) * det x (mAt (putCol k right (colL x p.1 s))) else 0 := by
      unfold pointL solveL
      rw [List.map_map]
      refine List.map_congr_left fun k hk => ?_
      rw [if_pos (by simpa using hk)]
      rfl
    refine h2 hnz _ _ ?_
    rw [e]
    exact h.ret (i := 0) rfl


end Go.Proofs.YtgdiebnokgnniaaGreatDoor

/-! The contract of l01Own. No condition. -/
namespace Go.Proofs.YtgdiebnokgnniaaGreatDoor
open Go.Ab

/- loop.example/g01343/spec.l01Own -/
def f94.w (Q : Post) (list_0 : Value) (H : Heap) : Prop :=
  W.lit 0 [(.int .i64 0)] 2 [] H fun v1 H =>
  W.append 1 2 v1 list_0 H fun v2 H =>
  Q v2 H
theorem f94.enter {Q : Post} {list_0 : Value} {H : Heap} (h : f94.w Q list_0 H) : Runs Tryz.prog 94 #[list_0] H Q :=
  fn_enter (ann := []) (by kernel_rfl) Tryz.func94 rfl (by kernel_rfl) h (by kernel_rfl)


theorem fn94 {H0 : Heap} {Q : Post} {v : Value} {xs : List Int} (hr : Has RS H0 [v] xs) (hlen : xs.length ≤ 17179869184) (hQ : ∀ H' u, FreshG Rd.int 2 H0 u xs H' → Q u H') : Runs Tryz.prog 94 #[v] H0 Q :=
  f94.enter (Wl.lit0 Rd.int rfl ((Loc.start H0).lent hr) fun H u h => Wl.appendH (i := 0) rfl h rfl h.rd (by simpa using hlen) fun H' v' h => hQ _ _ (h.retGG (i := 0) rfl))

end Go.Proofs.YtgdiebnokgnniaaGreatDoor

/-! The contract of the reference's determinant, by the numbers of the first row. No condition. -/
namespace Go.Proofs.YtgdiebnokgnniaaGreatDoor
open Go.Ab

/- loop.example/g01343/spec.l01Det -/
def f43.j1 (Q : Post) (k_4 : Value) (I1 : St [3, 4] → Heap → Prop) (sum_3' : Value) (H : Heap) : Prop :=
  W.bin .add k_4 (.int .i64 1) H fun v10 H =>
  I1 (sum_3', v10, ()) H
def f43.j2 (Q : Post) (sum_3 : Value) (k_4 : Value) (I1 : St [3, 4] → Heap → Prop) (own_7 : Value) (H : Heap) : Prop :=
  W.bin .add sum_3 own_7 H fun v35 H =>
  f43.j1 Q k_4 I1 v35 H
def f43.l2 (Q : Post) (rows_0 : Value) (k_4 : Value) (sum_3 : Value) (I1 : St [3, 4] → Heap → Prop) (I2 : St [5, 6] → Heap → Prop) (rest_5 : Value) (i_6 : Value) (H : Heap) : Prop :=
  W.len rows_0 H fun v12 H =>
  W.bin .lss i_6 v12 H fun v13 H =>
  W.cond v13 H
  (fun H => W.indexAddr 1 rows_0 i_6 H fun v14 H =>
   W.get v14 H fun v15 H =>
   W.slice 1 v15 none (some k_4) H fun v16 H =>
   W.callQ Tryz.prog (.func (.func 94) #[] #[]) #[v16] H fun v17 H =>
   W.indexAddr 1 rows_0 i_6 H fun v18 H =>
   W.get v18 H fun v19 H =>
   W.bin .add k_4 (.int .i64 1) H fun v20 H =>
   W.slice 1 v19 (some v20) none H fun v21 H =>
   W.append 1 2 v17 v21 H fun v22 H =>
   W.lit 1 [(.slice none 0 0)] 25 [(0, 1, v22)] H fun v23 H =>
   W.append 1 25 rest_5 v23 H fun v24 H =>
   W.bin .add i_6 (.int .i64 1) H fun v25 H =>
   I2 (v24, v25, ()) H)
  (fun H => W.indexAddr 1 rows_0 (.int .i64 0) H fun v26 H =>
   W.get v26 H fun v27 H =>
   W.indexAddr 1 v27 k_4 H fun v28 H =>
   W.get v28 H fun v29 H =>
   W.callQ Tryz.prog (.func (.func 43) #[] #[]) #[rest_5] H fun v30 H =>
   W.bin .mul v29 v30 H fun v31 H =>
   W.bin .rem k_4 (.int .i64 2) H fun v32 H =>
   W.bin .eql v32 (.int .i64 1) H fun v33 H =>
   W.cond v33 H
   (fun H => W.un .neg v31 H fun v34 H =>
    f43.j2 Q sum_3 k_4 I1 v34 H)
   (fun H => f43.j2 Q sum_3 k_4 I1 v31 H))
def f43.l1 (Q : Post) (rows_0 : Value) (I1 : St [3, 4] → Heap → Prop) (sum_3 : Value) (k_4 : Value) (H : Heap) : Prop :=
  W.len rows_0 H fun v3 H =>
  W.bin .lss k_4 v3 H fun v4 H =>
  W.cond v4 H
  (fun H => W.indexAddr 1 rows_0 (.int .i64 0) H fun v5 H =>
   W.get v5 H fun v6 H =>
   W.indexAddr 1 v6 k_4 H fun v7 H =>
   W.get v7 H fun v8 H =>
   W.bin .eql v8 (.int .i64 0) H fun v9 H =>
   W.cond v9 H
   (fun H => f43.j1 Q k_4 I1 sum_3 H)
   (fun H => W.lit 0 [(.slice none 0 0)] 25 [] H fun v11 H =>
    W.loop (S := St [5, 6]) (fun I2 s H => f43.l2 Q rows_0 k_4 sum_3 I1 I2 s.1 s.2.1 H) (v11, (.int .i64 1), ()) H))
  (fun H => Q sum_3 H)
def f43.w (Q : Post) (rows_0 : Value) (H : Heap) : Prop :=
  W.len rows_0 H fun v1 H =>
  W.bin .eql v1 (.int .i64 0) H fun v2 H =>
  W.cond v2 H
  (fun H => Q (.int .i64 1) H)
  (fun H => W.loop (S := St [3, 4]) (fun I1 s H => f43.l1 Q rows_0 I1 s.1 s.2.1 H) ((.int .i64 0), (.int .i64 0), ()) H)
theorem f43.enter {Q : Post} {rows_0 : Value} {H : Heap} (h : f43.w Q rows_0 H) : Runs Tryz.prog 43 #[rows_0] H Q :=
  fn_enter (ann := [(5, [3, 4]), (10, [5, 6])]) (by kernel_rfl) Tryz.func43 rfl (by kernel_rfl) h (by kernel_rfl)


/-- Rows that have grown. -/
abbrev RG : Rd (List (List Int)) := Rd.slice (Rd.gslice Rd.int 2)

theorem tmod_two (k : Nat) : ((k : Int).tmod 2 = 1) ↔ k % 2 = 1 := by
  rw [Int.tmod_eq_emod_of_nonneg (by omega)]
  omega

theorem fn43 : ∀ {n : Nat} {H0 : Heap} {Q : Post} {v : Value} {rows : List (List Int)}, Has RG H0 [v] rows → Sq n rows → n ≤ 5 → (∀ i, i < n → nsum n (fun j => (mAt rows i j).natAbs) ≤ 200) →
    (∀ H', H0.Le H' → Q (.int .i64 (det n (mAt rows))) H') → Runs Tryz.prog 43 #[v] H0 Q := by
  intro n
  induction n with
  | zero =>
    intro H0 Q v rows hr hs hn hR hQ
    refine f43.enter (Wl.lenH hr (Wi.eqlC (fun _ => Wi.tru (hQ _ (.refl _))) fun h => absurd (by rw [hs.1]; rfl) h))
  | succ m ih =>
    intro H0 Q v rows hr hs hn hR hQ
    have hl := hs.1
    have h200 : 200 ^ (m + 1) ≤ 320000000000 := pow200 hn
    refine f43.enter (Wl.lenH hr (Wi.eqlC (fun h => by omega) fun _ => Wi.fls ?_))
    refine W.for_rule (m + 1) (fun k s H => s = (.int .i64 (sumTo k fun k => sgn k * mAt rows 0 k * det m (minorF (mAt rows) k)), .int .i64 (k : Nat), ()) ∧ Ab.Loc H0 [.lent RG [v] rows] H) ⟨rfl, (Loc.start H0).lent hr⟩ ?_
    rintro k s H J hk ⟨rfl, h⟩ hJ
    refine Wl.len h (Wi.lssC (fun hlt => Wi.tru ?_) fun hge => Wi.fls ?_)
    · have hkm : k < m + 1 := by omega
      have h0 : 0 < rows.length := by omega
      have hr0 := hs.2 _ (List.getElem_mem h0)
      have hk0 : k < rows[0].length := by omega
      have e0 : rows[0][k] = mAt rows 0 k := (mAt_at h0 hk0).symm
      obtain ⟨p1, p2⟩ := det_part hR (m := k + 1) (by omega)
      have p2 := p2 k hkm
      have p3 := (det_part hR (m := k) (by omega)).1
      have next : ∀ H', Ab.Loc H0 [.lent RG [v] rows] H' → f43.j1 Q (.int .i64 (k : Nat)) J (.int .i64 (sumTo (k + 1) fun k => sgn k * mAt rows 0 k * det m (minorF (mAt rows) k))) H' := fun H' h' => by
        unfold f43.j1
        exact Wi.add (by unfold I64; omega) (hJ _ _ hkm ⟨rfl, h'⟩)
      refine Wl.at1 (i := 0) rfl h h0 fun w hw => Wl.atIntH hw.ofG1 hk0 fun _ => Wi.eqlC (fun hz => Wi.tru ?_) fun hnz => Wi.fls (Wl.lit0 (ty := 25) (Rd.gslice Rd.int 2) rfl h fun H y h => ?_)
      · have := next H h
        simp only [sumTo] at this
        rw [← e0, hz, Int.mul_zero, Int.zero_mul, Int.add_zero] at this
        exact this
      refine W.for_rule m (fun i s H => ∃ y, s = (y, .int .i64 ((i + 1 : Nat) : Int), ()) ∧ Ab.Loc H0 [.grow (Rd.gslice Rd.int 2) 25 y ((rows.tail.take i).map (dropCol k)), .lent RG [v] rows] H) ⟨_, rfl, h⟩ ?_
      rintro i s H J2 hi ⟨y, rfl, h⟩ hJ2
      refine Wl.len h (Wi.lssC (fun hlt2 => Wi.tru ?_) fun hge2 => Wi.fls ?_)
      · have him : i < m := by omega
        have hix : i + 1 < rows.length := by omega
        have hri := hs.2 _ (List.getElem_mem hix)
        refine Wl.at1 (i := i + 1) rfl h hix fun w1 hw1 => Wl.cutLoH (k := k) hw1.ofG1 (by omega) fun w2 hw2 => Wi.callQ (fn94 hw2 (by simp; omega) fun H u f => ⟨f.le, ?_⟩)
        have h := h.addG f
        refine Wl.at1 (i := i + 1) rfl h hix fun w3 hw3 => Wi.add (by unfold I64; omega) (Wl.cutHiG (k := k + 1) rfl hw3 (by omega) fun w4 hw4 => ?_)
        refine Wl.appendH (i := 0) rfl h rfl hw4 (by simp; omega) fun H u' h => ?_
        have h2 : Ab.Loc H0 [.grow Rd.int 2 u' (dropCol k rows[i + 1]), .grow (Rd.gslice Rd.int 2) 25 y ((rows.tail.take i).map (dropCol k)), .lent RG [v] rows] H := h
        refine Wl.pushGG h2 (by simp; omega) fun H y' h => Wi.add (by unfold I64; omega) (hJ2 _ _ him ⟨y', rfl, ?_⟩)
        rw [List.take_succ_eq_append_getElem (by simp; omega), List.map_append]
        simpa using h
      · have : i = m := by omega
        subst this
        have h := h.asData (i := 0) rfl
        have et : rows.tail.take i = rows.tail := List.take_of_length_le (by simp; omega)
        rw [et] at h
        have ed : det i (mAt (rows.tail.map (dropCol k))) = det i (minorF (mAt rows) k) := det_congr fun r c hr hc => rest_at hs hkm hr
        refine Wl.at1 (i := 0) rfl h h0 fun w hw => Wl.atIntH hw.ofG1 hk0 fun _ => ?_
        refine Wi.callQ (ih (h.rd (cs := [y])) (rest_sq hs hkm) (by omega) (fun r hr => ?_) fun H' l => ⟨l, ?_⟩)
        · have := minorF_rows hR (k := k) (by omega) r hr
          rw [nsum_congr fun j _ => by rw [rest_at (j := j) hs hkm hr]]
          exact this
        have h := (h.to l).tl
        rw [e0, ed]
        refine Wi.mul (i64A p2 (by omega)) (Wi.rem (by decide) (by
          rw [Int.tmod_eq_emod_of_nonneg (by omega)]
          unfold I64
          omega) ?_)
        have hnx := next H' h
        simp only [sumTo] at hnx p1
        refine Wi.eqlC (fun ho => Wi.tru (Wi.neg (i64A (negA p2) (by omega)) ?_)) fun he => Wi.fls ?_
        · have hs1 : sgn k = -1 := by unfold sgn; rw [if_neg (by have := (tmod_two k).1 ho; omega)]
          rw [hs1] at hnx p1
          have eq : -1 * mAt rows 0 k * det i (minorF (mAt rows) k) = -(mAt rows 0 k * det i (minorF (mAt rows) k)) := by
            rw [Int.neg_mul, Int.one_mul, Int.neg_mul]
          rw [eq] at hnx p1
          unfold f43.j2
          exact Wi.add (i64A p1 (by omega)) hnx
        · have hs1 : sgn k = 1 := by unfold sgn; rw [if_pos (by have := mt (tmod_two k).2 he; omega)]
          rw [hs1, Int.one_mul] at hnx p1
          unfold f43.j2
          exact Wi.add (i64A p1 (by omega)) hnx
    · have : k = m + 1 := by omega
      subst this
      exact hQ _ h.le

end Go.Proofs.YtgdiebnokgnniaaGreatDoor

/-! One more of a range. No condition. -/
namespace Go.Proofs.YtgdiebnokgnniaaGreatDoor
open Go.Ab

theorem range_push {α : Type} {k : Nat} {f : Nat → α} {x : α} (h : f k = x) : (List.range k).map f ++ [x] = (List.range (k + 1)).map f := by
  rw [List.range_succ, List.map_append]
  simp [h]

end Go.Proofs.YtgdiebnokgnniaaGreatDoor

/-! Contracts of the reference's columns, solve and point. No condition. -/
namespace Go.Proofs.YtgdiebnokgnniaaGreatDoor
open Go.Ab

/- loop.example/g01343/spec.l01Columns -/
def f44.j1 (Q : Post) (k_8 : Value) (I2 : St [7, 8] → Heap → Prop) (row_7' : Value) (H : Heap) : Prop :=
  W.bin .add k_8 (.int .i64 1) H fun v18 H =>
  I2 (row_7', v18, ()) H
def f44.j2 (Q : Post) (k_8 : Value) (I2 : St [7, 8] → Heap → Prop) (row_7'' : Value) (H : Heap) : Prop :=
  f44.j1 Q k_8 I2 row_7'' H
def f44.l2 (Q : Post) (m_0 : Value) (s_1 : Value) (i_6 : Value) (out_5 : Value) (I1 : St [5, 6] → Heap → Prop) (I2 : St [7, 8] → Heap → Prop) (row_7 : Value) (k_8 : Value) (H : Heap) : Prop :=
  W.len m_0 H fun v5 H =>
  W.bin .lss k_8 v5 H fun v6 H =>
  W.cond v6 H
  (fun H => W.conv .u64 k_8 H fun v7 H =>
   W.bin .shr s_1 v7 H fun v8 H =>
   W.bin .and v8 (.int .i64 1) H fun v9 H =>
   W.bin .eql v9 (.int .i64 1) H fun v10 H =>
   W.cond v10 H
   (fun H => W.indexAddr 1 m_0 i_6 H fun v11 H =>
    W.get v11 H fun v12 H =>
    W.indexAddr 1 v12 k_8 H fun v13 H =>
    W.get v13 H fun v14 H =>
    W.un .neg v14 H fun v15 H =>
    W.lit 1 [(.int .i64 0)] 2 [(0, 1, v15)] H fun v16 H =>
    W.append 1 2 row_7 v16 H fun v17 H =>
    f44.j1 Q k_8 I2 v17 H)
   (fun H => W.bin .eql i_6 k_8 H fun v19 H =>
    W.cond v19 H
    (fun H => W.lit 1 [(.int .i64 0)] 2 [(0, 1, (.int .i64 1))] H fun v20 H =>
     W.append 1 2 row_7 v20 H fun v21 H =>
     f44.j2 Q k_8 I2 v21 H)
    (fun H => W.lit 1 [(.int .i64 0)] 2 [(0, 1, (.int .i64 0))] H fun v22 H =>
     W.append 1 2 row_7 v22 H fun v23 H =>
     f44.j2 Q k_8 I2 v23 H)))
  (fun H => W.lit 1 [(.slice none 0 0)] 25 [(0, 1, row_7)] H fun v24 H =>
   W.append 1 25 out_5 v24 H fun v25 H =>
   W.bin .add i_6 (.int .i64 1) H fun v26 H =>
   I1 (v25, v26, ()) H)
def f44.l1 (Q : Post) (m_0 : Value) (s_1 : Value) (I1 : St [5, 6] → Heap → Prop) (out_5 : Value) (i_6 : Value) (H : Heap) : Prop :=
  W.len m_0 H fun v2 H =>
  W.bin .lss i_6 v2 H fun v3 H =>
  W.cond v3 H
  (fun H => W.lit 0 [(.int .i64 0)] 2 [] H fun v4 H =>
   W.loop (S := St [7, 8]) (fun I2 s H => f44.l2 Q m_0 s_1 i_6 out_5 I1 I2 s.1 s.2.1 H) (v4, (.int .i64 0), ()) H)
  (fun H => Q out_5 H)
def f44.w (Q : Post) (m_0 : Value) (s_1 : Value) (H : Heap) : Prop :=
  W.lit 0 [(.slice none 0 0)] 25 [] H fun v1 H =>
  W.loop (S := St [5, 6]) (fun I1 s H => f44.l1 Q m_0 s_1 I1 s.1 s.2.1 H) (v1, (.int .i64 0), ()) H
theorem f44.enter {Q : Post} {m_0 : Value} {s_1 : Value} {H : Heap} (h : f44.w Q m_0 s_1 H) : Runs Tryz.prog 44 #[m_0, s_1] H Q :=
  fn_enter (ann := [(3, [5, 6]), (7, [7, 8])]) (by kernel_rfl) Tryz.func44 rfl (by kernel_rfl) h (by kernel_rfl)

/- loop.example/g01343/spec.l01Solve -/
def f88.l2 (Q : Post) (rows_0 : Value) (q_1 : Value) (k_7 : Value) (out_6 : Value) (I1 : St [6, 7] → Heap → Prop) (I2 : St [8, 9] → Heap → Prop) (own_8 : Value) (i_9 : Value) (H : Heap) : Prop :=
  W.len rows_0 H fun v5 H =>
  W.bin .lss i_9 v5 H fun v6 H =>
  W.cond v6 H
  (fun H => W.indexAddr 1 rows_0 i_9 H fun v7 H =>
   W.get v7 H fun v8 H =>
   W.call Tryz.prog (.func (.func 94) #[] #[]) #[v8] H fun v9 H =>
   W.indexAddr 1 q_1 i_9 H fun v10 H =>
   W.get v10 H fun v11 H =>
   W.indexAddr 1 v9 k_7 H fun v12 H =>
   W.put v12 v11 H fun _ H =>
   W.lit 1 [(.slice none 0 0)] 25 [(0, 1, v9)] H fun v13 H =>
   W.append 1 25 own_8 v13 H fun v14 H =>
   W.bin .add i_9 (.int .i64 1) H fun v15 H =>
   I2 (v14, v15, ()) H)
  (fun H => W.call Tryz.prog (.func (.func 43) #[] #[]) #[own_8] H fun v16 H =>
   W.lit 1 [(.int .i64 0)] 2 [(0, 1, v16)] H fun v17 H =>
   W.append 1 2 out_6 v17 H fun v18 H =>
   W.bin .add k_7 (.int .i64 1) H fun v19 H =>
   I1 (v18, v19, ()) H)
def f88.l1 (Q : Post) (rows_0 : Value) (q_1 : Value) (I1 : St [6, 7] → Heap → Prop) (out_6 : Value) (k_7 : Value) (H : Heap) : Prop :=
  W.len rows_0 H fun v2 H =>
  W.bin .lss k_7 v2 H fun v3 H =>
  W.cond v3 H
  (fun H => W.lit 0 [(.slice none 0 0)] 25 [] H fun v4 H =>
   W.loop (S := St [8, 9]) (fun I2 s H => f88.l2 Q rows_0 q_1 k_7 out_6 I1 I2 s.1 s.2.1 H) (v4, (.int .i64 0), ()) H)
  (fun H => W.call Tryz.prog (.func (.func 43) #[] #[]) #[rows_0] H fun v20 H =>
   Q (.tuple #[out_6, v20]) H)
def f88.w (Q : Post) (rows_0 : Value) (q_1 : Value) (H : Heap) : Prop :=
  W.lit 0 [(.int .i64 0)] 2 [] H fun v1 H =>
  W.loop (S := St [6, 7]) (fun I1 s H => f88.l1 Q rows_0 q_1 I1 s.1 s.2.1 H) (v1, (.int .i64 0), ()) H
theorem f88.enter {Q : Post} {rows_0 : Value} {q_1 : Value} {H : Heap} (h : f88.w Q rows_0 q_1 H) : Runs Tryz.prog 88 #[rows_0, q_1] H Q :=
  fn_enter (ann := [(3, [6, 7]), (7, [8, 9])]) (by kernel_rfl) Tryz.func88 rfl (by kernel_rfl) h (by kernel_rfl)

/- loop.example/g01343/spec.l01Point -/
def f39.l1 (Q : Post) (v8 : Value) (v9 : Value) (I1 : St [8, 9] → Heap → Prop) (out_8 : Value) (i_9 : Value) (H : Heap) : Prop :=
  W.len v8 H fun v12 H =>
  W.bin .lss i_9 v12 H fun v13 H =>
  W.cond v13 H
  (fun H => W.indexAddr 1 v8 i_9 H fun v14 H =>
   W.get v14 H fun v15 H =>
   W.call Tryz.prog (.func (.func 76) #[] #[]) #[v15, v9] H fun v16 H =>
   W.lit 1 [(.int .i64 0), (.int .i64 0)] 38 [(0, 2, v16)] H fun v17 H =>
   W.append 2 38 out_8 v17 H fun v18 H =>
   W.bin .add i_9 (.int .i64 1) H fun v19 H =>
   I1 (v18, v19, ()) H)
  (fun H => Q (.tuple #[out_8, (.bool true)]) H)
def f39.w (Q : Post) (p_0 : Value) (s_1 : Value) (H : Heap) : Prop :=
  W.box p_0 27 H fun v1 H =>
  W.fieldAddr 0 v1 H fun v2 H =>
  W.get v2 H fun v3 H =>
  W.callQ Tryz.prog (.func (.func 44) #[] #[]) #[v3, s_1] H fun v4 H =>
  W.fieldAddr 1 v1 H fun v5 H =>
  W.get v5 H fun v6 H =>
  W.callQ Tryz.prog (.func (.func 88) #[] #[]) #[v4, v6] H fun v7 H =>
  W.extract 0 v7 H fun v8 H =>
  W.extract 1 v7 H fun v9 H =>
  W.bin .eql v9 (.int .i64 0) H fun v10 H =>
  W.cond v10 H
  (fun H => Q (.tuple #[(.slice none 0 0), (.bool false)]) H)
  (fun H => W.lit 0 [(.int .i64 0), (.int .i64 0)] 38 [] H fun v11 H =>
   W.loop (S := St [8, 9]) (fun I1 s H => f39.l1 Q v8 v9 I1 s.1 s.2.1 H) (v11, (.int .i64 0), ()) H)
theorem f39.enter {Q : Post} {p_0 : Value} {s_1 : Value} {H : Heap} (h : f39.w Q p_0 s_1 H) : Runs Tryz.prog 39 #[p_0, s_1] H Q :=
  fn_enter (ann := [(6, [8, 9])]) (by kernel_rfl) Tryz.func39 rfl (by kernel_rfl) h (by kernel_rfl)


theorem fn44 {H0 : Heap} {Q : Post} {v : Value} {m : List (List Int)} {n s : Nat} (hr : Has RSS H0 [v] m) (hsq : Sq n m) (hn : n ≤ 5) (hb : ∀ r c, (mAt m r c).natAbs ≤ 20) (hs : s < 9223372036854775808)
    (hQ : ∀ H' u, FreshG (Rd.gslice Rd.int 2) 25 H0 u (colL n m s) H' → Q u H') : Runs Tryz.prog 44 #[v, .int .i64 (s : Nat)] H0 Q := by
  have hl := hsq.1
  refine f44.enter ?_
  unfold f44.w
  refine Wl.lit0 (ty := 25) (Rd.gslice Rd.int 2) rfl ((Loc.start H0).lent hr) fun H y h => ?_
  refine W.for_rule n (fun i st H => ∃ y, st = (y, .int .i64 (i : Nat), ()) ∧ Ab.Loc H0 [.grow (Rd.gslice Rd.int 2) 25 y ((List.range i).map fun r => (List.range n).map (colE m s r)), .lent RSS [v] m] H) ⟨_, rfl, h⟩ ?_
  rintro i st H J hi ⟨y, rfl, h⟩ hJ
  refine Wl.len h (Wi.lssC (fun hlt => Wi.tru ?_) fun hge => Wi.fls ?_)
  · have hin : i < n := by omega
    have him : i < m.length := by omega
    have hrl := hsq.2 _ (List.getElem_mem him)
    refine Wl.lit0 (ty := 2) Rd.int rfl h fun H w h => ?_
    refine W.for_rule n (fun k st H => ∃ w, st = (w, .int .i64 (k : Nat), ()) ∧ Ab.Loc H0 [.grow Rd.int 2 w ((List.range k).map (colE m s i)), .grow (Rd.gslice Rd.int 2) 25 y ((List.range i).map fun r => (List.range n).map (colE m s r)), .lent RSS [v] m] H) ⟨_, rfl, h⟩ ?_
    rintro k st H J2 hk ⟨w, rfl, h⟩ hJ2
    refine Wl.len h (Wi.lssC (fun hlt2 => Wi.tru ?_) fun hge2 => Wi.fls ?_)
    · have hkn : k < n := by omega
      have hkm : k < m[i].length := by omega
      have hI : I64 ((k : Int) + 1) := by unfold I64; omega
      have eb := colE_abs (s := s) (hb i k)
      have next : ∀ (x : Int), colE m s i k = x → ∀ H u', Ab.Loc H0 [.grow Rd.int 2 u' ((List.range k).map (colE m s i) ++ [x]), .grow (Rd.gslice Rd.int 2) 25 y ((List.range i).map fun r => (List.range n).map (colE m s r)), .lent RSS [v] m] H → f44.j1 Q (.int .i64 (k : Nat)) J2 u' H := fun x hx H u' h' => by
        rw [range_push hx] at h'
        unfold f44.j1
        exact Wi.add hI (hJ2 _ _ hkn ⟨_, rfl, h'⟩)
      refine Wi.convN (by omega) (Wi.shrN hs (by omega) (Wi.and1 (Wi.eqlC (fun ht => Wi.tru ?_) fun hf => Wi.fls ?_)))
      · have ht := bit_iff.1 ht
        have ev : colE m s i k = -(mAt m i k) := by unfold colE; rw [if_pos ht]
        have e1 : m[i][k] = mAt m i k := (mAt_at him hkm).symm
        rw [ev] at eb
        refine Wl.at1 rfl h him fun w2 hw2 => Wl.atIntH hw2 hkm fun _ => ?_
        rw [e1]
        refine Wi.neg (i64A eb (by decide)) ?_
        refine Wl.pushP (r := Rd.int) (x := -(mAt m i k)) rfl rfl rfl (fun _ => ⟨rfl, rfl, i64A eb (by decide)⟩) h (by simp; omega) fun H u' h => ?_
        exact next _ ev _ _ h
      · have hf : s.testBit k = false := by
          cases hb2 : s.testBit k with
          | false => rfl
          | true => exact absurd (bit_iff.2 hb2) hf
        have ev : colE m s i k = if i = k then 1 else 0 := by unfold colE; rw [if_neg (by rw [hf]; exact Bool.false_ne_true)]
        refine Wi.eqlC (fun he => Wi.tru ?_) fun hne => Wi.fls ?_
        · rw [if_pos (by omega)] at ev
          refine Wl.pushP (r := Rd.int) (x := 1) rfl rfl rfl (fun _ => ⟨rfl, rfl, by unfold I64; omega⟩) h (by simp; omega) fun H u' h => ?_
          unfold f44.j2
          exact next _ ev _ _ h
        · rw [if_neg (by omega)] at ev
          refine Wl.pushP (r := Rd.int) (x := 0) rfl rfl rfl (fun _ => ⟨rfl, rfl, by unfold I64; omega⟩) h (by simp; omega) fun H u' h => ?_
          unfold f44.j2
          exact next _ ev _ _ h
    · have : k = n := by omega
      subst this
      refine Wl.pushGG h (by simp; omega) fun H y' h => Wi.add (by unfold I64; omega) (hJ _ _ hin ⟨y', rfl, ?_⟩)
      rw [range_push (f := fun r => (List.range k).map (colE m s r)) rfl] at h
      exact h
  · have : i = n := by omega
    subst this
    exact hQ _ _ (h.retGG (i := 0) rfl)

theorem fn88 {H0 : Heap} {Q : Post} {v vq : Value} {rows : List (List Int)} {q : List Int} {n : Nat} (hr : Has RG H0 [v] rows) (hq : Has RS H0 [vq] q) (hs : Sq n rows) (hn : n ≤ 5) (hql : q.length = n) (hb : ∀ r c, r < n → c < n → (mAt rows r c).natAbs ≤ 20) (hqb : ∀ e ∈ q, e.natAbs ≤ 100)
    (hQ : ∀ H' u, Fresh RS H0 [u] (solveL n rows q) H' → Q (.tuple #[u, .int .i64 (det n (mAt rows))]) H') : Runs Tryz.prog 88 #[v, vq] H0 Q := by
  have hl := hs.1
  refine f88.enter ?_
  unfold f88.w
  refine Wl.lit0 (ty := 2) Rd.int rfl (((Loc.start H0).lent hq).lent hr) fun H u h => ?_
  refine W.for_rule n (fun k st H => ∃ u, st = (u, .int .i64 (k : Nat), ()) ∧ Ab.Loc H0 [.grow Rd.int 2 u ((List.range k).map fun i => det n (mAt (putCol i q rows))), .lent RG [v] rows, .lent RS [vq] q] H) ⟨_, rfl, h⟩ ?_
  rintro k st H J hk ⟨u, rfl, h⟩ hJ
  refine Wl.len h (Wi.lssC (fun hlt => Wi.tru ?_) fun hge => Wi.fls ?_)
  · have hkn : k < n := by omega
    have hpsq := putCol_sq (i := k) (col := q) hs
    have hpr := putCol_rows hs hn hb hqb hkn
    refine Wl.lit0 (ty := 25) (Rd.gslice Rd.int 2) rfl h fun H y h => ?_
    refine W.for_rule n (fun i st H => ∃ y, st = (y, .int .i64 (i : Nat), ()) ∧ Ab.Loc H0 [.grow (Rd.gslice Rd.int 2) 25 y ((putCol k q rows).take i), .grow Rd.int 2 u ((List.range k).map fun i => det n (mAt (putCol i q rows))), .lent RG [v] rows, .lent RS [vq] q] H) ⟨_, rfl, h⟩ ?_
    rintro i st H J2 hi ⟨y, rfl, h⟩ hJ2
    refine Wl.len h (Wi.lssC (fun hlt2 => Wi.tru ?_) fun hge2 => Wi.fls ?_)
    · have hin : i < n := by omega
      have hir : i < rows.length := by omega
      have hrl := hs.2 _ (List.getElem_mem hir)
      have hip : i < (putCol k q rows).length := by rw [hpsq.1]; exact hin
      refine Wl.at1 rfl h hir fun w hw => Wi.call (fn94 hw.ofG1 (by omega) fun H u2 f => ?_)
      have h := h.addG f
      refine Wl.atInt h (i := i) (by omega) fun hy => Wl.setG h (by omega) hy fun H h => ?_
      refine Wl.pushGG h (by simp; omega) fun H y' h => Wi.add (by unfold I64; omega) (hJ2 _ _ hin ⟨y', rfl, ?_⟩)
      have e : rows[i].set k (q[i]'(by omega)) = (putCol k q rows)[i] := by
        simp only [putCol, List.getElem_mapIdx]
        rw [atD (by omega)]
      rw [e, ← List.take_succ_eq_append_getElem hip] at h
      exact h
    · have : i = n := by omega
      subst this
      rw [show (putCol k q rows).take i = putCol k q rows from List.take_of_length_le (by rw [hpsq.1]; exact Nat.le_refl _)] at h
      have h2 := h.asData (i := 0) rfl
      refine Wi.call (fn43 (h2.rd (cs := [y])) hpsq hn hpr fun H l => ?_)
      have h := (h2.to l).tl
      have hd := det200 hn hpr
      refine Wl.pushP (r := Rd.int) (x := det i (mAt (putCol k q rows))) rfl rfl rfl (fun _ => ⟨rfl, rfl, i64A hd (by decide)⟩) h (by simp; omega) fun H u' h => Wi.add (by unfold I64; omega) (hJ _ _ hkn ⟨u', rfl, ?_⟩)
      have h2 : Ab.Loc H0 [.grow Rd.int 2 u' ((List.range k).map (fun j => det i (mAt (putCol j q rows))) ++ [det i (mAt (putCol k q rows))]), .lent RG [v] rows, .lent RS [vq] q] H := h
      rw [range_push (f := fun j => det i (mAt (putCol j q rows))) rfl] at h2
      exact h2
  · have : k = n := by omega
    subst this
    have hrr := rows_bound hn hb
    refine Wi.call (fn43 (h.rd (cs := [v])) hs hn (fun i hi => Nat.le_trans (hrr i hi) (by decide)) fun H l => ?_)
    exact hQ _ _ (((h.to l).asData (i := 0) rfl).ret (i := 0) rfl)

/-- A point's numbers as fractions. -/
def pointF (n : Nat) (rows : List (List Int)) (q : List Int) : List Frac := (solveL n rows q).map fun x => frac x (det n (mAt rows))

theorem frac_i64 {x d : Int} (hx : B64 x) (hd : B64 d) (h0 : d ≠ 0) : I64 (frac x d).1 ∧ I64 (frac x d).2 := by
  by_cases h : d < 0
  · rw [frac_neg h]
    exact ⟨(tdiv_B hx.neg).i64, (tdiv_B hd.neg).i64⟩
  · rw [frac_pos' (by omega)]
    exact ⟨(tdiv_B hx).i64, (tdiv_B hd).i64⟩

theorem solveL_abs {n : Nat} {rows : List (List Int)} {q : List Int} (hs : Sq n rows) (hn : n ≤ 5) (hb : ∀ r c, r < n → c < n → (mAt rows r c).natAbs ≤ 20) (hqb : ∀ e ∈ q, e.natAbs ≤ 100) : ∀ e ∈ solveL n rows q, e.natAbs ≤ 320000000000 := fun e he => by
  obtain ⟨k, hk, rfl⟩ := List.mem_map.1 he
  exact det200 hn (putCol_rows hs hn hb hqb (by simpa using hk))

theorem fn39 {H0 : Heap} {Q : Post} {cs : List Value} {p : Prob} {n s : Nat} (hr : Has RProblem H0 cs p) (hp : PB n p) (hs : s < 9223372036854775808)
    (h1 : det n (mAt (colL n p.1 s)) = 0 → ∀ H', H0.Le H' → Q (.tuple #[.slice none 0 0, .bool false]) H')
    (h2 : det n (mAt (colL n p.1 s)) ≠ 0 → ∀ H' u, Fresh RFS H0 [u] (pointF n (colL n p.1 s) p.2) H' → Q (.tuple #[u, .bool true]) H') : Runs Tryz.prog 39 #[.agg cs.toArray, .int .i64 (s : Nat)] H0 Q := by
  obtain ⟨u1, u2, rfl, r1, r2⟩ := hasProb hr
  have hn := hp.n5
  have hcs := tabL_sq n (colE p.1 s)
  have hcb : ∀ r c, r < n → c < n → (mAt (colL n p.1 s) r c).natAbs ≤ 20 := fun r c hr hc => by rw [colL_at hr hc]; exact colE_abs (hp.m r c)
  refine f39.enter ?_
  unfold f39.w
  have h := ((Loc.start H0).lent r1).lent r2
  refine Wl.box h fun H b h => Wi.fieldAddr0 (Wl.get h rfl (Wi.callQ (fn44 (h.rd (cs := [u1])) hp.sq hn hp.m hs fun H v g => ⟨g.le, ?_⟩)))
  have h := (h.addG g).asData (i := 0) rfl
  refine Wi.fieldAddr (Wl.get h rfl (Wi.callQ (fn88 (h.rd (cs := [v])) (h.rd (cs := [u2])) hcs hn hp.ql hcb hp.q fun H u f => ⟨f.le, ?_⟩)))
  have h := h.add f
  simp only [g11, g12]
  have hsa := solveL_abs hcs hn hcb hp.q
  have hda := det200 hn (colL_rows (m := p.1) s hn fun r c _ _ => hp.m r c)
  refine Wi.eqlC (fun hz => Wi.tru (h1 hz _ h.le)) fun hnz => Wi.fls (Wl.lit0 RFrac (ty := 38) rfl h fun H y h => ?_)
  have hsl := solveL_len n (colL n p.1 s) p.2
  refine W.for_rule n (fun i st H => ∃ y, st = (y, .int .i64 (i : Nat), ()) ∧ Ab.Loc H0 [.grow RFrac 38 y (((solveL n (colL n p.1 s) p.2).take i).map fun x => frac x (det n (mAt (colL n p.1 s)))), .data RS [u] (solveL n (colL n p.1 s) p.2)] H) ⟨_, rfl, h.first 2⟩ ?_
  rintro i st H J hi ⟨y, rfl, h⟩ hJ
  refine Wl.len h (Wi.lssC (fun hlt => Wi.tru ?_) fun hge => Wi.fls ?_)
  · have hin : i < n := by omega
    have his : i < (solveL n (colL n p.1 s) p.2).length := by omega
    have b1 : B64 (solveL n (colL n p.1 s) p.2)[i] := by have := hsa _ (List.getElem_mem his); unfold B64; omega
    have b2 : B64 (det n (mAt (colL n p.1 s))) := by unfold B64; omega
    refine Wl.atInt h his fun _ => Wi.call (fn76 b1 b2 hnz fun H l => ?_)
    have h := h.to l
    refine Wl.pushP (r := RFrac) (x := frac (solveL n (colL n p.1 s) p.2)[i] (det n (mAt (colL n p.1 s)))) rfl rfl rfl (frac_rel (frac_i64 b1 b2 hnz)) h (by simp; omega) fun H y' h => Wi.add (by unfold I64; omega) (hJ _ _ hin ⟨y', rfl, ?_⟩)
    rw [List.take_succ_eq_append_getElem his, List.map_append]
    exact h
  · have : i = n := by omega
    subst this
    rw [show (solveL i (colL i p.1 s) p.2).take i = solveL i (colL i p.1 s) p.2 from List.take_of_length_le (by omega)] at h
    exact h2 hnz _ _ ((h.asData (i := 0) rfl).ret (i := 0) rfl)

end Go.Proofs.YtgdiebnokgnniaaGreatDoor

/-! Contracts of the tests of sets. No condition. -/
namespace Go.Proofs.YtgdiebnokgnniaaGreatDoor
open Go.Ab

/- loop.example/g01343/impl.isSet -/
def f82.w (Q : Post) (s_0 : Value) (n_1 : Value) (H : Heap) : Prop :=
  W.bin .shl (.int .i64 1) n_1 H fun v1 H =>
  W.bin .sub v1 (.int .i64 1) H fun v2 H =>
  W.call Tryz.prog (.func (.func 68) #[] #[]) #[s_0, (.int .i64 0), v2] H fun v3 H =>
  Q v3 H
theorem f82.enter {Q : Post} {s_0 : Value} {n_1 : Value} {H : Heap} (h : f82.w Q s_0 n_1 H) : Runs Tryz.prog 82 #[s_0, n_1] H Q :=
  fn_enter (ann := []) (by kernel_rfl) Tryz.func82 rfl (by kernel_rfl) h (by kernel_rfl)

/- loop.example/g01343/impl.setCode -/
def f35.w (Q : Post) (p_0 : Value) (s_1 : Value) (H : Heap) : Prop :=
  W.box p_0 27 H fun v1 H =>
  W.getN 2 v1 H fun v2 H =>
  W.call Tryz.prog (.func (.func 11) #[] #[]) #[v2] H fun v3 H =>
  W.un .not v3 H fun v4 H =>
  W.cond v4 H
  (fun H => Q (.int .i64 1) H)
  (fun H => W.fieldAddr 1 v1 H fun v5 H =>
   W.get v5 H fun v6 H =>
   W.len v6 H fun v7 H =>
   W.call Tryz.prog (.func (.func 82) #[] #[]) #[s_1, v7] H fun v8 H =>
   W.un .not v8 H fun v9 H =>
   W.cond v9 H
   (fun H => Q (.int .i64 2) H)
   (fun H => Q (.int .i64 0) H))
theorem f35.enter {Q : Post} {p_0 : Value} {s_1 : Value} {H : Heap} (h : f35.w Q p_0 s_1 H) : Runs Tryz.prog 35 #[p_0, s_1] H Q :=
  fn_enter (ann := []) (by kernel_rfl) Tryz.func35 rfl (by kernel_rfl) h (by kernel_rfl)


abbrev setOk (n : Nat) (s : Int) : Bool := inR 0 (((2 ^ n : Nat) : Int) - 1) s

theorem setOk_nat {n : Nat} {s : Int} (h : setOk n s = true) : s = (s.toNat : Nat) ∧ s.toNat < 2 ^ n := by
  have := inR_iff.1 h
  omega

theorem pow5 {n : Nat} (h : n ≤ 5) : 2 ^ n ≤ 32 := Nat.pow_le_pow_right (n := 2) (j := 5) (by decide) h

theorem i64_pow {n : Nat} (h : n ≤ 5) : I64 (((2 ^ n : Nat) : Int) - 1) := by
  have := pow5 h
  generalize 2 ^ n = q at *
  unfold I64
  omega

theorem fn82 {H0 : Heap} {Q : Post} {s : Int} {n : Nat} (hn : n ≤ 5) (hQ : Q (.bool (setOk n s)) H0) : Runs Tryz.prog 82 #[.int .i64 s, .int .i64 (n : Nat)] H0 Q := by
  have := pow5 hn
  exact f82.enter (Wi.shl1 (by omega) (Wi.sub (i64_pow hn) (Wi.call (fn68 hQ))))

def setC (p : Prob) (s : Int) : Int := if isProb p = true then (if setOk p.2.length s = true then 0 else 2) else 1

theorem fn35 {H0 : Heap} {Q : Post} {cs : List Value} {p : Prob} {s : Int} (hr : Has RProblem H0 cs p) (hQ : ∀ H', H0.Le H' → Q (.int .i64 (setC p s)) H') : Runs Tryz.prog 35 #[.agg cs.toArray, .int .i64 s] H0 Q := by
  obtain ⟨u1, u2, rfl, r1, r2⟩ := hasProb hr
  refine f35.enter ?_
  unfold f35.w
  have h := ((Loc.start H0).lent r2).lent hr
  refine Wl.box h fun H b h => Wl.getA h rfl ?_
  obtain ⟨_, q⟩ := h.rd (cs := [u1, u2])
  refine Wi.call (fn11 q fun H l => ?_)
  have h := h.to l
  unfold setC at hQ
  cases hp : isProb p with
  | false =>
    simp only [gw]
    have := hQ _ h.le
    simp only [hp] at this
    exact this
  | true =>
    simp only [gw]
    have hn := (PB.of hp).n5
    refine Wi.fieldAddr (Wl.get h rfl (Wl.len h (Wi.call (fn82 hn ?_))))
    cases hs : setOk p.2.length s with
    | false =>
      simp only [gw]
      have := hQ _ h.le
      simp only [hp, hs] at this
      exact this
    | true =>
      simp only [gw]
      have := hQ _ h.le
      simp only [hp, hs] at this
      exact this


end Go.Proofs.YtgdiebnokgnniaaGreatDoor

/-! Lists of fractions in lowest terms by one denominator: the contract of allReduced. No condition. -/
namespace Go.Proofs.YtgdiebnokgnniaaGreatDoor
open Go.Ab

/- loop.example/g01343/impl.allReduced -/
def f37.l1 (Q : Post) (v1 : Value) (list_0 : Value) (den_1 : Value) (I1 : St [6, 13] → Heap → Prop) (out_6 : Value) (x_13 : Value) (H : Heap) : Prop :=
  W.bin .lss x_13 v1 H fun v2 H =>
  W.cond v2 H
  (fun H => W.indexAddr 1 list_0 x_13 H fun v3 H =>
   W.get v3 H fun v4 H =>
   W.call Tryz.prog (.func (.func 87) #[] #[]) #[v4, den_1] H fun v5 H =>
   W.extract 0 v5 H fun v6 H =>
   W.extract 1 v5 H fun v7 H =>
   W.new [(.int .i64 0), (.int .i64 0)] 38 H fun v8 H =>
   W.putN 2 v8 v6 H fun _ H =>
   W.bin .neq v7 (.int .i64 0) H fun v9 H =>
   W.cond v9 H
   (fun H => Q (.tuple #[(.slice none 0 0), v7]) H)
   (fun H => W.getN 2 v8 H fun v10 H =>
    W.lit 1 [(.int .i64 0), (.int .i64 0)] 38 [(0, 2, v10)] H fun v11 H =>
    W.append 2 38 out_6 v11 H fun v12 H =>
    W.bin .add x_13 (.int .i64 1) H fun v13 H =>
    I1 (v12, v13, ()) H))
  (fun H => Q (.tuple #[out_6, (.int .i64 0)]) H)
def f37.w (Q : Post) (list_0 : Value) (den_1 : Value) (H : Heap) : Prop :=
  W.len list_0 H fun v1 H =>
  W.loop (S := St [6, 13]) (fun I1 s H => f37.l1 Q v1 list_0 den_1 I1 s.1 s.2.1 H) ((.slice none 0 0), (.int .i64 0), ()) H
theorem f37.enter {Q : Post} {list_0 : Value} {den_1 : Value} {H : Heap} (h : f37.w Q list_0 den_1 H) : Runs Tryz.prog 37 #[list_0, den_1] H Q :=
  fn_enter (ann := [(3, [6, 13])]) (by kernel_rfl) Tryz.func37 rfl (by kernel_rfl) h (by kernel_rfl)


theorem fracT_i64 (n d : Int) : I64 (fracT n d).1.1 ∧ I64 (fracT n d).1.2 := by
  unfold fracT
  split
  · rename_i h
    have := isFr_iff.1 h
    simp only
    constructor <;> (unfold I64; omega)
  · constructor <;> (unfold I64; decide)

theorem fracT_code (n d : Int) : (fracT n d).2 = 0 ∨ (fracT n d).2 = 3 := by
  unfold fracT
  split
  · exact .inl rfl
  · exact .inr rfl

/-- The fractions of numbers by one denominator, if all are within the limits. -/
def frAll (l : List Int) (d : Int) : List Frac × Int := if l.all fun n => decide ((fracT n d).2 = 0) then (l.map fun n => (fracT n d).1, 0) else ([], 3)

theorem frAll_bad {l : List Int} {d : Int} {i : Nat} (hi : i < l.length) (h : (fracT l[i] d).2 ≠ 0) : frAll l d = ([], 3) ∧ (fracT l[i] d).2 = 3 := by
  refine ⟨?_, (fracT_code _ _).resolve_left h⟩
  unfold frAll
  rw [if_neg]
  intro g
  have := List.all_eq_true.1 g _ (List.getElem_mem hi)
  exact h (of_decide_eq_true this)

theorem frAll_ok {l : List Int} {d : Int} (h : ∀ i (hi : i < l.length), (fracT l[i] d).2 = 0) : frAll l d = (l.map fun n => (fracT n d).1, 0) := by
  unfold frAll
  rw [if_pos]
  refine List.all_eq_true.2 fun x hx => ?_
  obtain ⟨i, hi, rfl⟩ := List.mem_iff_getElem.1 hx
  exact decide_eq_true (h i hi)

theorem fnG37 {H0 : Heap} {Q : Post} {v : Value} {l : List Int} {d : Int} (hr : Has RS H0 [v] l) (hB : ∀ n ∈ l, B64 n) (hd : B64 d) (h0 : d ≠ 0) (hl : l.length ≤ 1048576)
    (hQ : ∀ H' u, FreshG RFrac 38 H0 u (frAll l d).1 H' → Q (.tuple #[u, .int .i64 (frAll l d).2]) H') : Runs Tryz.prog 37 #[v, .int .i64 d] H0 Q := by
  refine f37.enter (Wl.lenH hr ?_)
  have h := ((Loc.start H0).lent hr).nilG RFrac 38
  refine W.for_rule l.length (fun i s H => ∃ u, s = (u, .int .i64 (i : Nat), ()) ∧ Ab.Loc H0 [.grow RFrac 38 u ((l.take i).map fun n => (fracT n d).1), .lent RS [v] l] H ∧ ∀ j (hj : j < l.length), j < i → (fracT l[j] d).2 = 0) ⟨_, rfl, h, fun j _ hj => by omega⟩ ?_
  rintro i s H J hi ⟨u, rfl, h, hok⟩ hJ
  refine Wi.lssC (fun hlt => Wi.tru ?_) fun hge => Wi.fls ?_
  · have hix : i < l.length := by omega
    refine Wl.atInt h hix fun _ => Wi.call (fn87 (hB _ (List.getElem_mem hix)) hd h0 fun H l1 => ?_)
    have h := h.to l1
    simp only [g11, g12]
    refine Wl.new h fun H b h => Wl.putA (vs := frC _) h rfl rfl rfl fun H h => Wi.neqC (fun hne => Wi.tru ?_) fun he => Wi.fls (Wl.getA h rfl ?_)
    · obtain ⟨e1, e2⟩ := frAll_bad hix hne
      have := hQ H (.slice none 0 0) (by rw [e1]; exact (h.nilG RFrac 38).retGG (i := 0) rfl)
      rw [e1] at this
      rw [e2]
      exact this
    · refine Wl.pushP (r := RFrac) (x := (fracT l[i] d).1) rfl rfl rfl (frac_rel (fracT_i64 _ _)) h.tl (by simp; omega) fun H u' h => Wi.add (by unfold I64; omega) (hJ _ _ hix ⟨u', rfl, ?_, fun j hj hji => ?_⟩)
      · rw [List.take_succ_eq_append_getElem hix, List.map_append]
        exact h
      · by_cases e : j = i
        · subst e; exact he
        · exact hok j hj (by omega)
  · have : i = l.length := by omega
    subst this
    rw [List.take_length] at h
    have e := frAll_ok fun j hj => hok j hj hj
    have := hQ H u (by rw [e]; exact h.retGG (i := 0) rfl)
    rw [e] at this
    exact this

theorem fn37 {H0 : Heap} {Q : Post} {v : Value} {l : List Int} {d : Int} (hr : Has RS H0 [v] l) (hB : ∀ n ∈ l, B64 n) (hd : B64 d) (h0 : d ≠ 0) (hl : l.length ≤ 1048576)
    (hQ : ∀ H' u, Fresh RFS H0 [u] (frAll l d).1 H' → Q (.tuple #[u, .int .i64 (frAll l d).2]) H') : Runs Tryz.prog 37 #[v, .int .i64 d] H0 Q :=
  fnG37 hr hB hd h0 hl fun _ _ f => hQ _ _ f.fresh

end Go.Proofs.YtgdiebnokgnniaaGreatDoor

/-! Lists of fractions within the limits, the program's and the reference's way. No condition. -/
namespace Go.Proofs.YtgdiebnokgnniaaGreatDoor
open Go.Ab



theorem frac_scale {x d : Int} (h : d ≠ 0) : frac (sgI d * x) (d.natAbs : Nat) = frac x d := by
  unfold sgI
  by_cases hd : d < 0
  · rw [if_pos hd, show ((d.natAbs : Nat) : Int) = -d by omega, show -1 * x = -x by omega, frac_pos' (show 0 < -d by omega), frac_neg hd]
  · rw [if_neg hd, if_pos (by omega), show ((d.natAbs : Nat) : Int) = d by omega, Int.one_mul]

theorem fracT_eq (m d : Int) : fracT m d = if isFr 1000000000 (frac m d) = true then (frac m d, 0) else ((0, 0), 3) := rfl

theorem fracT_zero (m d : Int) : (fracT m d).2 = 0 ↔ isFr 1000000000 (frac m d) = true := by
  unfold fracT
  split
  · rename_i h; simp [h]
  · rename_i h; simp [h]

/-- Fractions, if they are within the limits. -/
def tolF (l : List Frac) : List Frac × Int := if l.all (isFr 1000000000) = true then (l, 0) else ([], 3)

theorem frAll_tol {l : List Int} {d : Int} {fs : List Frac} (h : l.map (fun m => frac m d) = fs) : frAll l d = tolF fs := by
  subst h
  unfold frAll tolF
  rw [List.all_map]
  have e1 : (fun n => decide ((fracT n d).2 = 0)) = (isFr 1000000000) ∘ fun m => frac m d := by
    funext m
    simp only [Function.comp]
    rw [Bool.eq_iff_iff, decide_eq_true_iff]
    exact fracT_zero m d
  rw [e1]
  split
  · rename_i hall
    congr 1
    refine List.map_congr_left fun m hm => ?_
    have := List.all_eq_true.1 hall m hm
    simp only [Function.comp] at this
    rw [fracT_eq, if_pos this]
  · rfl


end Go.Proofs.YtgdiebnokgnniaaGreatDoor
