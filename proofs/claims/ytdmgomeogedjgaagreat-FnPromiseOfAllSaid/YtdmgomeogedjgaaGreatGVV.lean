/- What a problem's numbers are. No condition. -/
import Derived.Test.YtdmgomeogedjgaaGreatE1
import Derived.Test.YtdmgomeogedjgaaGreatZabG9
import Derived.Test.YtdmgomeogedjgaaGreatZabG8
import Derived.Test.YtdmgomeogedjgaaGreatDT1
import Derived.Test.YtdmgomeogedjgaaGreatSGN
import Derived.Test.YtdmgomeogedjgaaGreatDT2
import Derived.Test.YtdmgomeogedjgaaGreatRPU
import Derived.Test.YtdmgomeogedjgaaGreatGAB
import Derived.Test.YtdmgomeogedjgaaGreatQ4
namespace Go.Proofs.YtdmgomeogedjgaaGreat
open Go.Ab

/-- What a problem's numbers are, n of them. -/
structure PB (n : Nat) (p : Prob) : Prop where
  sq : Sq n p.1
  ql : p.2.length = n
  n0 : 0 < n
  n5 : n ≤ 5
  m : ∀ r c, (mAt p.1 r c).natAbs ≤ 20
  q : ∀ e ∈ p.2, e.natAbs ≤ 100

theorem PB.of {p : Prob} (h : isProb p = true) : PB p.2.length p := by
  obtain ⟨_, h1, h2, h3, h4, h5⟩ := isProb_rows h
  refine ⟨⟨h3.symm, fun r hr => by rw [h3]; exact (h4 r hr).1⟩, rfl, by omega, by omega, fun r c => ?_, fun e he => by have := h5 e he; omega⟩
  simp only [mAt, List.getD_eq_getElem?_getD]
  cases e1 : p.1[r]? with
  | none => simp
  | some row =>
    simp only [Option.getD_some]
    cases e2 : row[c]? with
    | none => simp
    | some x =>
      have := (h4 row (List.mem_of_getElem? e1)).2 x (List.mem_of_getElem? e2)
      simp only [Option.getD_some]
      omega

end Go.Proofs.YtdmgomeogedjgaaGreat
/-! Contracts of the program's columns, solve and point. No condition. -/
namespace Go.Proofs.YtdmgomeogedjgaaGreat
open Go.Ab

/- loop.example/g01343/impl.has -/
def f97.w (Q : Post) (s_0 : Value) (i_1 : Value) (H : Heap) : Prop :=
  W.bin .shr s_0 i_1 H fun v1 H =>
  W.bin .and v1 (.int .i64 1) H fun v2 H =>
  W.bin .eql v2 (.int .i64 1) H fun v3 H =>
  Q v3 H
theorem f97.enter {Q : Post} {s_0 : Value} {i_1 : Value} {H : Heap} (h : f97.w Q s_0 i_1 H) : Runs Tryz.prog 97 #[s_0, i_1] H Q :=
  fn_enter (ann := []) (by kernel_rfl) Tryz.func97 rfl (by kernel_rfl) h (by kernel_rfl)

/- loop.example/g01343/impl.put -/
def f137.l1 (Q : Post) (v1 : Value) (rows_0 : Value) (column_2 : Value) (i_1 : Value) (I1 : St [10] → Heap → Prop) (x_10 : Value) (H : Heap) : Prop :=
  W.bin .lss x_10 v1 H fun v2 H =>
  W.cond v2 H
  (fun H => W.indexAddr 1 rows_0 x_10 H fun v3 H =>
   W.get v3 H fun v4 H =>
   W.indexAddr 1 column_2 x_10 H fun v5 H =>
   W.get v5 H fun v6 H =>
   W.indexAddr 1 v4 i_1 H fun v7 H =>
   W.put v7 v6 H fun _ H =>
   W.bin .add x_10 (.int .i64 1) H fun v8 H =>
   I1 (v8, ()) H)
  (fun H => Q (.tuple #[]) H)
def f137.w (Q : Post) (rows_0 : Value) (i_1 : Value) (column_2 : Value) (H : Heap) : Prop :=
  W.len rows_0 H fun v1 H =>
  W.loop (S := St [10]) (fun I1 s H => f137.l1 Q v1 rows_0 column_2 i_1 I1 s.1 H) ((.int .i64 0), ()) H
theorem f137.enter {Q : Post} {rows_0 : Value} {i_1 : Value} {column_2 : Value} {H : Heap} (h : f137.w Q rows_0 i_1 column_2 H) : Runs Tryz.prog 137 #[rows_0, i_1, column_2] H Q :=
  fn_enter (ann := [(1, [10])]) (by kernel_rfl) Tryz.func137 rfl (by kernel_rfl) h (by kernel_rfl)

/- (loop.example/g01343/impl.Problem).column -/
def f130.j1 (Q : Post) (x_17 : Value) (I1 : St [17] → Heap → Prop) (H : Heap) : Prop :=
  W.bin .add x_17 (.int .i64 1) H fun v16 H =>
  I1 (v16, ()) H
def f130.j2 (Q : Post) (v5 : Value) (H : Heap) : Prop :=
  Q v5 H
def f130.l1 (Q : Post) (v8 : Value) (v7 : Value) (ofZ_2 : Value) (i_1 : Value) (v5 : Value) (I1 : St [17] → Heap → Prop) (x_17 : Value) (H : Heap) : Prop :=
  W.bin .lss x_17 v8 H fun v9 H =>
  W.cond v9 H
  (fun H => W.indexAddr 1 v7 x_17 H fun v10 H =>
   W.get v10 H fun v11 H =>
   W.cond ofZ_2 H
   (fun H => W.indexAddr 1 v11 i_1 H fun v12 H =>
    W.get v12 H fun v13 H =>
    W.un .neg v13 H fun v14 H =>
    W.indexAddr 1 v5 x_17 H fun v15 H =>
    W.put v15 v14 H fun _ H =>
    f130.j1 Q x_17 I1 H)
   (fun H => f130.j1 Q x_17 I1 H))
  (fun H => W.un .not ofZ_2 H fun v17 H =>
   W.cond v17 H
   (fun H => W.indexAddr 1 v5 i_1 H fun v18 H =>
    W.put v18 (.int .i64 1) H fun _ H =>
    f130.j2 Q v5 H)
   (fun H => f130.j2 Q v5 H))
def f130.w (Q : Post) (p_0 : Value) (i_1 : Value) (ofZ_2 : Value) (H : Heap) : Prop :=
  W.box p_0 31 H fun v1 H =>
  W.fieldAddr 1 v1 H fun v2 H =>
  W.get v2 H fun v3 H =>
  W.len v3 H fun v4 H =>
  W.make [(.int .i64 0)] 2 v4 v4 H fun v5 H =>
  W.fieldAddr 0 v1 H fun v6 H =>
  W.get v6 H fun v7 H =>
  W.len v7 H fun v8 H =>
  W.loop (S := St [17]) (fun I1 s H => f130.l1 Q v8 v7 ofZ_2 i_1 v5 I1 s.1 H) ((.int .i64 0), ()) H
theorem f130.enter {Q : Post} {p_0 : Value} {i_1 : Value} {ofZ_2 : Value} {H : Heap} (h : f130.w Q p_0 i_1 ofZ_2 H) : Runs Tryz.prog 130 #[p_0, i_1, ofZ_2] H Q :=
  fn_enter (ann := [(3, [17])]) (by kernel_rfl) Tryz.func130 rfl (by kernel_rfl) h (by kernel_rfl)

/- (loop.example/g01343/impl.Problem).columns -/
def f136.l2 (Q : Post) (v4 : Value) (v1 : Value) (s_1 : Value) (v5 : Value) (I2 : St [26] → Heap → Prop) (x_26 : Value) (H : Heap) : Prop :=
  W.bin .lss x_26 v4 H fun v11 H =>
  W.cond v11 H
  (fun H => W.getN 2 v1 H fun v12 H =>
   W.callQ Tryz.prog (.func (.func 97) #[] #[]) #[s_1, x_26] H fun v13 H =>
   W.callQ Tryz.prog (.func (.func 130) #[] #[]) #[v12, x_26, v13] H fun v14 H =>
   W.call Tryz.prog (.func (.func 137) #[] #[]) #[v5, x_26, v14] H fun v15 H =>
   W.bin .add x_26 (.int .i64 1) H fun v16 H =>
   I2 (v16, ()) H)
  (fun H => Q v5 H)
def f136.l1 (Q : Post) (v6 : Value) (v4 : Value) (v5 : Value) (v1 : Value) (s_1 : Value) (I1 : St [16] → Heap → Prop) (x_16 : Value) (H : Heap) : Prop :=
  W.bin .lss x_16 v6 H fun v7 H =>
  W.cond v7 H
  (fun H => W.make [(.int .i64 0)] 2 v4 v4 H fun v8 H =>
   W.indexAddr 1 v5 x_16 H fun v9 H =>
   W.put v9 v8 H fun _ H =>
   W.bin .add x_16 (.int .i64 1) H fun v10 H =>
   I1 (v10, ()) H)
  (fun H => W.loop (S := St [26]) (fun I2 s H => f136.l2 Q v4 v1 s_1 v5 I2 s.1 H) ((.int .i64 0), ()) H)
def f136.w (Q : Post) (p_0 : Value) (s_1 : Value) (H : Heap) : Prop :=
  W.box p_0 31 H fun v1 H =>
  W.fieldAddr 1 v1 H fun v2 H =>
  W.get v2 H fun v3 H =>
  W.len v3 H fun v4 H =>
  W.make [(.slice none 0 0)] 29 v4 v4 H fun v5 H =>
  W.len v5 H fun v6 H =>
  W.loop (S := St [16]) (fun I1 s H => f136.l1 Q v6 v4 v5 v1 s_1 I1 s.1 H) ((.int .i64 0), ()) H
theorem f136.enter {Q : Post} {p_0 : Value} {s_1 : Value} {H : Heap} (h : f136.w Q p_0 s_1 H) : Runs Tryz.prog 136 #[p_0, s_1] H Q :=
  fn_enter (ann := [(4, [16]), (9, [26])]) (by kernel_rfl) Tryz.func136 rfl (by kernel_rfl) h (by kernel_rfl)

/- (loop.example/g01343/impl.Problem).solve -/
def f94.l1 (Q : Post) (v8 : Value) (v3 : Value) (right_2 : Value) (v4 : Value) (v7 : Value) (I1 : St [26] → Heap → Prop) (x_26 : Value) (H : Heap) : Prop :=
  W.bin .lss x_26 v8 H fun v9 H =>
  W.cond v9 H
  (fun H => W.call Tryz.prog (.func (.func 129) #[] #[]) #[v3] H fun v10 H =>
   W.call Tryz.prog (.func (.func 137) #[] #[]) #[v10, x_26, right_2] H fun v11 H =>
   W.call Tryz.prog (.func (.func 108) #[] #[]) #[v4] H fun v12 H =>
   W.call Tryz.prog (.func (.func 122) #[] #[]) #[v10] H fun v13 H =>
   W.bin .mul v12 v13 H fun v14 H =>
   W.indexAddr 1 v7 x_26 H fun v15 H =>
   W.put v15 v14 H fun _ H =>
   W.bin .add x_26 (.int .i64 1) H fun v16 H =>
   I1 (v16, ()) H)
  (fun H => W.call Tryz.prog (.func (.func 119) #[] #[]) #[v4] H fun v17 H =>
   Q (.tuple #[v7, v17, (.bool true)]) H)
def f94.w (Q : Post) (p_0 : Value) (s_1 : Value) (right_2 : Value) (H : Heap) : Prop :=
  W.box p_0 31 H fun v1 H =>
  W.getN 2 v1 H fun v2 H =>
  W.call Tryz.prog (.func (.func 136) #[] #[]) #[v2, s_1] H fun v3 H =>
  W.call Tryz.prog (.func (.func 122) #[] #[]) #[v3] H fun v4 H =>
  W.bin .eql v4 (.int .i64 0) H fun v5 H =>
  W.cond v5 H
  (fun H => Q (.tuple #[(.slice none 0 0), (.int .i64 0), (.bool false)]) H)
  (fun H => W.len right_2 H fun v6 H =>
   W.make [(.int .i64 0)] 2 v6 v6 H fun v7 H =>
   W.len v7 H fun v8 H =>
   W.loop (S := St [26]) (fun I1 s H => f94.l1 Q v8 v3 right_2 v4 v7 I1 s.1 H) ((.int .i64 0), ()) H)
theorem f94.enter {Q : Post} {p_0 : Value} {s_1 : Value} {right_2 : Value} {H : Heap} (h : f94.w Q p_0 s_1 right_2 H) : Runs Tryz.prog 94 #[p_0, s_1, right_2] H Q :=
  fn_enter (ann := [(7, [26])]) (by kernel_rfl) Tryz.func94 rfl (by kernel_rfl) h (by kernel_rfl)

/- (loop.example/g01343/impl.Problem).point -/
def f49.w (Q : Post) (p_0 : Value) (s_1 : Value) (H : Heap) : Prop :=
  W.box p_0 31 H fun v1 H =>
  W.getN 2 v1 H fun v2 H =>
  W.fieldAddr 1 v1 H fun v3 H =>
  W.get v3 H fun v4 H =>
  W.call Tryz.prog (.func (.func 94) #[] #[]) #[v2, s_1, v4] H fun v5 H =>
  W.extract 0 v5 H fun v6 H =>
  W.extract 1 v5 H fun v7 H =>
  W.extract 2 v5 H fun v8 H =>
  Q (.tuple #[v6, v7, v8]) H
theorem f49.enter {Q : Post} {p_0 : Value} {s_1 : Value} {H : Heap} (h : f49.w Q p_0 s_1 H) : Runs Tryz.prog 49 #[p_0, s_1] H Q :=
  fn_enter (ann := []) (by kernel_rfl) Tryz.func49 rfl (by kernel_rfl) h (by kernel_rfl)


theorem range_set {n x : Nat} {f g : Nat → Int} {y : Int} (h : g x = y) (hk : ∀ k, k < n → k ≠ x → g k = f k) : ((List.range n).map f).set x y = (List.range n).map g := by
  apply List.ext_getElem
  · simp
  · intro k h1 h2
    rw [List.getElem_set]
    have hkn : k < n := by simpa using h2
    simp only [List.getElem_map, List.getElem_range]
    by_cases e : x = k
    · subst e; rw [if_pos rfl, h]
    · rw [if_neg e, hk k hkn fun g => e g.symm]

theorem fn97 {H0 : Heap} {Q : Post} {s i : Nat} (hs : s < 9223372036854775808) (hi : i ≤ 63) (hQ : Q (.bool (s.testBit i)) H0) : Runs Tryz.prog 97 #[.int .i64 (s : Nat), .int .i64 (i : Nat)] H0 Q := by
  refine f97.enter (Wi.shrN hs hi (Wi.and1 (Wi.eqlC (fun h => ?_) fun h => ?_)))
  · rw [bit_iff.1 h] at hQ; exact hQ
  · rw [show s.testBit i = false by cases hb : s.testBit i with | false => rfl | true => exact absurd (bit_iff.2 hb) h] at hQ
    exact hQ

theorem fn137 {H : Heap} {Q : Post} {bs bc : List Nat} {v vc : Value} {xs : List (List Int)} {col : List Int} {i : Nat} (h : RSS.rel H bs [v] xs) (hn : bs.Nodup) (hrw : RW H bs) (hc : RS.rel H bc [vc] col) (hap : ∀ b ∈ bc, b ∉ bs)
    (hs : ∀ r ∈ xs, i < r.length) (hcl : xs.length ≤ col.length) (hQ : ∀ H', Marked RSS H bs [v] (putCol i col xs) H' → Q (.tuple #[]) H') : Runs Tryz.prog 137 #[v, .int .i64 (i : Nat), vc] H Q := by
  have hsm := (show Has RSS H [v] xs from ⟨_, h⟩).small
  refine f137.enter (Wl.lenH (show Has RSS H [v] xs from ⟨_, h⟩) ?_)
  refine W.for_rule xs.length (fun k s H' => s = (.int .i64 (k : Nat), ()) ∧ Marked RSS H bs [v] (putTo k i col xs) H') ⟨rfl, by rw [putTo_zero]; exact Marked.refl h hrw⟩ ?_
  rintro k s H1 J hk ⟨rfl, m⟩ hJ
  refine Wi.lssC (fun hlt => Wi.tru ?_) fun hge => Wi.fls ?_
  · have hkx : k < xs.length := by omega
    obtain ⟨u, fi, g1, g2, g3, g4, g5⟩ := rows_at m.rel hn m.rw (a := k) (by rw [putTo_len]; exact hkx)
    rw [putTo_at hkx] at g2
    have hc1 : Has RS H1 [vc] col := ⟨bc, Rd.frame _ hc m.next fun b hb => m.off b (Rd.low _ hc b hb) (hap b hb)⟩
    refine g1 .i64 _ (Wl.atIntH hc1 (i := k) (by omega) fun hy => Wi.setInt g2 g3 (hs _ (List.getElem_mem hkx)) hy fun H2 m2 => Wi.add (by unfold I64; omega) (hJ _ _ hkx ⟨rfl, ?_⟩))
    have := m.trans (g5 H2 _ m2)
    have e : col[k]'(by omega) = col.getD k 0 := by rw [atD]
    rw [e, putTo_step hkx] at this
    exact this
  · have : k = xs.length := by omega
    subst this
    rw [putTo_all] at m
    exact hQ _ m

theorem fn130 {H0 : Heap} {Q : Post} {cs : List Value} {p : Prob} {n i : Nat} {ofZ : Bool} (hr : Has RProblem H0 cs p) (hp : PB n p) (hi : i < n) (hQ : ∀ H' u, Fresh RS H0 [u] (columnV n p.1 ofZ i) H' → Q u H') :
    Runs Tryz.prog 130 #[.agg cs.toArray, .int .i64 (i : Nat), .bool ofZ] H0 Q := by
  obtain ⟨u1, u2, rfl, r1, r2⟩ := hasProb hr
  have hn := hp.n5; have hql := hp.ql; have hsq := hp.sq; have hl1 := hsq.1
  refine f130.enter ?_
  unfold f130.w
  have h := ((Loc.start H0).lent r1).lent r2
  refine Wl.box h fun H b h => Wi.fieldAddr (Wl.get h rfl (Wl.len h ?_))
  refine Wl.make (r := Rd.int) (z := 0) (fun _ => ⟨rfl, rfl, by unfold I64; omega⟩) h (by omega) (by decide) fun H u h => Wi.fieldAddr0 (Wl.get h rfl (Wl.len h ?_))
  have h := h.asData (i := 0) rfl
  have e0 : List.replicate p.2.length (0 : Int) = (List.range n).map fun _ => 0 := by
    rw [hql]
    apply List.ext_getElem <;> simp
  rw [e0] at h
  refine W.for_rule n (fun x s H => s = (.int .i64 (x : Nat), ()) ∧ Ab.Loc H0 [.data RS [u] ((List.range n).map fun k => if ofZ = true ∧ k < x then -(mAt p.1 k i) else 0), .box b [u1, u2], .lent RS [u2] p.2, .lent RSS [u1] p.1] H) ⟨rfl, by simpa using h⟩ ?_
  rintro x s H J hx ⟨rfl, h⟩ hJ
  have hI : I64 ((x : Int) + 1) := by unfold I64; omega
  refine Wi.lssC (fun hlt => Wi.tru ?_) fun hge => Wi.fls ?_
  · have hxn : x < n := by omega
    have hxl : x < p.1.length := by omega
    have hrl := hsq.2 _ (List.getElem_mem hxl)
    refine Wl.at1 rfl h hxl fun w hw => ?_
    cases ofZ with
    | true =>
      have hil : i < p.1[x].length := by omega
      have e1 : p.1[x][i] = mAt p.1 x i := (mAt_at hxl hil).symm
      have b1 := hp.m x i
      refine Wi.tru (Wl.atIntH hw hil fun _ => Wi.neg (by rw [e1]; unfold I64; omega) (Wl.setInt h (by simpa using hxn) (by rw [e1]; unfold I64; omega) fun H h => Wi.add hI (hJ _ _ hxn ⟨rfl, ?_⟩)))
      rw [e1, range_set (g := fun k => if true = true ∧ k < x + 1 then -(mAt p.1 k i) else 0) (by simp) (fun k _ hk => by
        by_cases g : k < x
        · simp [g, show k < x + 1 by omega]
        · simp [g, show ¬ k < x + 1 by omega])] at h
      exact h
    | false =>
      refine Wi.fls (Wi.add hI (hJ _ _ hxn ⟨rfl, ?_⟩))
      simpa using h
  · have : x = n := by omega
    subst this
    cases ofZ with
    | true =>
      simp only [gw]
      refine hQ _ _ ?_
      have e : columnV x p.1 true i = (List.range x).map fun k => if true = true ∧ k < x then -(mAt p.1 k i) else 0 := List.map_congr_left fun k hk => by
        rw [if_pos rfl, if_pos ⟨rfl, by simpa using hk⟩]
      rw [e]
      exact h.ret (i := 0) rfl
    | false =>
      simp only [gw]
      refine Wl.setInt h (by simpa using hi) (by unfold I64; omega) fun H h => hQ _ _ ?_
      rw [range_set (g := fun k => if k = i then 1 else 0) (by simp) (fun k _ hk => by simp [hk])] at h
      have e : columnV x p.1 false i = (List.range x).map fun k => if k = i then 1 else 0 := List.map_congr_left fun k hk => by simp
      rw [e]
      exact h.ret (i := 0) rfl

theorem fn136 {H0 : Heap} {Q : Post} {cs : List Value} {p : Prob} {n s : Nat} (hr : Has RProblem H0 cs p) (hp : PB n p) (hs : s < 9223372036854775808) (hQ : ∀ H' u, Fresh RSS H0 [u] (colL n p.1 s) H' → Q u H') :
    Runs Tryz.prog 136 #[.agg cs.toArray, .int .i64 (s : Nat)] H0 Q := by
  obtain ⟨u1, u2, rfl, r1, r2⟩ := hasProb hr
  have hn := hp.n5; have hql := hp.ql; have hsq := hp.sq; have hl1 := hsq.1
  refine f136.enter ?_
  unfold f136.w
  have h := ((Loc.start H0).lent hr).lent r2
  refine Wl.box h fun H b h => Wi.fieldAddr (Wl.get h rfl (Wl.len h ?_))
  rw [hql]
  refine Wl.make (r := RS) (z := []) (fun _ => .inl ⟨rfl, rfl, .inl rfl⟩) h (by omega) (by decide) fun H v h => Wl.len h ?_
  obtain ⟨us, hus, h⟩ := h.headsE (i := 0) rfl rfl
  have e0 : List.replicate n ([] : List Int) = (List.range n).map fun r => if r < 0 then List.replicate n 0 else [] := by
    apply List.ext_getElem <;> simp
  rw [e0] at h
  rw [List.length_replicate]
  refine W.for_rule n (fun x st H => st = (.int .i64 (x : Nat), ()) ∧ ∃ us, Ab.Loc H0 [.rowsE RS v us ((List.range n).map fun r => if r < x then List.replicate n 0 else []), .box b [u1, u2], .lent RS [u2] p.2, .lent RProblem [u1, u2] p] H) ⟨rfl, us, h⟩ ?_
  rintro x st H J hx ⟨rfl, us, h⟩ hJ
  refine Wi.lssC (fun hlt => Wi.tru ?_) fun hge => Wi.fls ?_
  · have hxn : x < n := by omega
    refine Wl.make (r := Rd.int) (z := 0) (fun _ => ⟨rfl, rfl, by unfold I64; omega⟩) h (by omega) (by decide) fun H u h => ?_
    have h := h.asData (i := 0) rfl
    refine Wl.putRowE rfl h (i := 1) (j := 0) (by simpa using hxn) (by omega) fun H h => Wi.add (by unfold I64; omega) (hJ _ _ hxn ⟨rfl, us.set x u, ?_⟩)
    have e : ((List.range n).map fun r => if r < x then List.replicate n (0 : Int) else []).set x (List.replicate n 0) = (List.range n).map fun r => if r < x + 1 then List.replicate n 0 else [] := by
      apply List.ext_getElem
      · simp
      · intro k h1 h2
        rw [List.getElem_set]
        simp only [List.getElem_map, List.getElem_range]
        by_cases g : x = k
        · subst g; simp
        · rw [if_neg g]
          by_cases g2 : k < x
          · rw [if_pos g2, if_pos (by omega)]
          · rw [if_neg g2, if_neg (by omega)]
    have h := h.tl
    rw [e] at h
    exact h
  have : x = n := by omega
  subst this
  have h := h.unrowsE (i := 0) rfl
  have e1 : ((List.range x).map fun r => if r < x then List.replicate x (0 : Int) else []) = colTo x p.1 s 0 := by
    unfold colTo tabL
    refine List.map_congr_left fun r hr => ?_
    rw [if_pos (by simpa using hr)]
    apply List.ext_getElem <;> simp
  rw [e1] at h
  refine W.for_rule x (fun i st H => st = (.int .i64 (i : Nat), ()) ∧ Ab.Loc H0 [.data RSS [v] (colTo x p.1 s i), .box b [u1, u2], .lent RS [u2] p.2, .lent RProblem [u1, u2] p] H) ⟨rfl, h⟩ ?_
  rintro i st H J2 hi ⟨rfl, h⟩ hJ2
  refine Wi.lssC (fun hlt => Wi.tru ?_) fun hge => Wi.fls ?_
  · have hin : i < x := by omega
    refine Wl.getA h rfl (Wi.callQ (fn97 hs (by omega) ⟨.refl _, Wi.callQ (fn130 (h.rd (cs := [u1, u2])) hp hin fun H1 u f => ⟨f.le, ?_⟩)⟩))
    have h := h.add f
    obtain ⟨bs, bc, g1, g2, g3, g4, g5, g6⟩ := h.apart (i := 1) (j := 0) rfl rfl (by omega)
    have hsq2 := tabL_sq x fun r c => if c < i then colE p.1 s r c else 0
    refine Wi.call (fn137 g1 g2 g3 g4 g5 (fun r hr => by rw [hsq2.2 r hr]; exact hin) (by rw [show (colTo x p.1 s i).length = x from hsq2.1]; simp [columnV]) fun H2 m => Wi.add (by unfold I64; omega) (hJ2 _ _ hin ⟨rfl, ?_⟩))
    have h := (g6 _ _ m).tl
    rw [colTo_step hin] at h
    exact h
  · have : i = x := by omega
    subst this
    rw [colTo_all] at h
    exact hQ _ _ (h.ret (i := 0) rfl)

theorem fn94 {H0 : Heap} {Q : Post} {cs : List Value} {vr : Value} {p : Prob} {n s : Nat} {right : List Int} (hr : Has RProblem H0 cs p) (hp : PB n p) (hs : s < 9223372036854775808) (hx : Has RS H0 [vr] right) (hrl : right.length = n) (hrb : ∀ e ∈ right, e.natAbs ≤ 100)
    (h1 : det n (mAt (colL n p.1 s)) = 0 → ∀ H', H0.Le H' → Q (.tuple #[.slice none 0 0, .int .i64 0, .bool false]) H')
    (h2 : det n (mAt (colL n p.1 s)) ≠ 0 → ∀ H' u, Fresh RS H0 [u] (pointL n (colL n p.1 s) right) H' → Q (.tuple #[u, .int .i64 (det n (mAt (colL n p.1 s))).natAbs, .bool true]) H') :
    Runs Tryz.prog 94 #[.agg cs.toArray, .int .i64 (s : Nat), vr] H0 Q := by
  obtain ⟨u1, u2, rfl, r1, r2⟩ := hasProb hr
  have hn := hp.n5
  refine f94.enter ?_
  unfold f94.w
  have h := ((Loc.start H0).lent hr).lent hx
  have hcs := tabL_sq n (colE p.1 s)
  have hcr := colL_rows (m := p.1) s hn fun r c _ _ => hp.m r c
  refine Wl.box h fun H b h => Wl.getA h rfl (Wi.call (fn136 (h.rd (cs := [u1, u2])) hp hs fun H vr' f => ?_))
  have h := h.add f
  refine Wi.call (fn122 (h.rd (cs := [vr'])) hcs hn hcr fun H l => ?_)
  have h := h.to l
  have hD := det200 hn hcr
  refine Wi.eqlC (fun hz => Wi.tru (h1 hz _ h.le)) fun hnz => Wi.fls (Wl.len h ?_)
  rw [hrl]
  refine Wl.make (r := Rd.int) (z := 0) (fun _ => ⟨rfl, rfl, by unfold I64; omega⟩) h (by omega) (by decide) fun H u h => Wl.len h ?_
  have h := h.asData (i := 0) rfl
  rw [List.length_replicate]
  have e0 : List.replicate n (0 : Int) = (List.range n).map fun k => if k < 0 then sgI (det n (mAt (colL n p.1 s))) * det n (mAt (putCol k right (colL n p.1 s))) else 0 := by
    apply List.ext_getElem <;> simp
  rw [e0] at h
  refine W.for_rule n (fun x st H => st = (.int .i64 (x : Nat), ()) ∧ Ab.Loc H0 [.data RS [u] ((List.range n).map fun k => if k < x then sgI (det n (mAt (colL n p.1 s))) * det n (mAt (putCol k right (colL n p.1 s))) else 0), .data RSS [vr'] (colL n p.1 s), .box b [u1, u2], .lent RS [vr] right, .lent RProblem [u1, u2] p] H) ⟨rfl, h⟩ ?_
  rintro x st H J hxx ⟨rfl, h⟩ hJ
  refine Wi.lssC (fun hlt => Wi.tru ?_) fun hge => Wi.fls ?_
  · have hxn : x < n := by omega
    refine Wi.call (fn129 (h.rd (cs := [vr'])) ⟨by rw [show (colL n p.1 s).length = n from hcs.1]; omega, fun r hr => by rw [hcs.2 r hr]; omega⟩ fun H w g => ?_)
    have h := (h.add g.fresh)
    obtain ⟨bs, bc, g1, g2, g3, g4, g5, g6⟩ := h.apartL (i := 0) rfl hx
    refine Wi.call (fn137 g1 g2 g3 g4 g5 (fun r hr => by rw [hcs.2 r hr]; exact hxn) (by rw [show (colL n p.1 s).length = n from hcs.1, hrl]; exact Nat.le_refl _) fun H2 m => ?_)
    have h := g6 _ _ m
    have hpr := putCol_rows (k := x) hcs hn (fun r c hr hc => by rw [show mAt (tabL n (colE p.1 s)) r c = colE p.1 s r c from tabL_at hr hc]; exact colE_abs (hp.m r c)) hrb hxn
    have hpd := det200 hn hpr
    refine Wi.call (fn108 (Wi.call (fn122 (h.rd (cs := [w])) (putCol_sq hcs) hn hpr fun H l => ?_)))
    have h := (h.to l).tl
    have hI : (sgI (det n (mAt (colL n p.1 s))) * det n (mAt (putCol x right (colL n p.1 s)))).natAbs ≤ 1 * 320000000000 := mulA (sgI_abs _) hpd
    refine Wi.mul (i64A hI (by decide)) (Wl.setInt h (by simpa using hxn) (i64A hI (by decide)) fun H h => Wi.add (by unfold I64; omega) (hJ _ _ hxn ⟨rfl, ?_⟩))
    rw [range_set (g := fun k => if k < x + 1 then sgI (det n (mAt (colL n p.1 s))) * det n (mAt (putCol k right (colL n p.1 s))) else 0) (by simp) (fun k _ hk => by
      by_cases g : k < x
      · rw [if_pos g, if_pos (by omega)]
      · rw [if_neg g, if_neg (by omega)])] at h
    exact h
  · have : x = n := by omega
    subst this
    refine Wi.call (fn119 (by unfold B64; unfold colL at hD; unfold colL; omega) ?_)
    have e : pointL x (colL x p.1 s) right = (List.range x).map fun k => if k < x then sgI (det x (mAt (colL x p.1 s))) * det x (mAt (putCol k right (colL x p.1 s))) else 0 := by
      unfold pointL solveL
      rw [List.map_map]
      refine List.map_congr_left fun k hk => ?_
      rw [if_pos (by simpa using hk)]
      rfl
    refine h2 hnz _ _ ?_
    rw [e]
    exact h.ret (i := 0) rfl

theorem fn49 {H0 : Heap} {Q : Post} {cs : List Value} {p : Prob} {n s : Nat} (hr : Has RProblem H0 cs p) (hp : PB n p) (hs : s < 9223372036854775808)
    (h1 : det n (mAt (colL n p.1 s)) = 0 → ∀ H', H0.Le H' → Q (.tuple #[.slice none 0 0, .int .i64 0, .bool false]) H')
    (h2 : det n (mAt (colL n p.1 s)) ≠ 0 → ∀ H' u, Fresh RS H0 [u] (pointL n (colL n p.1 s) p.2) H' → Q (.tuple #[u, .int .i64 (det n (mAt (colL n p.1 s))).natAbs, .bool true]) H') :
    Runs Tryz.prog 49 #[.agg cs.toArray, .int .i64 (s : Nat)] H0 Q := by
  obtain ⟨u1, u2, rfl, r1, r2⟩ := hasProb hr
  refine f49.enter ?_
  unfold f49.w
  have h := ((Loc.start H0).lent hr).lent r2
  refine Wl.box h fun H b h => Wl.getA h rfl (Wi.fieldAddr (Wl.get h rfl (Wi.call (fn94 (h.rd (cs := [u1, u2])) hp hs (h.rd (cs := [u2])) hp.ql hp.q (fun hz H l => ?_) fun hnz H u f => ?_))))
  · simp only [gw]
    exact h1 hz _ (h.to l).le
  · simp only [gw]
    exact h2 hnz _ _ ((h.add f).ret (i := 0) rfl)

end Go.Proofs.YtdmgomeogedjgaaGreat

/-! Contracts of the reference's columns, solve and point. No condition. -/
namespace Go.Proofs.YtdmgomeogedjgaaGreat
open Go.Ab

/- loop.example/g01343/spec.l01Columns -/
def f78.j1 (Q : Post) (k_8 : Value) (I2 : St [7, 8] → Heap → Prop) (row_7' : Value) (H : Heap) : Prop :=
  W.bin .add k_8 (.int .i64 1) H fun v18 H =>
  I2 (row_7', v18, ()) H
def f78.j2 (Q : Post) (k_8 : Value) (I2 : St [7, 8] → Heap → Prop) (row_7'' : Value) (H : Heap) : Prop :=
  f78.j1 Q k_8 I2 row_7'' H
def f78.l2 (Q : Post) (m_0 : Value) (s_1 : Value) (i_6 : Value) (out_5 : Value) (I1 : St [5, 6] → Heap → Prop) (I2 : St [7, 8] → Heap → Prop) (row_7 : Value) (k_8 : Value) (H : Heap) : Prop :=
  W.len m_0 H fun v5 H =>
  W.bin .lss k_8 v5 H fun v6 H =>
  W.cond v6 H
  (fun H => W.conv .u64 k_8 H fun v7 H =>
   W.bin .shr s_1 v7 H fun v8 H =>
   W.bin .and v8 (.int .i64 1) H fun v9 H =>
   W.bin .eql v9 (.int .i64 1) H fun v10 H =>
   W.cond v10 H
   (fun H => W.indexAddr 1 m_0 i_6 H fun v11 H =>
    W.get v11 H fun v12 H =>
    W.indexAddr 1 v12 k_8 H fun v13 H =>
    W.get v13 H fun v14 H =>
    W.un .neg v14 H fun v15 H =>
    W.lit 1 [(.int .i64 0)] 2 [(0, 1, v15)] H fun v16 H =>
    W.append 1 2 row_7 v16 H fun v17 H =>
    f78.j1 Q k_8 I2 v17 H)
   (fun H => W.bin .eql i_6 k_8 H fun v19 H =>
    W.cond v19 H
    (fun H => W.lit 1 [(.int .i64 0)] 2 [(0, 1, (.int .i64 1))] H fun v20 H =>
     W.append 1 2 row_7 v20 H fun v21 H =>
     f78.j2 Q k_8 I2 v21 H)
    (fun H => W.lit 1 [(.int .i64 0)] 2 [(0, 1, (.int .i64 0))] H fun v22 H =>
     W.append 1 2 row_7 v22 H fun v23 H =>
     f78.j2 Q k_8 I2 v23 H)))
  (fun H => W.lit 1 [(.slice none 0 0)] 29 [(0, 1, row_7)] H fun v24 H =>
   W.append 1 29 out_5 v24 H fun v25 H =>
   W.bin .add i_6 (.int .i64 1) H fun v26 H =>
   I1 (v25, v26, ()) H)
def f78.l1 (Q : Post) (m_0 : Value) (s_1 : Value) (I1 : St [5, 6] → Heap → Prop) (out_5 : Value) (i_6 : Value) (H : Heap) : Prop :=
  W.len m_0 H fun v2 H =>
  W.bin .lss i_6 v2 H fun v3 H =>
  W.cond v3 H
  (fun H => W.lit 0 [(.int .i64 0)] 2 [] H fun v4 H =>
   W.loop (S := St [7, 8]) (fun I2 s H => f78.l2 Q m_0 s_1 i_6 out_5 I1 I2 s.1 s.2.1 H) (v4, (.int .i64 0), ()) H)
  (fun H => Q out_5 H)
def f78.w (Q : Post) (m_0 : Value) (s_1 : Value) (H : Heap) : Prop :=
  W.lit 0 [(.slice none 0 0)] 29 [] H fun v1 H =>
  W.loop (S := St [5, 6]) (fun I1 s H => f78.l1 Q m_0 s_1 I1 s.1 s.2.1 H) (v1, (.int .i64 0), ()) H
theorem f78.enter {Q : Post} {m_0 : Value} {s_1 : Value} {H : Heap} (h : f78.w Q m_0 s_1 H) : Runs Tryz.prog 78 #[m_0, s_1] H Q :=
  fn_enter (ann := [(3, [5, 6]), (7, [7, 8])]) (by kernel_rfl) Tryz.func78 rfl (by kernel_rfl) h (by kernel_rfl)

/- loop.example/g01343/spec.l01Solve -/
def f77.l2 (Q : Post) (rows_0 : Value) (q_1 : Value) (k_7 : Value) (out_6 : Value) (I1 : St [6, 7] → Heap → Prop) (I2 : St [8, 9] → Heap → Prop) (own_8 : Value) (i_9 : Value) (H : Heap) : Prop :=
  W.len rows_0 H fun v5 H =>
  W.bin .lss i_9 v5 H fun v6 H =>
  W.cond v6 H
  (fun H => W.indexAddr 1 rows_0 i_9 H fun v7 H =>
   W.get v7 H fun v8 H =>
   W.call Tryz.prog (.func (.func 126) #[] #[]) #[v8] H fun v9 H =>
   W.indexAddr 1 q_1 i_9 H fun v10 H =>
   W.get v10 H fun v11 H =>
   W.indexAddr 1 v9 k_7 H fun v12 H =>
   W.put v12 v11 H fun _ H =>
   W.lit 1 [(.slice none 0 0)] 29 [(0, 1, v9)] H fun v13 H =>
   W.append 1 29 own_8 v13 H fun v14 H =>
   W.bin .add i_9 (.int .i64 1) H fun v15 H =>
   I2 (v14, v15, ()) H)
  (fun H => W.call Tryz.prog (.func (.func 127) #[] #[]) #[own_8] H fun v16 H =>
   W.lit 1 [(.int .i64 0)] 2 [(0, 1, v16)] H fun v17 H =>
   W.append 1 2 out_6 v17 H fun v18 H =>
   W.bin .add k_7 (.int .i64 1) H fun v19 H =>
   I1 (v18, v19, ()) H)
def f77.l1 (Q : Post) (rows_0 : Value) (q_1 : Value) (I1 : St [6, 7] → Heap → Prop) (out_6 : Value) (k_7 : Value) (H : Heap) : Prop :=
  W.len rows_0 H fun v2 H =>
  W.bin .lss k_7 v2 H fun v3 H =>
  W.cond v3 H
  (fun H => W.lit 0 [(.slice none 0 0)] 29 [] H fun v4 H =>
   W.loop (S := St [8, 9]) (fun I2 s H => f77.l2 Q rows_0 q_1 k_7 out_6 I1 I2 s.1 s.2.1 H) (v4, (.int .i64 0), ()) H)
  (fun H => W.call Tryz.prog (.func (.func 127) #[] #[]) #[rows_0] H fun v20 H =>
   Q (.tuple #[out_6, v20]) H)
def f77.w (Q : Post) (rows_0 : Value) (q_1 : Value) (H : Heap) : Prop :=
  W.lit 0 [(.int .i64 0)] 2 [] H fun v1 H =>
  W.loop (S := St [6, 7]) (fun I1 s H => f77.l1 Q rows_0 q_1 I1 s.1 s.2.1 H) (v1, (.int .i64 0), ()) H
theorem f77.enter {Q : Post} {rows_0 : Value} {q_1 : Value} {H : Heap} (h : f77.w Q rows_0 q_1 H) : Runs Tryz.prog 77 #[rows_0, q_1] H Q :=
  fn_enter (ann := [(3, [6, 7]), (7, [8, 9])]) (by kernel_rfl) Tryz.func77 rfl (by kernel_rfl) h (by kernel_rfl)

/- loop.example/g01343/spec.l01Point -/
def f37.l1 (Q : Post) (v8 : Value) (v9 : Value) (I1 : St [8, 9] → Heap → Prop) (out_8 : Value) (i_9 : Value) (H : Heap) : Prop :=
  W.len v8 H fun v12 H =>
  W.bin .lss i_9 v12 H fun v13 H =>
  W.cond v13 H
  (fun H => W.indexAddr 1 v8 i_9 H fun v14 H =>
   W.get v14 H fun v15 H =>
   W.call Tryz.prog (.func (.func 79) #[] #[]) #[v15, v9] H fun v16 H =>
   W.lit 1 [(.int .i64 0), (.int .i64 0)] 67 [(0, 2, v16)] H fun v17 H =>
   W.append 2 67 out_8 v17 H fun v18 H =>
   W.bin .add i_9 (.int .i64 1) H fun v19 H =>
   I1 (v18, v19, ()) H)
  (fun H => Q (.tuple #[out_8, (.bool true)]) H)
def f37.w (Q : Post) (p_0 : Value) (s_1 : Value) (H : Heap) : Prop :=
  W.box p_0 31 H fun v1 H =>
  W.fieldAddr 0 v1 H fun v2 H =>
  W.get v2 H fun v3 H =>
  W.callQ Tryz.prog (.func (.func 78) #[] #[]) #[v3, s_1] H fun v4 H =>
  W.fieldAddr 1 v1 H fun v5 H =>
  W.get v5 H fun v6 H =>
  W.callQ Tryz.prog (.func (.func 77) #[] #[]) #[v4, v6] H fun v7 H =>
  W.extract 0 v7 H fun v8 H =>
  W.extract 1 v7 H fun v9 H =>
  W.bin .eql v9 (.int .i64 0) H fun v10 H =>
  W.cond v10 H
  (fun H => Q (.tuple #[(.slice none 0 0), (.bool false)]) H)
  (fun H => W.lit 0 [(.int .i64 0), (.int .i64 0)] 67 [] H fun v11 H =>
   W.loop (S := St [8, 9]) (fun I1 s H => f37.l1 Q v8 v9 I1 s.1 s.2.1 H) (v11, (.int .i64 0), ()) H)
theorem f37.enter {Q : Post} {p_0 : Value} {s_1 : Value} {H : Heap} (h : f37.w Q p_0 s_1 H) : Runs Tryz.prog 37 #[p_0, s_1] H Q :=
  fn_enter (ann := [(6, [8, 9])]) (by kernel_rfl) Tryz.func37 rfl (by kernel_rfl) h (by kernel_rfl)


theorem fn78 {H0 : Heap} {Q : Post} {v : Value} {m : List (List Int)} {n s : Nat} (hr : Has RSS H0 [v] m) (hsq : Sq n m) (hn : n ≤ 5) (hb : ∀ r c, (mAt m r c).natAbs ≤ 20) (hs : s < 9223372036854775808)
    (hQ : ∀ H' u, FreshG (Rd.gslice Rd.int 2) 29 H0 u (colL n m s) H' → Q u H') : Runs Tryz.prog 78 #[v, .int .i64 (s : Nat)] H0 Q := by
  have hl := hsq.1
  refine f78.enter ?_
  unfold f78.w
  refine Wl.lit0 (ty := 29) (Rd.gslice Rd.int 2) rfl ((Loc.start H0).lent hr) fun H y h => ?_
  refine W.for_rule n (fun i st H => ∃ y, st = (y, .int .i64 (i : Nat), ()) ∧ Ab.Loc H0 [.grow (Rd.gslice Rd.int 2) 29 y ((List.range i).map fun r => (List.range n).map (colE m s r)), .lent RSS [v] m] H) ⟨_, rfl, h⟩ ?_
  rintro i st H J hi ⟨y, rfl, h⟩ hJ
  refine Wl.len h (Wi.lssC (fun hlt => Wi.tru ?_) fun hge => Wi.fls ?_)
  · have hin : i < n := by omega
    have him : i < m.length := by omega
    have hrl := hsq.2 _ (List.getElem_mem him)
    refine Wl.lit0 (ty := 2) Rd.int rfl h fun H w h => ?_
    refine W.for_rule n (fun k st H => ∃ w, st = (w, .int .i64 (k : Nat), ()) ∧ Ab.Loc H0 [.grow Rd.int 2 w ((List.range k).map (colE m s i)), .grow (Rd.gslice Rd.int 2) 29 y ((List.range i).map fun r => (List.range n).map (colE m s r)), .lent RSS [v] m] H) ⟨_, rfl, h⟩ ?_
    rintro k st H J2 hk ⟨w, rfl, h⟩ hJ2
    refine Wl.len h (Wi.lssC (fun hlt2 => Wi.tru ?_) fun hge2 => Wi.fls ?_)
    · have hkn : k < n := by omega
      have hkm : k < m[i].length := by omega
      have hI : I64 ((k : Int) + 1) := by unfold I64; omega
      have eb := colE_abs (s := s) (hb i k)
      have next : ∀ (x : Int), colE m s i k = x → ∀ H u', Ab.Loc H0 [.grow Rd.int 2 u' ((List.range k).map (colE m s i) ++ [x]), .grow (Rd.gslice Rd.int 2) 29 y ((List.range i).map fun r => (List.range n).map (colE m s r)), .lent RSS [v] m] H → f78.j1 Q (.int .i64 (k : Nat)) J2 u' H := fun x hx H u' h' => by
        rw [range_push hx] at h'
        unfold f78.j1
        exact Wi.add hI (hJ2 _ _ hkn ⟨_, rfl, h'⟩)
      refine Wi.convN (by omega) (Wi.shrN hs (by omega) (Wi.and1 (Wi.eqlC (fun ht => Wi.tru ?_) fun hf => Wi.fls ?_)))
      · have ht := bit_iff.1 ht
        have ev : colE m s i k = -(mAt m i k) := by unfold colE; rw [if_pos ht]
        have e1 : m[i][k] = mAt m i k := (mAt_at him hkm).symm
        rw [ev] at eb
        refine Wl.at1 rfl h him fun w2 hw2 => Wl.atIntH hw2 hkm fun _ => ?_
        rw [e1]
        refine Wi.neg (i64A eb (by decide)) ?_
        refine Wl.pushP (r := Rd.int) (x := -(mAt m i k)) rfl rfl rfl (fun _ => ⟨rfl, rfl, i64A eb (by decide)⟩) h (by simp; omega) fun H u' h => ?_
        exact next _ ev _ _ h
      · have hf : s.testBit k = false := by
          cases hb2 : s.testBit k with
          | false => rfl
          | true => exact absurd (bit_iff.2 hb2) hf
        have ev : colE m s i k = if i = k then 1 else 0 := by unfold colE; rw [if_neg (by rw [hf]; exact Bool.false_ne_true)]
        refine Wi.eqlC (fun he => Wi.tru ?_) fun hne => Wi.fls ?_
        · rw [if_pos (by omega)] at ev
          refine Wl.pushP (r := Rd.int) (x := 1) rfl rfl rfl (fun _ => ⟨rfl, rfl, by unfold I64; omega⟩) h (by simp; omega) fun H u' h => ?_
          unfold f78.j2
          exact next _ ev _ _ h
        · rw [if_neg (by omega)] at ev
          refine Wl.pushP (r := Rd.int) (x := 0) rfl rfl rfl (fun _ => ⟨rfl, rfl, by unfold I64; omega⟩) h (by simp; omega) fun H u' h => ?_
          unfold f78.j2
          exact next _ ev _ _ h
    · have : k = n := by omega
      subst this
      refine Wl.pushGG h (by simp; omega) fun H y' h => Wi.add (by unfold I64; omega) (hJ _ _ hin ⟨y', rfl, ?_⟩)
      rw [range_push (f := fun r => (List.range k).map (colE m s r)) rfl] at h
      exact h
  · have : i = n := by omega
    subst this
    exact hQ _ _ (h.retGG (i := 0) rfl)

theorem fn77 {H0 : Heap} {Q : Post} {v vq : Value} {rows : List (List Int)} {q : List Int} {n : Nat} (hr : Has RG H0 [v] rows) (hq : Has RS H0 [vq] q) (hs : Sq n rows) (hn : n ≤ 5) (hql : q.length = n) (hb : ∀ r c, r < n → c < n → (mAt rows r c).natAbs ≤ 20) (hqb : ∀ e ∈ q, e.natAbs ≤ 100)
    (hQ : ∀ H' u, Fresh RS H0 [u] (solveL n rows q) H' → Q (.tuple #[u, .int .i64 (det n (mAt rows))]) H') : Runs Tryz.prog 77 #[v, vq] H0 Q := by
  have hl := hs.1
  refine f77.enter ?_
  unfold f77.w
  refine Wl.lit0 (ty := 2) Rd.int rfl (((Loc.start H0).lent hq).lent hr) fun H u h => ?_
  refine W.for_rule n (fun k st H => ∃ u, st = (u, .int .i64 (k : Nat), ()) ∧ Ab.Loc H0 [.grow Rd.int 2 u ((List.range k).map fun i => det n (mAt (putCol i q rows))), .lent RG [v] rows, .lent RS [vq] q] H) ⟨_, rfl, h⟩ ?_
  rintro k st H J hk ⟨u, rfl, h⟩ hJ
  refine Wl.len h (Wi.lssC (fun hlt => Wi.tru ?_) fun hge => Wi.fls ?_)
  · have hkn : k < n := by omega
    have hpsq := putCol_sq (i := k) (col := q) hs
    have hpr := putCol_rows hs hn hb hqb hkn
    refine Wl.lit0 (ty := 29) (Rd.gslice Rd.int 2) rfl h fun H y h => ?_
    refine W.for_rule n (fun i st H => ∃ y, st = (y, .int .i64 (i : Nat), ()) ∧ Ab.Loc H0 [.grow (Rd.gslice Rd.int 2) 29 y ((putCol k q rows).take i), .grow Rd.int 2 u ((List.range k).map fun i => det n (mAt (putCol i q rows))), .lent RG [v] rows, .lent RS [vq] q] H) ⟨_, rfl, h⟩ ?_
    rintro i st H J2 hi ⟨y, rfl, h⟩ hJ2
    refine Wl.len h (Wi.lssC (fun hlt2 => Wi.tru ?_) fun hge2 => Wi.fls ?_)
    · have hin : i < n := by omega
      have hir : i < rows.length := by omega
      have hrl := hs.2 _ (List.getElem_mem hir)
      have hip : i < (putCol k q rows).length := by rw [hpsq.1]; exact hin
      refine Wl.at1 rfl h hir fun w hw => Wi.call (fn126 hw.ofG1 (by omega) fun H u2 f => ?_)
      have h := h.addG f
      refine Wl.atInt h (i := i) (by omega) fun hy => Wl.setG h (by omega) hy fun H h => ?_
      refine Wl.pushGG h (by simp; omega) fun H y' h => Wi.add (by unfold I64; omega) (hJ2 _ _ hin ⟨y', rfl, ?_⟩)
      have e : rows[i].set k (q[i]'(by omega)) = (putCol k q rows)[i] := by
        simp only [putCol, List.getElem_mapIdx]
        rw [atD (by omega)]
      rw [e, ← List.take_succ_eq_append_getElem hip] at h
      exact h
    · have : i = n := by omega
      subst this
      rw [show (putCol k q rows).take i = putCol k q rows from List.take_of_length_le (by rw [hpsq.1]; exact Nat.le_refl _)] at h
      have h2 := h.asData (i := 0) rfl
      refine Wi.call (fn127 (h2.rd (cs := [y])) hpsq hn hpr fun H l => ?_)
      have h := (h2.to l).tl
      have hd := det200 hn hpr
      refine Wl.pushP (r := Rd.int) (x := det i (mAt (putCol k q rows))) rfl rfl rfl (fun _ => ⟨rfl, rfl, i64A hd (by decide)⟩) h (by simp; omega) fun H u' h => Wi.add (by unfold I64; omega) (hJ _ _ hkn ⟨u', rfl, ?_⟩)
      have h2 : Ab.Loc H0 [.grow Rd.int 2 u' ((List.range k).map (fun j => det i (mAt (putCol j q rows))) ++ [det i (mAt (putCol k q rows))]), .lent RG [v] rows, .lent RS [vq] q] H := h
      rw [range_push (f := fun j => det i (mAt (putCol j q rows))) rfl] at h2
      exact h2
  · have : k = n := by omega
    subst this
    have hrr := rows_bound hn hb
    refine Wi.call (fn127 (h.rd (cs := [v])) hs hn (fun i hi => Nat.le_trans (hrr i hi) (by decide)) fun H l => ?_)
    exact hQ _ _ (((h.to l).asData (i := 0) rfl).ret (i := 0) rfl)

/-- A point's numbers as fractions. -/
def pointF (n : Nat) (rows : List (List Int)) (q : List Int) : List Frac := (solveL n rows q).map fun x => frac x (det n (mAt rows))

theorem frac_i64 {x d : Int} (hx : B64 x) (hd : B64 d) (h0 : d ≠ 0) : I64 (frac x d).1 ∧ I64 (frac x d).2 := by
  by_cases h : d < 0
  · rw [frac_neg h]
    exact ⟨(tdiv_B hx.neg).i64, (tdiv_B hd.neg).i64⟩
  · rw [frac_pos' (by omega)]
    exact ⟨(tdiv_B hx).i64, (tdiv_B hd).i64⟩

theorem solveL_abs {n : Nat} {rows : List (List Int)} {q : List Int} (hs : Sq n rows) (hn : n ≤ 5) (hb : ∀ r c, r < n → c < n → (mAt rows r c).natAbs ≤ 20) (hqb : ∀ e ∈ q, e.natAbs ≤ 100) : ∀ e ∈ solveL n rows q, e.natAbs ≤ 320000000000 := fun e he => by
  obtain ⟨k, hk, rfl⟩ := List.mem_map.1 he
  exact det200 hn (putCol_rows hs hn hb hqb (by simpa using hk))

theorem fn37 {H0 : Heap} {Q : Post} {cs : List Value} {p : Prob} {n s : Nat} (hr : Has RProblem H0 cs p) (hp : PB n p) (hs : s < 9223372036854775808)
    (h1 : det n (mAt (colL n p.1 s)) = 0 → ∀ H', H0.Le H' → Q (.tuple #[.slice none 0 0, .bool false]) H')
    (h2 : det n (mAt (colL n p.1 s)) ≠ 0 → ∀ H' u, Fresh RFS H0 [u] (pointF n (colL n p.1 s) p.2) H' → Q (.tuple #[u, .bool true]) H') : Runs Tryz.prog 37 #[.agg cs.toArray, .int .i64 (s : Nat)] H0 Q := by
  obtain ⟨u1, u2, rfl, r1, r2⟩ := hasProb hr
  have hn := hp.n5
  have hcs := tabL_sq n (colE p.1 s)
  have hcb : ∀ r c, r < n → c < n → (mAt (colL n p.1 s) r c).natAbs ≤ 20 := fun r c hr hc => by rw [colL_at hr hc]; exact colE_abs (hp.m r c)
  refine f37.enter ?_
  unfold f37.w
  have h := ((Loc.start H0).lent r1).lent r2
  refine Wl.box h fun H b h => Wi.fieldAddr0 (Wl.get h rfl (Wi.callQ (fn78 (h.rd (cs := [u1])) hp.sq hn hp.m hs fun H v g => ⟨g.le, ?_⟩)))
  have h := (h.addG g).asData (i := 0) rfl
  refine Wi.fieldAddr (Wl.get h rfl (Wi.callQ (fn77 (h.rd (cs := [v])) (h.rd (cs := [u2])) hcs hn hp.ql hcb hp.q fun H u f => ⟨f.le, ?_⟩)))
  have h := h.add f
  simp only [g11, g12]
  have hsa := solveL_abs hcs hn hcb hp.q
  have hda := det200 hn (colL_rows (m := p.1) s hn fun r c _ _ => hp.m r c)
  refine Wi.eqlC (fun hz => Wi.tru (h1 hz _ h.le)) fun hnz => Wi.fls (Wl.lit0 RFrac (ty := 67) rfl h fun H y h => ?_)
  have hsl := solveL_len n (colL n p.1 s) p.2
  refine W.for_rule n (fun i st H => ∃ y, st = (y, .int .i64 (i : Nat), ()) ∧ Ab.Loc H0 [.grow RFrac 67 y (((solveL n (colL n p.1 s) p.2).take i).map fun x => frac x (det n (mAt (colL n p.1 s)))), .data RS [u] (solveL n (colL n p.1 s) p.2)] H) ⟨_, rfl, h.first 2⟩ ?_
  rintro i st H J hi ⟨y, rfl, h⟩ hJ
  refine Wl.len h (Wi.lssC (fun hlt => Wi.tru ?_) fun hge => Wi.fls ?_)
  · have hin : i < n := by omega
    have his : i < (solveL n (colL n p.1 s) p.2).length := by omega
    have b1 : B64 (solveL n (colL n p.1 s) p.2)[i] := by have := hsa _ (List.getElem_mem his); unfold B64; omega
    have b2 : B64 (det n (mAt (colL n p.1 s))) := by unfold B64; omega
    refine Wl.atInt h his fun _ => Wi.call (fn79 b1 b2 hnz fun H l => ?_)
    have h := h.to l
    refine Wl.pushP (r := RFrac) (x := frac (solveL n (colL n p.1 s) p.2)[i] (det n (mAt (colL n p.1 s)))) rfl rfl rfl (frac_rel (frac_i64 b1 b2 hnz)) h (by simp; omega) fun H y' h => Wi.add (by unfold I64; omega) (hJ _ _ hin ⟨y', rfl, ?_⟩)
    rw [List.take_succ_eq_append_getElem his, List.map_append]
    exact h
  · have : i = n := by omega
    subst this
    rw [show (solveL i (colL i p.1 s) p.2).take i = solveL i (colL i p.1 s) p.2 from List.take_of_length_le (by omega)] at h
    exact h2 hnz _ _ ((h.asData (i := 0) rfl).ret (i := 0) rfl)

end Go.Proofs.YtdmgomeogedjgaaGreat

/-! Contracts of the tests of sets. No condition. -/
namespace Go.Proofs.YtdmgomeogedjgaaGreat
open Go.Ab

/- loop.example/g01343/impl.isSet -/
def f93.w (Q : Post) (s_0 : Value) (n_1 : Value) (H : Heap) : Prop :=
  W.bin .shl (.int .i64 1) n_1 H fun v1 H =>
  W.bin .sub v1 (.int .i64 1) H fun v2 H =>
  W.call Tryz.prog (.func (.func 31) #[] #[]) #[s_0, (.int .i64 0), v2] H fun v3 H =>
  Q v3 H
theorem f93.enter {Q : Post} {s_0 : Value} {n_1 : Value} {H : Heap} (h : f93.w Q s_0 n_1 H) : Runs Tryz.prog 93 #[s_0, n_1] H Q :=
  fn_enter (ann := []) (by kernel_rfl) Tryz.func93 rfl (by kernel_rfl) h (by kernel_rfl)

/- loop.example/g01343/impl.setCode -/
def f48.w (Q : Post) (p_0 : Value) (s_1 : Value) (H : Heap) : Prop :=
  W.box p_0 31 H fun v1 H =>
  W.getN 2 v1 H fun v2 H =>
  W.call Tryz.prog (.func (.func 89) #[] #[]) #[v2] H fun v3 H =>
  W.un .not v3 H fun v4 H =>
  W.cond v4 H
  (fun H => Q (.int .i64 1) H)
  (fun H => W.fieldAddr 1 v1 H fun v5 H =>
   W.get v5 H fun v6 H =>
   W.len v6 H fun v7 H =>
   W.call Tryz.prog (.func (.func 93) #[] #[]) #[s_1, v7] H fun v8 H =>
   W.un .not v8 H fun v9 H =>
   W.cond v9 H
   (fun H => Q (.int .i64 2) H)
   (fun H => Q (.int .i64 0) H))
theorem f48.enter {Q : Post} {p_0 : Value} {s_1 : Value} {H : Heap} (h : f48.w Q p_0 s_1 H) : Runs Tryz.prog 48 #[p_0, s_1] H Q :=
  fn_enter (ann := []) (by kernel_rfl) Tryz.func48 rfl (by kernel_rfl) h (by kernel_rfl)

/- loop.example/g01343/spec.l08Code -/
def f35.w (Q : Post) (p_0 : Value) (s_1 : Value) (rule_2 : Value) (H : Heap) : Prop :=
  W.box p_0 31 H fun v1 H =>
  W.getN 2 v1 H fun v2 H =>
  W.call Tryz.prog (.func (.func 27) #[] #[]) #[v2] H fun v3 H =>
  W.un .not v3 H fun v4 H =>
  W.cond v4 H
  (fun H => Q (.int .i64 1) H)
  (fun H => W.fieldAddr 1 v1 H fun v5 H =>
   W.get v5 H fun v6 H =>
   W.len v6 H fun v7 H =>
   W.conv .u64 v7 H fun v8 H =>
   W.bin .shl (.int .i64 1) v8 H fun v9 H =>
   W.bin .sub v9 (.int .i64 1) H fun v10 H =>
   W.call Tryz.prog (.func (.func 44) #[] #[]) #[s_1, (.int .i64 0), v10] H fun v11 H =>
   W.un .not v11 H fun v12 H =>
   W.guarded v12 false (fun H k => k rule_2 H) H fun v13 H =>
   W.guarded v12 false (fun H k => W.call Tryz.prog (.func (.func 44) #[] #[]) #[v13, (.int .i64 0), (.int .i64 3)] H k) H fun v14 H =>
   W.guarded v12 false (fun H k => W.un .not v14 H k) H fun v15 H =>
   W.pick v12 (.bool true) v15 H fun v16 H =>
   W.cond v16 H
   (fun H => Q (.int .i64 2) H)
   (fun H => Q (.int .i64 0) H))
theorem f35.enter {Q : Post} {p_0 : Value} {s_1 : Value} {rule_2 : Value} {H : Heap} (h : f35.w Q p_0 s_1 rule_2 H) : Runs Tryz.prog 35 #[p_0, s_1, rule_2] H Q :=
  fn_enter (ann := []) (by kernel_rfl) Tryz.func35 rfl (by kernel_rfl) h (by kernel_rfl)


abbrev setOk (n : Nat) (s : Int) : Bool := inR 0 (((2 ^ n : Nat) : Int) - 1) s

theorem pow5 {n : Nat} (h : n ≤ 5) : 2 ^ n ≤ 32 := Nat.pow_le_pow_right (n := 2) (j := 5) (by decide) h

theorem i64_pow {n : Nat} (h : n ≤ 5) : I64 (((2 ^ n : Nat) : Int) - 1) := by
  have := pow5 h
  generalize 2 ^ n = q at *
  unfold I64
  omega

theorem fn93 {H0 : Heap} {Q : Post} {s : Int} {n : Nat} (hn : n ≤ 5) (hQ : Q (.bool (setOk n s)) H0) : Runs Tryz.prog 93 #[.int .i64 s, .int .i64 (n : Nat)] H0 Q := by
  have := pow5 hn
  exact f93.enter (Wi.shl1 (by omega) (Wi.sub (i64_pow hn) (Wi.call (fn31 hQ))))

def setC (p : Prob) (s : Int) : Int := if isProb p = true then (if setOk p.2.length s = true then 0 else 2) else 1

theorem fn48 {H0 : Heap} {Q : Post} {cs : List Value} {p : Prob} {s : Int} (hr : Has RProblem H0 cs p) (hQ : ∀ H', H0.Le H' → Q (.int .i64 (setC p s)) H') : Runs Tryz.prog 48 #[.agg cs.toArray, .int .i64 s] H0 Q := by
  obtain ⟨u1, u2, rfl, r1, r2⟩ := hasProb hr
  refine f48.enter ?_
  unfold f48.w
  have h := ((Loc.start H0).lent r2).lent hr
  refine Wl.box h fun H b h => Wl.getA h rfl ?_
  obtain ⟨_, q⟩ := h.rd (cs := [u1, u2])
  refine Wi.call (fn89 q fun H l => ?_)
  have h := h.to l
  unfold setC at hQ
  cases hp : isProb p with
  | false =>
    simp only [gw]
    have := hQ _ h.le
    simp only [hp] at this
    exact this
  | true =>
    simp only [gw]
    have hn := (PB.of hp).n5
    refine Wi.fieldAddr (Wl.get h rfl (Wl.len h (Wi.call (fn93 hn ?_))))
    cases hs : setOk p.2.length s with
    | false =>
      simp only [gw]
      have := hQ _ h.le
      simp only [hp, hs] at this
      exact this
    | true =>
      simp only [gw]
      have := hQ _ h.le
      simp only [hp, hs] at this
      exact this

end Go.Proofs.YtdmgomeogedjgaaGreat

/-! The contracts of IsCovered, the program's and the reference's. No condition. -/
namespace Go.Proofs.YtdmgomeogedjgaaGreat
open Go.Ab

/- loop.example/g01343/spec.l10Covers -/
def f81.l1 (Q : Post) (v4 : Value) (I1 : St [9, 10, 11] → Heap → Prop) (covers_9 : Value) (inner_10 : Value) (i_11 : Value) (H : Heap) : Prop :=
  W.len v4 H fun v7 H =>
  W.bin .lss i_11 v7 H fun v8 H =>
  W.cond v8 H
  (fun H => W.guarded covers_9 true (fun H k => k v4 H) H fun v9 H =>
   W.guarded covers_9 true (fun H k => k i_11 H) H fun v10 H =>
   W.guarded covers_9 true (fun H k => W.indexAddr 2 v9 v10 H k) H fun v11 H =>
   W.guarded covers_9 true (fun H k => W.fieldAddr 0 v11 H k) H fun v12 H =>
   W.guarded covers_9 true (fun H k => W.get v12 H k) H fun v13 H =>
   W.guarded covers_9 true (fun H k => W.bin .geq v13 (.int .i64 0) H k) H fun v14 H =>
   W.pick covers_9 v14 (.bool false) H fun v15 H =>
   W.guarded inner_10 true (fun H k => k v4 H) H fun v16 H =>
   W.guarded inner_10 true (fun H k => k i_11 H) H fun v17 H =>
   W.guarded inner_10 true (fun H k => W.indexAddr 2 v16 v17 H k) H fun v18 H =>
   W.guarded inner_10 true (fun H k => W.fieldAddr 0 v18 H k) H fun v19 H =>
   W.guarded inner_10 true (fun H k => W.get v19 H k) H fun v20 H =>
   W.guarded inner_10 true (fun H k => W.bin .gtr v20 (.int .i64 0) H k) H fun v21 H =>
   W.pick inner_10 v21 (.bool false) H fun v22 H =>
   W.bin .add i_11 (.int .i64 1) H fun v23 H =>
   I1 (v15, v22, v23, ()) H)
  (fun H => Q (.tuple #[(.bool true), covers_9, inner_10]) H)
def f81.w (Q : Post) (p_0 : Value) (s_1 : Value) (H : Heap) : Prop :=
  W.box p_0 31 H fun v1 H =>
  W.getN 2 v1 H fun v2 H =>
  W.call Tryz.prog (.func (.func 37) #[] #[]) #[v2, s_1] H fun v3 H =>
  W.extract 0 v3 H fun v4 H =>
  W.extract 1 v3 H fun v5 H =>
  W.un .not v5 H fun v6 H =>
  W.cond v6 H
  (fun H => Q (.tuple #[(.bool false), (.bool false), (.bool false)]) H)
  (fun H => W.loop (S := St [9, 10, 11]) (fun I1 s H => f81.l1 Q v4 I1 s.1 s.2.1 s.2.2.1 H) ((.bool true), (.bool true), (.int .i64 0), ()) H)
theorem f81.enter {Q : Post} {p_0 : Value} {s_1 : Value} {H : Heap} (h : f81.w Q p_0 s_1 H) : Runs Tryz.prog 81 #[p_0, s_1] H Q :=
  fn_enter (ann := [(6, [9, 10, 11])]) (by kernel_rfl) Tryz.func81 rfl (by kernel_rfl) h (by kernel_rfl)


def covRes (p : Prob) (s : Int) : Bool × Int :=
  if isProb p = true then (if setOk p.2.length s = true then (if det p.2.length (mAt (colL p.2.length p.1 s.toNat)) = 0 then (false, 5) else ((pointL p.2.length (colL p.2.length p.1 s.toNat) p.2).all (fun x => decide (0 ≤ x)), 0)) else (false, 2)) else (false, 1)

theorem pointF_all {n : Nat} {rows : List (List Int)} {q : List Int} (h : det n (mAt rows) ≠ 0) :
    (pointF n rows q).all (fun a => decide (0 ≤ a.1)) = (pointL n rows q).all (fun x => decide (0 ≤ x)) ∧ (pointF n rows q).all (fun a => decide (0 < a.1)) = (pointL n rows q).all (fun x => decide (0 < x)) := by
  unfold pointF pointL
  simp only [List.all_map]
  constructor
  · congr 1
    funext x
    simp only [Function.comp]
    rw [decide_eq_decide]
    exact (frac_sign h).1
  · congr 1
    funext x
    simp only [Function.comp]
    rw [decide_eq_decide]
    exact (frac_sign h).2

theorem fn81 {H0 : Heap} {Q : Post} {cs : List Value} {p : Prob} {n s : Nat} (hr : Has RProblem H0 cs p) (hp : PB n p) (hs : s < 9223372036854775808)
    (h1 : det n (mAt (colL n p.1 s)) = 0 → ∀ H', H0.Le H' → Q (.tuple #[.bool false, .bool false, .bool false]) H')
    (h2 : det n (mAt (colL n p.1 s)) ≠ 0 → ∀ H', H0.Le H' → Q (.tuple #[.bool true, .bool ((pointL n (colL n p.1 s) p.2).all fun x => decide (0 ≤ x)), .bool ((pointL n (colL n p.1 s) p.2).all fun x => decide (0 < x))]) H') :
    Runs Tryz.prog 81 #[.agg cs.toArray, .int .i64 (s : Nat)] H0 Q := by
  have hlen := hr.len
  have hn := hp.n5
  refine f81.enter ?_
  unfold f81.w
  have h := (Loc.start H0).lent hr
  refine Wl.box h fun H b h => Wl.getA h hlen (Wi.call (fn37 (h.rd (cs := cs)) hp hs (fun hz H l => ?_) fun hnz H u f => ?_))
  · simp only [gw]
    exact h1 hz _ (h.to l).le
  simp only [gw]
  have h := h.add f
  have hpl : (pointF n (colL n p.1 s) p.2).length = n := by simp [pointF, solveL_len]
  refine W.for_rule n (fun i st H' => st = (.bool (((pointF n (colL n p.1 s) p.2).take i).all fun a => decide (0 ≤ a.1)), .bool (((pointF n (colL n p.1 s) p.2).take i).all fun a => decide (0 < a.1)), .int .i64 (i : Nat), ()) ∧ Ab.Loc H0 [.data RFS [u] (pointF n (colL n p.1 s) p.2)] H') ⟨rfl, h.first 1⟩ ?_
  rintro i st H J hi ⟨rfl, h⟩ hJ
  refine Wl.len h (Wi.lssC (fun hlt => Wi.tru ?_) fun hge => Wi.fls ?_)
  · have hin : i < n := by omega
    have hif : i < (pointF n (colL n p.1 s) p.2).length := by omega
    have t1 := take_all (f := fun a : Frac => decide (0 ≤ a.1)) hif
    have t2 := take_all (f := fun a : Frac => decide (0 < a.1)) hif
    have hI : I64 ((i : Int) + 1) := by unfold I64; omega
    have fin : ∀ c d, c = ((pointF n (colL n p.1 s) p.2).take (i + 1)).all (fun a => decide (0 ≤ a.1)) → d = ((pointF n (colL n p.1 s) p.2).take (i + 1)).all (fun a => decide (0 < a.1)) → W.bin .add (.int .i64 (i : Nat)) (.int .i64 1) H fun v23 H => J (.bool c, .bool d, v23, ()) H := fun c d hc hd => by
      subst hc hd
      exact Wi.add hI (hJ _ _ hin ⟨rfl, h⟩)
    have part2 : ∀ c, c = ((pointF n (colL n p.1 s) p.2).take (i + 1)).all (fun a => decide (0 ≤ a.1)) → ∀ (hd : Bool), hd = ((pointF n (colL n p.1 s) p.2).take i).all (fun a => decide (0 < a.1)) →
        W.guarded (.bool hd) true (fun H k => k u H) H fun v16 H => W.guarded (.bool hd) true (fun H k => k (.int .i64 (i : Nat)) H) H fun v17 H => W.guarded (.bool hd) true (fun H k => W.indexAddr 2 v16 v17 H k) H fun v18 H => W.guarded (.bool hd) true (fun H k => W.fieldAddr 0 v18 H k) H fun v19 H => W.guarded (.bool hd) true (fun H k => W.get v19 H k) H fun v20 H => W.guarded (.bool hd) true (fun H k => W.bin .gtr v20 (.int .i64 0) H k) H fun v21 H =>
          W.pick (.bool hd) v21 (.bool false) H fun v22 H => W.bin .add (.int .i64 (i : Nat)) (.int .i64 1) H fun v23 H => J (.bool c, v22, v23, ()) H := fun c hc hd e => by
      cases hd with
      | false =>
        simp only [gw]
        exact fin _ _ hc (by rw [t2, ← e]; rfl)
      | true =>
        simp only [gw]
        refine Wl.numFr h hif fun _ => Wi.gtr ?_
        exact fin _ _ hc (by rw [t2, ← e]; rfl)
    generalize e1 : ((pointF n (colL n p.1 s) p.2).take i).all (fun a => decide (0 ≤ a.1)) = c at *
    cases c with
    | false =>
      simp only [gw]
      exact part2 _ (by rw [t1]; rfl) _ rfl
    | true =>
      simp only [gw]
      refine Wl.numFr h hif fun _ => Wi.geq ?_
      exact part2 _ (by rw [t1]; rfl) _ rfl
  · have : i = n := by omega
    subst this
    have ht : (pointF i (colL i p.1 s) p.2).take i = pointF i (colL i p.1 s) p.2 := List.take_of_length_le (by omega)
    rw [ht, (pointF_all hnz).1, (pointF_all hnz).2]
    exact h2 hnz _ h.le


end Go.Proofs.YtdmgomeogedjgaaGreat

/-! The text of the function that tells how many sets a problem has. No condition. -/
namespace Go.Proofs.YtdmgomeogedjgaaGreat
open Go.Ab

/- (loop.example/g01343/impl.Problem).all -/
def f90.w (Q : Post) (p_0 : Value) (H : Heap) : Prop :=
  W.box p_0 31 H fun v1 H =>
  W.fieldAddr 1 v1 H fun v2 H =>
  W.get v2 H fun v3 H =>
  W.len v3 H fun v4 H =>
  W.bin .shl (.int .i64 1) v4 H fun v5 H =>
  Q v5 H
theorem f90.enter {Q : Post} {p_0 : Value} {H : Heap} (h : f90.w Q p_0 H) : Runs Tryz.prog 90 #[p_0] H Q :=
  fn_enter (ann := []) (by kernel_rfl) Tryz.func90 rfl (by kernel_rfl) h (by kernel_rfl)


end Go.Proofs.YtdmgomeogedjgaaGreat
