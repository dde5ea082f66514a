/- Contracts of the program's columns, solve and point. No condition. -/
import Derived.Test.YthfcodelpebjcaaDT1
import Derived.Test.YthfcodelpebjcaaV0
import Derived.Test.YthfcodelpebjcaaZabG8
namespace Go.Proofs.Ythfcodelpebjcaa
open Go.Ab

/- loop.example/g01343/impl.has -/
def f114.w (Q : Post) (s_0 : Value) (i_1 : Value) (H : Heap) : Prop :=
  W.bin .shr s_0 i_1 H fun v1 H =>
  W.bin .and v1 (.int .i64 1) H fun v2 H =>
  W.bin .eql v2 (.int .i64 1) H fun v3 H =>
  Q v3 H
theorem f114.enter {Q : Post} {s_0 : Value} {i_1 : Value} {H : Heap} (h : f114.w Q s_0 i_1 H) : Runs Try.prog 114 #[s_0, i_1] H Q :=
  fn_enter (ann := []) (by kernel_rfl) Try.func114 rfl (by kernel_rfl) h (by kernel_rfl)

/- loop.example/g01343/impl.put -/
def f92.l1 (Q : Post) (v1 : Value) (rows_0 : Value) (column_2 : Value) (i_1 : Value) (I1 : St [10] → Heap → Prop) (x_10 : Value) (H : Heap) : Prop :=
  W.bin .lss x_10 v1 H fun v2 H =>
  W.cond v2 H
  (fun H => W.indexAddr 1 rows_0 x_10 H fun v3 H =>
   W.get v3 H fun v4 H =>
   W.indexAddr 1 column_2 x_10 H fun v5 H =>
   W.get v5 H fun v6 H =>
   W.indexAddr 1 v4 i_1 H fun v7 H =>
   W.put v7 v6 H fun _ H =>
   W.bin .add x_10 (.int .i64 1) H fun v8 H =>
   I1 (v8, ()) H)
  (fun H => Q (.tuple #[]) H)
def f92.w (Q : Post) (rows_0 : Value) (i_1 : Value) (column_2 : Value) (H : Heap) : Prop :=
  W.len rows_0 H fun v1 H =>
  W.loop (S := St [10]) (fun I1 s H => f92.l1 Q v1 rows_0 column_2 i_1 I1 s.1 H) ((.int .i64 0), ()) H
theorem f92.enter {Q : Post} {rows_0 : Value} {i_1 : Value} {column_2 : Value} {H : Heap} (h : f92.w Q rows_0 i_1 column_2 H) : Runs Try.prog 92 #[rows_0, i_1, column_2] H Q :=
  fn_enter (ann := [(1, [10])]) (by kernel_rfl) Try.func92 rfl (by kernel_rfl) h (by kernel_rfl)

/- (loop.example/g01343/impl.Problem).column -/
def f113.j1 (Q : Post) (x_17 : Value) (I1 : St [17] → Heap → Prop) (H : Heap) : Prop :=
  W.bin .add x_17 (.int .i64 1) H fun v16 H =>
  I1 (v16, ()) H
def f113.j2 (Q : Post) (v5 : Value) (H : Heap) : Prop :=
  Q v5 H
def f113.l1 (Q : Post) (v8 : Value) (v7 : Value) (ofZ_2 : Value) (i_1 : Value) (v5 : Value) (I1 : St [17] → Heap → Prop) (x_17 : Value) (H : Heap) : Prop :=
  W.bin .lss x_17 v8 H fun v9 H =>
  W.cond v9 H
  (fun H => W.indexAddr 1 v7 x_17 H fun v10 H =>
   W.get v10 H fun v11 H =>
   W.cond ofZ_2 H
   (fun H => W.indexAddr 1 v11 i_1 H fun v12 H =>
    W.get v12 H fun v13 H =>
    W.un .neg v13 H fun v14 H =>
    W.indexAddr 1 v5 x_17 H fun v15 H =>
    W.put v15 v14 H fun _ H =>
    f113.j1 Q x_17 I1 H)
   (fun H => f113.j1 Q x_17 I1 H))
  (fun H => W.un .not ofZ_2 H fun v17 H =>
   W.cond v17 H
   (fun H => W.indexAddr 1 v5 i_1 H fun v18 H =>
    W.put v18 (.int .i64 1) H fun _ H =>
    f113.j2 Q v5 H)
   (fun H => f113.j2 Q v5 H))
def f113.w (Q : Post) (p_0 : Value) (i_1 : Value) (ofZ_2 : Value) (H : Heap) : Prop :=
  W.box p_0 27 H fun v1 H =>
  W.fieldAddr 1 v1 H fun v2 H =>
  W.get v2 H fun v3 H =>
  W.len v3 H fun v4 H =>
  W.make [(.int .i64 0)] 2 v4 v4 H fun v5 H =>
  W.fieldAddr 0 v1 H fun v6 H =>
  W.get v6 H fun v7 H =>
  W.len v7 H fun v8 H =>
  W.loop (S := St [17]) (fun I1 s H => f113.l1 Q v8 v7 ofZ_2 i_1 v5 I1 s.1 H) ((.int .i64 0), ()) H
theorem f113.enter {Q : Post} {p_0 : Value} {i_1 : Value} {ofZ_2 : Value} {H : Heap} (h : f113.w Q p_0 i_1 ofZ_2 H) : Runs Try.prog 113 #[p_0, i_1, ofZ_2] H Q :=
  fn_enter (ann := [(3, [17])]) (by kernel_rfl) Try.func113 rfl (by kernel_rfl) h (by kernel_rfl)

/- (loop.example/g01343/impl.Problem).columns -/
def f89.l2 (Q : Post) (v4 : Value) (v1 : Value) (s_1 : Value) (v5 : Value) (I2 : St [26] → Heap → Prop) (x_26 : Value) (H : Heap) : Prop :=
  W.bin .lss x_26 v4 H fun v11 H =>
  W.cond v11 H
  (fun H => W.getN 2 v1 H fun v12 H =>
   W.callQ Try.prog (.func (.func 114) #[] #[]) #[s_1, x_26] H fun v13 H =>
   W.callQ Try.prog (.func (.func 113) #[] #[]) #[v12, x_26, v13] H fun v14 H =>
   W.call Try.prog (.func (.func 92) #[] #[]) #[v5, x_26, v14] H fun v15 H =>
   W.bin .add x_26 (.int .i64 1) H fun v16 H =>
   I2 (v16, ()) H)
  (fun H => Q v5 H)
def f89.l1 (Q : Post) (v6 : Value) (v4 : Value) (v5 : Value) (v1 : Value) (s_1 : Value) (I1 : St [16] → Heap → Prop) (x_16 : Value) (H : Heap) : Prop :=
  W.bin .lss x_16 v6 H fun v7 H =>
  W.cond v7 H
  (fun H => W.make [(.int .i64 0)] 2 v4 v4 H fun v8 H =>
   W.indexAddr 1 v5 x_16 H fun v9 H =>
   W.put v9 v8 H fun _ H =>
   W.bin .add x_16 (.int .i64 1) H fun v10 H =>
   I1 (v10, ()) H)
  (fun H => W.loop (S := St [26]) (fun I2 s H => f89.l2 Q v4 v1 s_1 v5 I2 s.1 H) ((.int .i64 0), ()) H)
def f89.w (Q : Post) (p_0 : Value) (s_1 : Value) (H : Heap) : Prop :=
  W.box p_0 27 H fun v1 H =>
  W.fieldAddr 1 v1 H fun v2 H =>
  W.get v2 H fun v3 H =>
  W.len v3 H fun v4 H =>
  W.make [(.slice none 0 0)] 25 v4 v4 H fun v5 H =>
  W.len v5 H fun v6 H =>
  W.loop (S := St [16]) (fun I1 s H => f89.l1 Q v6 v4 v5 v1 s_1 I1 s.1 H) ((.int .i64 0), ()) H
theorem f89.enter {Q : Post} {p_0 : Value} {s_1 : Value} {H : Heap} (h : f89.w Q p_0 s_1 H) : Runs Try.prog 89 #[p_0, s_1] H Q :=
  fn_enter (ann := [(4, [16]), (9, [26])]) (by kernel_rfl) Try.func89 rfl (by kernel_rfl) h (by kernel_rfl)

/- (loop.example/g01343/impl.Problem).solve -/
def f57.l1 (Q : Post) (v8 : Value) (v3 : Value) (right_2 : Value) (v4 : Value) (v7 : Value) (I1 : St [26] → Heap → Prop) (x_26 : Value) (H : Heap) : Prop :=
  W.bin .lss x_26 v8 H fun v9 H =>
  W.cond v9 H
  (fun H => W.call Try.prog (.func (.func 91) #[] #[]) #[v3] H fun v10 H =>
   W.call Try.prog (.func (.func 92) #[] #[]) #[v10, x_26, right_2] H fun v11 H =>
   W.call Try.prog (.func (.func 93) #[] #[]) #[v4] H fun v12 H =>
   W.call Try.prog (.func (.func 90) #[] #[]) #[v10] H fun v13 H =>
   W.bin .mul v12 v13 H fun v14 H =>
   W.indexAddr 1 v7 x_26 H fun v15 H =>
   W.put v15 v14 H fun _ H =>
   W.bin .add x_26 (.int .i64 1) H fun v16 H =>
   I1 (v16, ()) H)
  (fun H => W.call Try.prog (.func (.func 94) #[] #[]) #[v4] H fun v17 H =>
   Q (.tuple #[v7, v17, (.bool true)]) H)
def f57.w (Q : Post) (p_0 : Value) (s_1 : Value) (right_2 : Value) (H : Heap) : Prop :=
  W.box p_0 27 H fun v1 H =>
  W.getN 2 v1 H fun v2 H =>
  W.call Try.prog (.func (.func 89) #[] #[]) #[v2, s_1] H fun v3 H =>
  W.call Try.prog (.func (.func 90) #[] #[]) #[v3] H fun v4 H =>
  W.bin .eql v4 (.int .i64 0) H fun v5 H =>
  W.cond v5 H
  (fun H => Q (.tuple #[(.slice none 0 0), (.int .i64 0), (.bool false)]) H)
  (fun H => W.len right_2 H fun v6 H =>
   W.make [(.int .i64 0)] 2 v6 v6 H fun v7 H =>
   W.len v7 H fun v8 H =>
   W.loop (S := St [26]) (fun I1 s H => f57.l1 Q v8 v3 right_2 v4 v7 I1 s.1 H) ((.int .i64 0), ()) H)
theorem f57.enter {Q : Post} {p_0 : Value} {s_1 : Value} {right_2 : Value} {H : Heap} (h : f57.w Q p_0 s_1 right_2 H) : Runs Try.prog 57 #[p_0, s_1, right_2] H Q :=
  fn_enter (ann := [(7, [26])]) (by kernel_rfl) Try.func57 rfl (by kernel_rfl) h (by kernel_rfl)

/- (loop.example/g01343/impl.Problem).point -/
def f37.w (Q : Post) (p_0 : Value) (s_1 : Value) (H : Heap) : Prop :=
  W.box p_0 27 H fun v1 H =>
  W.getN 2 v1 H fun v2 H =>
  W.fieldAddr 1 v1 H fun v3 H =>
  W.get v3 H fun v4 H =>
  W.call Try.prog (.func (.func 57) #[] #[]) #[v2, s_1, v4] H fun v5 H =>
  W.extract 0 v5 H fun v6 H =>
  W.extract 1 v5 H fun v7 H =>
  W.extract 2 v5 H fun v8 H =>
  Q (.tuple #[v6, v7, v8]) H
theorem f37.enter {Q : Post} {p_0 : Value} {s_1 : Value} {H : Heap} (h : f37.w Q p_0 s_1 H) : Runs Try.prog 37 #[p_0, s_1] H Q :=
  fn_enter (ann := []) (by kernel_rfl) Try.func37 rfl (by kernel_rfl) h (by kernel_rfl)

/- loop.example/g01343/impl.sign -/
def f93.w (Q : Post) (n_0 : Value) (H : Heap) : Prop :=
  W.bin .lss n_0 (.int .i64 0) H fun v1 H =>
  W.cond v1 H
  (fun H => Q (.int .i64 (-1)) H)
  (fun H => W.bin .gtr n_0 (.int .i64 0) H fun v2 H =>
   W.cond v2 H
   (fun H => Q (.int .i64 1) H)
   (fun H => Q (.int .i64 0) H))
theorem f93.enter {Q : Post} {n_0 : Value} {H : Heap} (h : f93.w Q n_0 H) : Runs Try.prog 93 #[n_0] H Q :=
  fn_enter (ann := []) (by kernel_rfl) Try.func93 rfl (by kernel_rfl) h (by kernel_rfl)


theorem range_set {n x : Nat} {f g : Nat → Int} {y : Int} (h : g x = y) (hk : ∀ k, k < n → k ≠ x → g k = f k) : ((List.range n).map f).set x y = (List.range n).map g := by
  apply List.ext_getElem
  · simp
  · intro k h1 h2
    rw [List.getElem_set]
    have hkn : k < n := by simpa using h2
    simp only [List.getElem_map, List.getElem_range]
    by_cases e : x = k
    · subst e; rw [if_pos rfl, h]
    · rw [if_neg e, hk k hkn fun g => e g.symm]

theorem fn114 {H0 : Heap} {Q : Post} {s i : Nat} (hs : s < 9223372036854775808) (hi : i ≤ 63) (hQ : Q (.bool (s.testBit i)) H0) : Runs Try.prog 114 #[.int .i64 (s : Nat), .int .i64 (i : Nat)] H0 Q := by
  refine f114.enter (Wi.shrN hs hi (Wi.and1 (Wi.eqlC (fun h => ?_) fun h => ?_)))
  · rw [bit_iff.1 h] at hQ; exact hQ
  · rw [show s.testBit i = false by cases hb : s.testBit i with | false => rfl | true => exact absurd (bit_iff.2 hb) h] at hQ
    exact hQ

theorem fn93 {H0 : Heap} {Q : Post} {x : Int} (hQ : Q (.int .i64 (sgI x)) H0) : Runs Try.prog 93 #[.int .i64 x] H0 Q := by
  unfold sgI at hQ
  refine f93.enter (Wi.lssC (fun h => Wi.tru ?_) fun h => Wi.fls (Wi.gtrC (fun h2 => Wi.tru ?_) fun h2 => Wi.fls ?_))
  · rw [if_pos h] at hQ; exact hQ
  · rw [if_neg h, if_pos h2] at hQ; exact hQ
  · rw [if_neg h, if_neg h2] at hQ; exact hQ

theorem fn92 {H : Heap} {Q : Post} {bs bc : List Nat} {v vc : Value} {xs : List (List Int)} {col : List Int} {i : Nat} (h : RSS.rel H bs [v] xs) (hn : bs.Nodup) (hrw : RW H bs) (hc : RS.rel H bc [vc] col) (hap : ∀ b ∈ bc, b ∉ bs)
    (hs : ∀ r ∈ xs, i < r.length) (hcl : xs.length ≤ col.length) (hQ : ∀ H', Marked RSS H bs [v] (putCol i col xs) H' → Q (.tuple #[]) H') : Runs Try.prog 92 #[v, .int .i64 (i : Nat), vc] H Q := by
  have hsm := (show Has RSS H [v] xs from ⟨_, h⟩).small
  refine f92.enter (Wl.lenH (show Has RSS H [v] xs from ⟨_, h⟩) ?_)
  refine W.for_rule xs.length (fun k s H' => s = (.int .i64 (k : Nat), ()) ∧ Marked RSS H bs [v] (putTo k i col xs) H') ⟨rfl, by rw [putTo_zero]; exact Marked.refl h hrw⟩ ?_
  rintro k s H1 J hk ⟨rfl, m⟩ hJ
  refine Wi.lssC (fun hlt => Wi.tru ?_) fun hge => Wi.fls ?_
  · have hkx : k < xs.length := by omega
    obtain ⟨u, fi, g1, g2, g3, g4, g5⟩ := rows_at m.rel hn m.rw (a := k) (by rw [putTo_len]; exact hkx)
    rw [putTo_at hkx] at g2
    have hc1 : Has RS H1 [vc] col := ⟨bc, Rd.frame _ hc m.next fun b hb => m.off b (Rd.low _ hc b hb) (hap b hb)⟩
    refine g1 .i64 _ (Wl.atIntH hc1 (i := k) (by omega) fun hy => Wi.setInt g2 g3 (hs _ (List.getElem_mem hkx)) hy fun H2 m2 => Wi.add (by unfold I64; omega) (hJ _ _ hkx ⟨rfl, ?_⟩))
    have := m.trans (g5 H2 _ m2)
    have e : col[k]'(by omega) = col.getD k 0 := by rw [atD]
    rw [e, putTo_step hkx] at this
    exact this
  · have : k = xs.length := by omega
    subst this
    rw [putTo_all] at m
    exact hQ _ m

theorem fn113 {H0 : Heap} {Q : Post} {cs : List Value} {p : Prob} {n i : Nat} {ofZ : Bool} (hr : Has RProblem H0 cs p) (hp : PB n p) (hi : i < n) (hQ : ∀ H' u, Fresh RS H0 [u] (columnV n p.1 ofZ i) H' → Q u H') :
    Runs Try.prog 113 #[.agg cs.toArray, .int .i64 (i : Nat), .bool ofZ] H0 Q := by
  obtain ⟨u1, u2, rfl, r1, r2⟩ := hasProb hr
  have hn := hp.n5; have hql := hp.ql; have hsq := hp.sq; have hl1 := hsq.1
  refine f113.enter ?_
  unfold f113.w
  have h := ((Loc.start H0).lent r1).lent r2
  refine Wl.box h fun H b h => Wi.fieldAddr (Wl.get h rfl (Wl.len h ?_))
  refine Wl.make (r := Rd.int) (z := 0) (fun _ => ⟨rfl, rfl, by unfold I64; omega⟩) h (by omega) (by decide) fun H u h => Wi.fieldAddr0 (Wl.get h rfl (Wl.len h ?_))
  have h := h.asData (i := 0) rfl
  have e0 : List.replicate p.2.length (0 : Int) = (List.range n).map fun _ => 0 := by
    rw [hql]
    apply List.ext_getElem <;> simp
  rw [e0] at h
  refine W.for_rule n (fun x s H => s = (.int .i64 (x : Nat), ()) ∧ Ab.Loc H0 [.data RS [u] ((List.range n).map fun k => if ofZ = true ∧ k < x then -(mAt p.1 k i) else 0), .box b [u1, u2], .lent RS [u2] p.2, .lent RSS [u1] p.1] H) ⟨rfl, by simpa using h⟩ ?_
  rintro x s H J hx ⟨rfl, h⟩ hJ
  have hI : I64 ((x : Int) + 1) := by unfold I64; omega
  refine Wi.lssC (fun hlt => Wi.tru ?_) fun hge => Wi.fls ?_
  · have hxn : x < n := by omega
    have hxl : x < p.1.length := by omega
    have hrl := hsq.2 _ (List.getElem_mem hxl)
    refine Wl.at1 rfl h hxl fun w hw => ?_
    cases ofZ with
    | true =>
      have hil : i < p.1[x].length := by omega
      have e1 : p.1[x][i] = mAt p.1 x i := (mAt_at hxl hil).symm
      have b1 := hp.m x i
      refine Wi.tru (Wl.atIntH hw hil fun _ => Wi.neg (by rw [e1]; unfold I64; omega) (Wl.setInt h (by simpa using hxn) (by rw [e1]; unfold I64; omega) fun H h => Wi.add hI (hJ _ _ hxn ⟨rfl, ?_⟩)))
      rw [e1, range_set (g := fun k => if true = true ∧ k < x + 1 then -(mAt p.1 k i) else 0) (by simp) (fun k _ hk => by
        by_cases g : k < x
        · simp [g, show k < x + 1 by omega]
        · simp [g, show ¬ k < x + 1 by omega])] at h
      exact h
    | false =>
      refine Wi.fls (Wi.add hI (hJ _ _ hxn ⟨rfl, ?_⟩))
      simpa using h
  · have : x = n := by omega
    subst this
    cases ofZ with
    | true =>
      simp only [gw]
      refine hQ _ _ ?_
      have e : columnV x p.1 true i = (List.range x).map fun k => if true = true ∧ k < x then -(mAt p.1 k i) else 0 := List.map_congr_left fun k hk => by
        rw [if_pos rfl, if_pos ⟨rfl, by simpa using hk⟩]
      rw [e]
      exact h.ret (i := 0) rfl
    | false =>
      simp only [gw]
      refine Wl.setInt h (by simpa using hi) (by unfold I64; omega) fun H h => hQ _ _ ?_
      rw [range_set (g := fun k => if k = i then 1 else 0) (by simp) (fun k _ hk => by simp [hk])] at h
      have e : columnV x p.1 false i = (List.range x).map fun k => if k = i then 1 else 0 := List.map_congr_left fun k hk => by simp
      rw [e]
      exact h.ret (i := 0) rfl

theorem fn89 {H0 : Heap} {Q : Post} {cs : List Value} {p : Prob} {n s : Nat} (hr : Has RProblem H0 cs p) (hp : PB n p) (hs : s < 9223372036854775808) (hQ : ∀ H' u, Fresh RSS H0 [u] (colL n p.1 s) H' → Q u H') :
    Runs Try.prog 89 #[.agg cs.toArray, .int .i64 (s : Nat)] H0 Q := by
  obtain ⟨u1, u2, rfl, r1, r2⟩ := hasProb hr
  have hn := hp.n5; have hql := hp.ql; have hsq := hp.sq; have hl1 := hsq.1
  refine f89.enter ?_
  unfold f89.w
  have h := ((Loc.start H0).lent hr).lent r2
  refine Wl.box h fun H b h => Wi.fieldAddr (Wl.get h rfl (Wl.len h ?_))
  rw [hql]
  refine Wl.make (r := RS) (z := []) (fun _ => .inl ⟨rfl, rfl, .inl rfl⟩) h (by omega) (by decide) fun H v h => Wl.len h ?_
  obtain ⟨us, hus, h⟩ := h.headsE (i := 0) rfl rfl
  have e0 : List.replicate n ([] : List Int) = (List.range n).map fun r => if r < 0 then List.replicate n 0 else [] := by
    apply List.ext_getElem <;> simp
  rw [e0] at h
  rw [List.length_replicate]
  refine W.for_rule n (fun x st H => st = (.int .i64 (x : Nat), ()) ∧ ∃ us, Ab.Loc H0 [.rowsE RS v us ((List.range n).map fun r => if r < x then List.replicate n 0 else []), .box b [u1, u2], .lent RS [u2] p.2, .lent RProblem [u1, u2] p] H) ⟨rfl, us, h⟩ ?_
  rintro x st H J hx ⟨rfl, us, h⟩ hJ
  refine Wi.lssC (fun hlt => Wi.tru ?_) fun hge => Wi.fls ?_
  · have hxn : x < n := by omega
    refine Wl.make (r := Rd.int) (z := 0) (fun _ => ⟨rfl, rfl, by unfold I64; omega⟩) h (by omega) (by decide) fun H u h => ?_
    have h := h.asData (i := 0) rfl
    refine Wl.putRowE rfl h (i := 1) (j := 0) (by simpa using hxn) (by omega) fun H h => Wi.add (by unfold I64; omega) (hJ _ _ hxn ⟨rfl, us.set x u, ?_⟩)
    have e : ((List.range n).map fun r => if r < x then List.replicate n (0 : Int) else []).set x (List.replicate n 0) = (List.range n).map fun r => if r < x + 1 then List.replicate n 0 else [] := by
      apply List.ext_getElem
      · simp
      · intro k h1 h2
        rw [List.getElem_set]
        simp only [List.getElem_map, List.getElem_range]
        by_cases g : x = k
        · subst g; simp
        · rw [if_neg g]
          by_cases g2 : k < x
          · rw [if_pos g2, if_pos (by omega)]
          · rw [if_neg g2, if_neg (by omega)]
    have h := h.tl
    rw [e] at h
    exact h
  have : x = n := by omega
  subst this
  have h := h.unrowsE (i := 0) rfl
  have e1 : ((List.range x).map fun r => if r < x then List.replicate x (0 : Int) else []) = colTo x p.1 s 0 := by
    unfold colTo tabL
    refine List.map_congr_left fun r hr => ?_
    rw [if_pos (by simpa using hr)]
    apply List.ext_getElem <;> simp
  rw [e1] at h
  refine W.for_rule x (fun i st H => st = (.int .i64 (i : Nat), ()) ∧ Ab.Loc H0 [.data RSS [v] (colTo x p.1 s i), .box b [u1, u2], .lent RS [u2] p.2, .lent RProblem [u1, u2] p] H) ⟨rfl, h⟩ ?_
  rintro i st H J2 hi ⟨rfl, h⟩ hJ2
  refine Wi.lssC (fun hlt => Wi.tru ?_) fun hge => Wi.fls ?_
  · have hin : i < x := by omega
    refine Wl.getA h rfl (Wi.callQ (fn114 hs (by omega) ⟨.refl _, Wi.callQ (fn113 (h.rd (cs := [u1, u2])) hp hin fun H1 u f => ⟨f.le, ?_⟩)⟩))
    have h := h.add f
    obtain ⟨bs, bc, g1, g2, g3, g4, g5, g6⟩ := h.apart (i := 1) (j := 0) rfl rfl (by omega)
    have hsq2 := tabL_sq x fun r c => if c < i then colE p.1 s r c else 0
    refine Wi.call (fn92 g1 g2 g3 g4 g5 (fun r hr => by rw [hsq2.2 r hr]; exact hin) (by rw [show (colTo x p.1 s i).length = x from hsq2.1]; simp [columnV]) fun H2 m => Wi.add (by unfold I64; omega) (hJ2 _ _ hin ⟨rfl, ?_⟩))
    have h := (g6 _ _ m).tl
    rw [colTo_step hin] at h
    exact h
  · have : i = x := by omega
    subst this
    rw [colTo_all] at h
    exact hQ _ _ (h.ret (i := 0) rfl)

theorem fn57 {H0 : Heap} {Q : Post} {cs : List Value} {vr : Value} {p : Prob} {n s : Nat} {right : List Int} (hr : Has RProblem H0 cs p) (hp : PB n p) (hs : s < 9223372036854775808) (hx : Has RS H0 [vr] right) (hrl : right.length = n) (hrb : ∀ e ∈ right, e.natAbs ≤ 100)
    (h1 : det n (mAt (colL n p.1 s)) = 0 → ∀ H', H0.Le H' → Q (.tuple #[.slice none 0 0, .int .i64 0, .bool false]) H')
    (h2 : det n (mAt (colL n p.1 s)) ≠ 0 → ∀ H' u, Fresh RS H0 [u] (pointL n (colL n p.1 s) right) H' → Q (.tuple #[u, .int .i64 (det n (mAt (colL n p.1 s))).natAbs, .bool true]) H') :
    Runs Try.prog 57 #[.agg cs.toArray, .int .i64 (s : Nat), vr] H0 Q := by
  obtain ⟨u1, u2, rfl, r1, r2⟩ := hasProb hr
  have hn := hp.n5
  refine f57.enter ?_
  unfold f57.w
  have h := ((Loc.start H0).lent hr).lent hx
  have hcs := tabL_sq n (colE p.1 s)
  have hcr := colL_rows (m := p.1) s hn fun r c _ _ => hp.m r c
  refine Wl.box h fun H b h => Wl.getA h rfl (Wi.call (fn89 (h.rd (cs := [u1, u2])) hp hs fun H vr' f => ?_))
  have h := h.add f
  refine Wi.call (fn90 (h.rd (cs := [vr'])) hcs hn hcr fun H l => ?_)
  have h := h.to l
  have hD := det200 hn hcr
  refine Wi.eqlC (fun hz => Wi.tru (h1 hz _ h.le)) fun hnz => Wi.fls (Wl.len h ?_)
  rw [hrl]
  refine Wl.make (r := Rd.int) (z := 0) (fun _ => ⟨rfl, rfl, by unfold I64; omega⟩) h (by omega) (by decide) fun H u h => Wl.len h ?_
  have h := h.asData (i := 0) rfl
  rw [List.length_replicate]
  have e0 : List.replicate n (0 : Int) = (List.range n).map fun k => if k < 0 then sgI (det n (mAt (colL n p.1 s))) * det n (mAt (putCol k right (colL n p.1 s))) else 0 := by
    apply List.ext_getElem <;> simp
  rw [e0] at h
  refine W.for_rule n (fun x st H => st = (.int .i64 (x : Nat), ()) ∧ Ab.Loc H0 [.data RS [u] ((List.range n).map fun k => if k < x then sgI (det n (mAt (colL n p.1 s))) * det n (mAt (putCol k right (colL n p.1 s))) else 0), .data RSS [vr'] (colL n p.1 s), .box b [u1, u2], .lent RS [vr] right, .lent RProblem [u1, u2] p] H) ⟨rfl, h⟩ ?_
  rintro x st H J hxx ⟨rfl, h⟩ hJ
  refine Wi.lssC (fun hlt => Wi.tru ?_) fun hge => Wi.fls ?_
  · have hxn : x < n := by omega
    refine Wi.call (fn91 (h.rd (cs := [vr'])) ⟨by rw [show (colL n p.1 s).length = n from hcs.1]; omega, fun r hr => by rw [hcs.2 r hr]; omega⟩ fun H w g => ?_)
    have h := (h.add g.fresh)
    obtain ⟨bs, bc, g1, g2, g3, g4, g5, g6⟩ := h.apartL (i := 0) rfl hx
    refine Wi.call (fn92 g1 g2 g3 g4 g5 (fun r hr => by rw [hcs.2 r hr]; exact hxn) (by rw [show (colL n p.1 s).length = n from hcs.1, hrl]; exact Nat.le_refl _) fun H2 m => ?_)
    have h := g6 _ _ m
    have hpr := putCol_rows (k := x) hcs hn (fun r c hr hc => by rw [show mAt (tabL n (colE p.1 s)) r c = colE p.1 s r c from tabL_at hr hc]; exact colE_abs (hp.m r c)) hrb hxn
    have hpd := det200 hn hpr
    refine Wi.call (fn93 (Wi.call (fn90 (h.rd (cs := [w])) (putCol_sq hcs) hn hpr fun H l => ?_)))
    have h := (h.to l).tl
    have hI : (sgI (det n (mAt (colL n p.1 s))) * det n (mAt (putCol x right (colL n p.1 s)))).natAbs ≤ 1 * 320000000000 := mulA (sgI_abs _) hpd
    refine Wi.mul (i64A hI (by decide)) (Wl.setInt h (by simpa using hxn) (i64A hI (by decide)) fun H h => Wi.add (by unfold I64; omega) (hJ _ _ hxn ⟨rfl, ?_⟩))
    rw [range_set (g := fun k => if k < x + 1 then sgI (det n (mAt (colL n p.1 s))) * det n (mAt (putCol k right (colL n p.1 s))) else 0) (by simp) (fun k _ hk => by
      by_cases g : k < x
      · rw [if_pos g, if_pos (by omega)]
      · rw [if_neg g, if_neg (by omega)])] at h
    exact h
  · have : x = n := by omega
    subst this
    refine Wi.call (fn94 (by unfold B64; unfold colL at hD; unfold colL; omega) ?_)
    have e : pointL x (colL x p.1 s) right = (List.range x).map fun k => if k < x then sgI (det x (mAt (colL x p.1 s))) * det x (mAt (putCol k right (colL x p.1 s))) else 0 := by
      unfold pointL solveL
      rw [List.map_map]
      refine List.map_congr_left fun k hk => ?_
      rw [if_pos (by simpa using hk)]
      rfl
    refine h2 hnz _ _ ?_
    rw [e]
    exact h.ret (i := 0) rfl

theorem fn37 {H0 : Heap} {Q : Post} {cs : List Value} {p : Prob} {n s : Nat} (hr : Has RProblem H0 cs p) (hp : PB n p) (hs : s < 9223372036854775808)
    (h1 : det n (mAt (colL n p.1 s)) = 0 → ∀ H', H0.Le H' → Q (.tuple #[.slice none 0 0, .int .i64 0, .bool false]) H')
    (h2 : det n (mAt (colL n p.1 s)) ≠ 0 → ∀ H' u, Fresh RS H0 [u] (pointL n (colL n p.1 s) p.2) H' → Q (.tuple #[u, .int .i64 (det n (mAt (colL n p.1 s))).natAbs, .bool true]) H') :
    Runs Try.prog 37 #[.agg cs.toArray, .int .i64 (s : Nat)] H0 Q := by
  obtain ⟨u1, u2, rfl, r1, r2⟩ := hasProb hr
  refine f37.enter ?_
  unfold f37.w
  have h := ((Loc.start H0).lent hr).lent r2
  refine Wl.box h fun H b h => Wl.getA h rfl (Wi.fieldAddr (Wl.get h rfl (Wi.call (fn57 (h.rd (cs := [u1, u2])) hp hs (h.rd (cs := [u2])) hp.ql hp.q (fun hz H l => ?_) fun hnz H u f => ?_))))
  · simp only [gw]
    exact h1 hz _ (h.to l).le
  · simp only [gw]
    exact h2 hnz _ _ ((h.add f).ret (i := 0) rfl)

end Go.Proofs.Ythfcodelpebjcaa
