/- Contracts of the program's table: what only reads. No condition. -/
import Derived.Test.YtbcfknboheghkaaGreatGLH
import Derived.Test.YtbcfknboheghkaaGreatGVV
import Derived.Test.YtbcfknboheghkaaGreatGLL
import Derived.Test.YtbcfknboheghkaaGreatZabG8
import Derived.Test.YtbcfknboheghkaaGreatGAA
import Derived.Test.YtbcfknboheghkaaGreatGGM
namespace Go.Proofs.YtbcfknboheghkaaGreat
open Go.Ab

/- (*loop.example/g01343/impl.table).right -/
def f114.w (Q : Post) (t_0 : Value) (i_1 : Value) (H : Heap) : Prop :=
  W.nilCheck t_0 H fun v1 H =>
  W.fieldAddr 0 v1 H fun v2 H =>
  W.get v2 H fun v3 H =>
  W.indexAddr 1 v3 i_1 H fun v4 H =>
  W.get v4 H fun v5 H =>
  W.nilCheck t_0 H fun v6 H =>
  W.fieldAddr 0 v6 H fun v7 H =>
  W.get v7 H fun v8 H =>
  W.indexAddr 1 v8 i_1 H fun v9 H =>
  W.get v9 H fun v10 H =>
  W.len v10 H fun v11 H =>
  W.bin .sub v11 (.int .i64 1) H fun v12 H =>
  W.indexAddr 1 v5 v12 H fun v13 H =>
  W.get v13 H fun v14 H =>
  Q v14 H
theorem f114.enter {Q : Post} {t_0 : Value} {i_1 : Value} {H : Heap} (h : f114.w Q t_0 i_1 H) : Runs Tryz.prog 114 #[t_0, i_1] H Q :=
  fn_enter (ann := []) (by kernel_rfl) Tryz.func114 rfl (by kernel_rfl) h (by kernel_rfl)

/- (*loop.example/g01343/impl.table).key -/
def f158.w (Q : Post) (t_0 : Value) (i_1 : Value) (H : Heap) : Prop :=
  W.callQ Tryz.prog (.func (.func 114) #[] #[]) #[t_0, i_1] H fun v1 H =>
  W.lit 1 [(.int .i64 0)] 2 [(0, 1, v1)] H fun v2 H =>
  W.nilCheck t_0 H fun v3 H =>
  W.fieldAddr 0 v3 H fun v4 H =>
  W.get v4 H fun v5 H =>
  W.indexAddr 1 v5 i_1 H fun v6 H =>
  W.get v6 H fun v7 H =>
  W.nilCheck t_0 H fun v8 H =>
  W.fieldAddr 3 v8 H fun v9 H =>
  W.get v9 H fun v10 H =>
  W.slice 1 v7 none (some v10) H fun v11 H =>
  W.append 1 2 v2 v11 H fun v12 H =>
  Q v12 H
theorem f158.enter {Q : Post} {t_0 : Value} {i_1 : Value} {H : Heap} (h : f158.w Q t_0 i_1 H) : Runs Tryz.prog 158 #[t_0, i_1] H Q :=
  fn_enter (ann := []) (by kernel_rfl) Tryz.func158 rfl (by kernel_rfl) h (by kernel_rfl)

/- (*loop.example/g01343/impl.table).isLess -/
def f141.w (Q : Post) (t_0 : Value) (i_1 : Value) (by_2 : Value) (k_3 : Value) (other_4 : Value) (H : Heap) : Prop :=
  W.box by_2 2 H fun v1 H =>
  W.box other_4 2 H fun v2 H =>
  W.call Tryz.prog (.func (.func 158) #[] #[]) #[t_0, i_1] H fun v3 H =>
  W.call Tryz.prog (.func (.func 158) #[] #[]) #[t_0, k_3] H fun v4 H =>
  W.call Tryz.prog (.func (.func 157) #[] #[]) #[v3, v4, (.func (.func 159) #[] #[v2, v1])] H fun v5 H =>
  W.bin .lss v5 (.int .i64 0) H fun v6 H =>
  Q v6 H
theorem f141.enter {Q : Post} {t_0 : Value} {i_1 : Value} {by_2 : Value} {k_3 : Value} {other_4 : Value} {H : Heap} (h : f141.w Q t_0 i_1 by_2 k_3 other_4 H) : Runs Tryz.prog 141 #[t_0, i_1, by_2, k_3, other_4] H Q :=
  fn_enter (ann := []) (by kernel_rfl) Tryz.func141 rfl (by kernel_rfl) h (by kernel_rfl)

/- (*loop.example/g01343/impl.table).isLess$1 -/
def f159.w (Q : Post) (a_0 : Value) (b_1 : Value) (x_2 : Value) (x_3 : Value) (H : Heap) : Prop :=
  W.get x_2 H fun v1 H =>
  W.bin .mul a_0 v1 H fun v2 H =>
  W.get x_3 H fun v3 H =>
  W.bin .mul b_1 v3 H fun v4 H =>
  W.bin .sub v2 v4 H fun v5 H =>
  W.call Tryz.prog (.func (.func 152) #[] #[]) #[v5] H fun v6 H =>
  Q v6 H
theorem f159.enter {Q : Post} {a_0 : Value} {b_1 : Value} {x_2 : Value} {x_3 : Value} {H : Heap} (h : f159.w Q a_0 b_1 x_2 x_3 H) : Runs Tryz.prog 159 #[a_0, b_1, x_2, x_3] H Q :=
  fn_enter (ann := []) (by kernel_rfl) Tryz.func159 rfl (by kernel_rfl) h (by kernel_rfl)

/- (*loop.example/g01343/impl.table).least -/
def f110.j1 (Q : Post) (x_12 : Value) (I1 : St [5, 12] → Heap → Prop) (best_5' : Value) (H : Heap) : Prop :=
  W.bin .add x_12 (.int .i64 1) H fun v23 H =>
  I1 (best_5', v23, ()) H
def f110.l1 (Q : Post) (v4 : Value) (by_1 : Value) (t_0 : Value) (I1 : St [5, 12] → Heap → Prop) (best_5 : Value) (x_12 : Value) (H : Heap) : Prop :=
  W.bin .lss x_12 v4 H fun v5 H =>
  W.cond v5 H
  (fun H => W.call Tryz.prog by_1 #[x_12] H fun v6 H =>
   W.bin .gtr v6 (.int .i64 0) H fun v7 H =>
   W.guarded v7 true (fun H k => k best_5 H) H fun v8 H =>
   W.guarded v7 true (fun H k => W.bin .lss v8 (.int .i64 0) H k) H fun v9 H =>
   W.guarded v7 true (fun H k => k v9 H) H fun v10 H =>
   W.guarded v10 false (fun H k => k t_0 H) H fun v11 H =>
   W.guarded v10 false (fun H k => k x_12 H) H fun v12 H =>
   W.guarded v10 false (fun H k => k by_1 H) H fun v13 H =>
   W.guarded v10 false (fun H k => k x_12 H) H fun v14 H =>
   W.guarded v10 false (fun H k => W.call Tryz.prog v13 #[v14] H k) H fun v15 H =>
   W.guarded v10 false (fun H k => k best_5 H) H fun v16 H =>
   W.guarded v10 false (fun H k => k by_1 H) H fun v17 H =>
   W.guarded v10 false (fun H k => k best_5 H) H fun v18 H =>
   W.guarded v10 false (fun H k => W.call Tryz.prog v17 #[v18] H k) H fun v19 H =>
   W.guarded v10 false (fun H k => W.call Tryz.prog (.func (.func 141) #[] #[]) #[v11, v12, v15, v16, v19] H k) H fun v20 H =>
   W.guarded v7 true (fun H k => W.pick v10 (.bool true) v20 H k) H fun v21 H =>
   W.pick v7 v21 (.bool false) H fun v22 H =>
   W.cond v22 H
   (fun H => f110.j1 Q x_12 I1 x_12 H)
   (fun H => f110.j1 Q x_12 I1 best_5 H))
  (fun H => Q best_5 H)
def f110.w (Q : Post) (t_0 : Value) (by_1 : Value) (H : Heap) : Prop :=
  W.nilCheck t_0 H fun v1 H =>
  W.fieldAddr 0 v1 H fun v2 H =>
  W.get v2 H fun v3 H =>
  W.len v3 H fun v4 H =>
  W.loop (S := St [5, 12]) (fun I1 s H => f110.l1 Q v4 by_1 t_0 I1 s.1 s.2.1 H) ((.int .i64 (-1)), (.int .i64 0), ()) H
theorem f110.enter {Q : Post} {t_0 : Value} {by_1 : Value} {H : Heap} (h : f110.w Q t_0 by_1 H) : Runs Tryz.prog 110 #[t_0, by_1] H Q :=
  fn_enter (ann := [(3, [5, 12])]) (by kernel_rfl) Tryz.func110 rfl (by kernel_rfl) h (by kernel_rfl)

/- (*loop.example/g01343/impl.table).enterBy -/
def f53.w (Q : Post) (t_0 : Value) (v_1 : Value) (H : Heap) : Prop :=
  W.box t_0 77 H fun v1 H =>
  W.box v_1 3 H fun v2 H =>
  W.get v1 H fun v3 H =>
  W.call Tryz.prog (.func (.func 110) #[] #[]) #[v3, (.func (.func 111) #[] #[v1, v2])] H fun v4 H =>
  Q v4 H
theorem f53.enter {Q : Post} {t_0 : Value} {v_1 : Value} {H : Heap} (h : f53.w Q t_0 v_1 H) : Runs Tryz.prog 53 #[t_0, v_1] H Q :=
  fn_enter (ann := []) (by kernel_rfl) Tryz.func53 rfl (by kernel_rfl) h (by kernel_rfl)

/- (*loop.example/g01343/impl.table).enterBy$1 -/
def f111.w (Q : Post) (i_0 : Value) (x_1 : Value) (x_2 : Value) (H : Heap) : Prop :=
  W.get x_1 H fun v1 H =>
  W.nilCheck v1 H fun v2 H =>
  W.fieldAddr 0 v2 H fun v3 H =>
  W.get v3 H fun v4 H =>
  W.indexAddr 1 v4 i_0 H fun v5 H =>
  W.get v5 H fun v6 H =>
  W.get x_2 H fun v7 H =>
  W.indexAddr 1 v6 v7 H fun v8 H =>
  W.get v8 H fun v9 H =>
  Q v9 H
theorem f111.enter {Q : Post} {i_0 : Value} {x_1 : Value} {x_2 : Value} {H : Heap} (h : f111.w Q i_0 x_1 x_2 H) : Runs Tryz.prog 111 #[i_0, x_1, x_2] H Q :=
  fn_enter (ann := []) (by kernel_rfl) Tryz.func111 rfl (by kernel_rfl) h (by kernel_rfl)

/- (*loop.example/g01343/impl.table).partner -/
def f56.w (Q : Post) (t_0 : Value) (v_1 : Value) (H : Heap) : Prop :=
  W.nilCheck t_0 H fun v1 H =>
  W.fieldAddr 3 v1 H fun v2 H =>
  W.get v2 H fun v3 H =>
  W.bin .lss v_1 v3 H fun v4 H =>
  W.cond v4 H
  (fun H => W.nilCheck t_0 H fun v5 H =>
   W.fieldAddr 3 v5 H fun v6 H =>
   W.get v6 H fun v7 H =>
   W.bin .add v_1 v7 H fun v8 H =>
   Q v8 H)
  (fun H => W.nilCheck t_0 H fun v9 H =>
   W.fieldAddr 3 v9 H fun v10 H =>
   W.get v10 H fun v11 H =>
   W.bin .sub v_1 v11 H fun v12 H =>
   Q v12 H)
theorem f56.enter {Q : Post} {t_0 : Value} {v_1 : Value} {H : Heap} (h : f56.w Q t_0 v_1 H) : Runs Tryz.prog 56 #[t_0, v_1] H Q :=
  fn_enter (ann := []) (by kernel_rfl) Tryz.func56 rfl (by kernel_rfl) h (by kernel_rfl)

/- slices.CompareFunc[[]int64,[]int64,int64,int64] -/
def f157.l1 (Q : Post) (v1 : Value) (s1_0 : Value) (s2_1 : Value) (cmp_2 : Value) (I1 : St [13] → Heap → Prop) (x_13 : Value) (H : Heap) : Prop :=
  W.bin .lss x_13 v1 H fun v2 H =>
  W.cond v2 H
  (fun H => W.indexAddr 1 s1_0 x_13 H fun v3 H =>
   W.get v3 H fun v4 H =>
   W.len s2_1 H fun v5 H =>
   W.bin .geq x_13 v5 H fun v6 H =>
   W.cond v6 H
   (fun H => Q (.int .i64 1) H)
   (fun H => W.indexAddr 1 s2_1 x_13 H fun v7 H =>
    W.get v7 H fun v8 H =>
    W.call Tryz.prog cmp_2 #[v4, v8] H fun v9 H =>
    W.bin .neq v9 (.int .i64 0) H fun v10 H =>
    W.cond v10 H
    (fun H => Q v9 H)
    (fun H => W.bin .add x_13 (.int .i64 1) H fun v11 H =>
     I1 (v11, ()) H)))
  (fun H => W.len s1_0 H fun v12 H =>
   W.len s2_1 H fun v13 H =>
   W.bin .lss v12 v13 H fun v14 H =>
   W.cond v14 H
   (fun H => Q (.int .i64 (-1)) H)
   (fun H => Q (.int .i64 0) H))
def f157.w (Q : Post) (s1_0 : Value) (s2_1 : Value) (cmp_2 : Value) (H : Heap) : Prop :=
  W.len s1_0 H fun v1 H =>
  W.loop (S := St [13]) (fun I1 s H => f157.l1 Q v1 s1_0 s2_1 cmp_2 I1 s.1 H) ((.int .i64 0), ()) H
theorem f157.enter {Q : Post} {s1_0 : Value} {s2_1 : Value} {cmp_2 : Value} {H : Heap} (h : f157.w Q s1_0 s2_1 cmp_2 H) : Runs Tryz.prog 157 #[s1_0, s2_1, cmp_2] H Q :=
  fn_enter (ann := [(2, [13])]) (by kernel_rfl) Tryz.func157 rfl (by kernel_rfl) h (by kernel_rfl)


theorem leastTo_no {n v i : Nat} {rows : List (List Int)} (h : ¬ (0 < mAt rows i v ∧ (leastTo n rows v i < 0 ∨ keyLess n rows v i (leastTo n rows v i).toNat))) : leastTo n rows v (i + 1) = leastTo n rows v i := if_neg h

/-- A table's variable. -/
structure TK (H : Heap) (b : Nat) (u : Value) (d : Int) (w : Value) (n : Nat) : Prop where
  lt : b < H.next
  blk : ∃ ty e, H.blk b = some ⟨[u, .int .i64 d, w, .int .i64 (n : Nat)], ty, e, false⟩

section
variable {H H' : Heap} {b n : Nat} {u w : Value} {d : Int} {K : Post}

theorem TK.le (k : TK H b u d w n) (l : H.Le H') : TK H' b u d w n := by
  obtain ⟨ty, e, h⟩ := k.blk
  exact ⟨by have := k.lt; have := l.next; omega, ty, e, l.at h k.lt⟩

theorem TK.g0 (k : TK H b u d w n) (c : K u H) : W.nilCheck (pt b 0) H fun v H => W.fieldAddr 0 v H fun v H => W.get v H K := by
  obtain ⟨ty, e, h⟩ := k.blk
  exact Wi.nilP (Wi.fieldAddr (Wi.get h rfl c))
theorem TK.g1 (k : TK H b u d w n) (c : K (.int .i64 d) H) : W.nilCheck (pt b 0) H fun v H => W.fieldAddr 1 v H fun v H => W.get v H K := by
  obtain ⟨ty, e, h⟩ := k.blk
  exact Wi.nilP (Wi.fieldAddr (Wi.get h rfl c))
theorem TK.g2 (k : TK H b u d w n) (c : K w H) : W.nilCheck (pt b 0) H fun v H => W.fieldAddr 2 v H fun v H => W.get v H K := by
  obtain ⟨ty, e, h⟩ := k.blk
  exact Wi.nilP (Wi.fieldAddr (Wi.get h rfl c))
theorem TK.g3 (k : TK H b u d w n) (c : K (.int .i64 (n : Nat)) H) : W.nilCheck (pt b 0) H fun v H => W.fieldAddr 3 v H fun v H => W.get v H K := by
  obtain ⟨ty, e, h⟩ := k.blk
  exact Wi.nilP (Wi.fieldAddr (Wi.get h rfl c))

end

/-- Rows of a table: n rows of 2 n + 1 numbers that are not too large. -/
structure RowsT (n : Nat) (rows : List (List Int)) : Prop where
  n5 : n ≤ 5
  rl : rows.length = n
  rw : ∀ r ∈ rows, r.length = 2 * n + 1
  ab : ∀ i c, i < n → c < 2 * n + 1 → (mAt rows i c).natAbs ≤ 384000000

section
variable {n : Nat} {rows : List (List Int)}

theorem RowsT.at (h : RowsT n rows) {i c : Nat} (hi : i < rows.length) (hc : c < rows[i].length) : rows[i][c] = mAt rows i c := by
  unfold mAt
  rw [show rows.getD i [] = rows[i] by simp [List.getD_eq_getElem?_getD, List.getElem?_eq_getElem hi], atD hc]

def keyL (n : Nat) (rows : List (List Int)) (i : Nat) : List Int := mAt rows i (2 * n) :: (rows.getD i []).take n

theorem keyL_len (h : RowsT n rows) {i : Nat} (hi : i < n) : (keyL n rows i).length = n + 1 := by
  have hi2 : i < rows.length := by rw [h.rl]; exact hi
  have := h.rw _ (List.getElem_mem hi2)
  unfold keyL
  rw [show rows.getD i [] = rows[i] by simp [List.getD_eq_getElem?_getD, List.getElem?_eq_getElem hi2]]
  simp
  omega

theorem keyL_at (h : RowsT n rows) {i : Nat} (hi : i < n) {j : Nat} (hj : j < n + 1) : (keyL n rows i).getD j 0 = keyF (lhW n) (mAt rows) i j := by
  have hi2 : i < rows.length := by rw [h.rl]; exact hi
  have hl := h.rw _ (List.getElem_mem hi2)
  unfold keyL keyF lhW
  cases j with
  | zero => rfl
  | succ j =>
    rw [if_neg (by omega)]
    show ((rows.getD i []).take n).getD j 0 = mAt rows i (j + 1 - 1)
    unfold mAt
    simp [List.getD_eq_getElem?_getD, List.getElem?_take, show j < n by omega]

end

section
variable {H0 : Heap} {Q : Post} {b n : Nat} {u w : Value} {d : Int} {rows : List (List Int)} {bas : List Int}

theorem fn114 (k : TK H0 b u d w n) (hR : Has RSS H0 [u] rows) (hT : RowsT n rows) {i : Nat} (hi : i < n) (hQ : Q (.int .i64 (mAt rows i (2 * n))) H0) : Runs Tryz.prog 114 #[pt b 0, .int .i64 (i : Nat)] H0 Q := by
  have hi2 : i < rows.length := by rw [hT.rl]; exact hi
  have hl := hT.rw _ (List.getElem_mem hi2)
  have n5 := hT.n5
  refine f114.enter ?_
  unfold f114.w
  refine k.g0 (Wl.at1H rfl hR hi2 fun r hr => k.g0 (Wl.at1H rfl hR hi2 fun r2 hr2 => Wl.lenH hr2 (Wi.sub (by unfold I64; omega) ?_)))
  rw [hl, show ((2 * n + 1 : Nat) : Int) - 1 = (2 * n : Nat) by omega]
  refine Wl.atIntH hr (i := 2 * n) (by omega) fun _ => ?_
  rw [hT.at]
  exact hQ

theorem fn158 (k : TK H0 b u d w n) (hR : Has RSS H0 [u] rows) (hT : RowsT n rows) {i : Nat} (hi : i < n) (hQ : ∀ H' v, Fresh RS H0 [v] (keyL n rows i) H' → Q v H') : Runs Tryz.prog 158 #[pt b 0, .int .i64 (i : Nat)] H0 Q := by
  have hi2 : i < rows.length := by rw [hT.rl]; exact hi
  have hl := hT.rw _ (List.getElem_mem hi2)
  have n5 := hT.n5
  have ha := hT.ab i (2 * n) hi (by omega)
  refine f158.enter ?_
  unfold f158.w
  refine Wi.callQ (fn114 k hR hT hi ⟨.refl _, ?_⟩)
  refine Wl.litG [mAt rows i (2 * n)] rfl (by simp) (fun x hx => by rw [List.mem_singleton] at hx; rw [hx]; unfold I64; omega) rfl (Loc.start H0) fun H v h => ?_
  refine (k.le h.le).g0 (Wl.at1H rfl (hR.le h.le) hi2 fun r hr => (k.le h.le).g3 (Wl.cutLoH hr (k := n) (by omega) fun w hw => ?_))
  refine Wl.appendH (r := Rd.int) (i := 0) rfl h rfl hw (by simp; omega) fun H' v' h => ?_
  have := hQ H' v' ?_
  · exact this
  · have e : keyL n rows i = [mAt rows i (2 * n)] ++ rows[i].take n := by
      unfold keyL
      rw [show rows.getD i [] = rows[i] by simp [List.getD_eq_getElem?_getD, List.getElem?_eq_getElem hi2]]
      rfl
    rw [e]
    exact h.retG (i := 0) rfl

/-- Keys compared. -/
theorem fn157 {va vb : Value} {xs ys : List Int} {m b1 b2 : Nat} {p q : Int} (hx : Has RS H0 [va] xs) (hy : Has RS H0 [vb] ys) (hl : xs.length = m) (hl2 : ys.length = m) (h1 : ∃ ty e, H0.blk b1 = some ⟨[.int .i64 p], ty, e, false⟩) (h2 : ∃ ty e, H0.blk b2 = some ⟨[.int .i64 q], ty, e, false⟩)
    (hp : p.natAbs ≤ 384000000) (hq : q.natAbs ≤ 384000000) (hxa : ∀ x ∈ xs, x.natAbs ≤ 384000000) (hya : ∀ x ∈ ys, x.natAbs ≤ 384000000)
    (hQ : ∀ c : Int, (c < 0 ↔ lexLt m (fun j => p * xs.getD j 0) fun j => q * ys.getD j 0) → Q (.int .i64 c) H0) :
    Runs Tryz.prog 157 #[va, vb, .func (.func 159) #[] #[pt b1 0, pt b2 0]] H0 Q := by
  obtain ⟨ty1, e1, k1⟩ := h1
  obtain ⟨ty2, e2, k2⟩ := h2
  have hs := hx.small
  refine f157.enter (Wl.lenH hx ?_)
  rw [hl]
  refine W.for_rule m (fun i st H => H = H0 ∧ st = (.int .i64 (i : Nat), ()) ∧ ∀ j, j < i → p * xs.getD j 0 = q * ys.getD j 0) ⟨rfl, rfl, fun j hj => by omega⟩ ?_
  rintro i st H J hi ⟨rfl, rfl, hbef⟩ hJ
  refine Wi.lssC (fun hlt => Wi.tru ?_) fun hge => Wi.fls ?_
  · have him : i < m := by omega
    have hix : i < xs.length := by omega
    have hiy : i < ys.length := by omega
    have ex : xs.getD i 0 = xs[i] := atD hix
    have ey : ys.getD i 0 = ys[i] := atD hiy
    have ax := hxa _ (List.getElem_mem hix)
    have ay := hya _ (List.getElem_mem hiy)
    have m1 := mulA ax hp
    have m2 := mulA ay hq
    refine Wl.atIntH hx hix fun _ => Wl.lenH hy (Wi.geqC (fun g => absurd g (by omega)) fun _ => Wi.fls (Wl.atIntH hy hiy fun _ => ?_))
    refine Wi.callV (f159.enter ?_)
    unfold f159.w
    refine Wi.get k1 rfl (Wi.mul (by unfold I64; omega) (Wi.get k2 rfl (Wi.mul (by unfold I64; omega) (Wi.sub (by unfold I64; omega) (Wi.call (fn152 ?_))))))
    by_cases e : p * xs.getD i 0 = q * ys.getD i 0
    · have e0 : xs[i] * p - ys[i] * q = 0 := by
        rw [ex, ey] at e
        rw [Int.mul_comm, Int.mul_comm ys[i]]
        omega
      rw [e0]
      refine Wi.neqC (fun g => absurd rfl g) fun _ => Wi.fls (Wi.add (by unfold I64; omega) (hJ _ _ him ⟨rfl, rfl, fun j hj => ?_⟩))
      by_cases c : j = i
      · subst c; exact e
      · exact hbef j (by omega)
    · have e0 : xs[i] * p - ys[i] * q = p * xs.getD i 0 - q * ys.getD i 0 := by rw [ex, ey, Int.mul_comm, Int.mul_comm ys[i]]
      rw [e0]
      generalize hA : p * xs.getD i 0 = A at *
      generalize hB : q * ys.getD i 0 = B at *
      have hsg : sgI (A - B) ≠ 0 := by unfold sgI; split <;> (try split) <;> omega
      refine Wi.neqC (fun _ => Wi.tru (hQ _ ?_)) fun g => absurd g hsg
      constructor
      · intro g
        refine ⟨i, him, ?_, fun j hj => hbef j hj⟩
        show p * xs.getD i 0 < q * ys.getD i 0
        rw [hA, hB]
        unfold sgI at g
        split at g
        · omega
        · split at g <;> omega
      · rintro ⟨j, j1, j2, j3⟩
        have j2 : p * xs.getD j 0 < q * ys.getD j 0 := j2
        have j3 : ∀ i, i < j → p * xs.getD i 0 = q * ys.getD i 0 := j3
        have : j = i := by
          rcases Nat.lt_trichotomy j i with c | c | c
          · have := hbef j c; omega
          · exact c
          · have := j3 i c
            rw [hA, hB] at this
            exact absurd this e
        subst this
        rw [hA, hB] at j2
        unfold sgI
        rw [if_pos (by omega)]
        decide
  · have him : i = m := by omega
    subst him
    refine Wl.lenH hx (Wl.lenH hy (Wi.lssC (fun g => absurd g (by omega)) fun _ => Wi.fls (hQ 0 ?_)))
    constructor
    · intro g; exact absurd g (by decide)
    · rintro ⟨j, j1, j2, j3⟩
      have j2 : p * xs.getD j 0 < q * ys.getD j 0 := j2
      have := hbef j j1
      omega

theorem fn141 (k : TK H0 b u d w n) (hR : Has RSS H0 [u] rows) (hT : RowsT n rows) {i j v : Nat} (hi : i < n) (hj : j < n) (hv : v < 2 * n + 1) (hQ : ∀ H' t, H0.Le H' → (t = true ↔ keyLess n rows v i j) → Q (.bool t) H') :
    Runs Tryz.prog 141 #[pt b 0, .int .i64 (i : Nat), .int .i64 (mAt rows i v), .int .i64 (j : Nat), .int .i64 (mAt rows j v)] H0 Q := by
  refine f141.enter ?_
  unfold f141.w
  have mem : ∀ i, i < n → ∀ x ∈ keyL n rows i, x.natAbs ≤ 384000000 := fun i hi x hx => by
    have hi2 : i < rows.length := by rw [hT.rl]; exact hi
    have hl := hT.rw _ (List.getElem_mem hi2)
    rcases List.mem_cons.1 hx with e | hx
    · rw [e]; exact hT.ab i _ hi (by omega)
    · rw [show rows.getD i [] = rows[i] by simp [List.getD_eq_getElem?_getD, List.getElem?_eq_getElem hi2]] at hx
      obtain ⟨c, hc, rfl⟩ := List.mem_iff_getElem.1 (List.mem_of_mem_take hx)
      rw [hT.at]
      exact hT.ab i c hi (by omega)
  refine Wi.box1 rfl fun H1 l1 n1 k1 => Wi.box1 rfl fun H2 l2 n2 k2 => ?_
  have l12 := l1.trans l2
  refine Wi.call (fn158 (k.le l12) (hR.le l12) hT hi fun H3 v3 f3 => Wi.call (fn158 ((k.le l12).le f3.le) ((hR.le l12).le f3.le) hT hj fun H4 v4 f4 => ?_))
  have l34 := f3.le.trans f4.le
  refine Wi.call (fn157 (m := n + 1) (p := mAt rows j v) (q := mAt rows i v) (f3.read.le f4.le) f4.read (keyL_len hT hi) (keyL_len hT hj) ⟨_, _, l34.at k2 (by omega)⟩ ⟨_, _, l34.at (l2.at k1 (by omega)) (by have := l2.next; omega)⟩ (hT.ab j v hj hv) (hT.ab i v hi hv) (mem i hi) (mem j hj) fun c hc => ?_)
  have key : c < 0 ↔ keyLess n rows v i j := by
    rw [hc]
    unfold keyLess
    constructor
    · intro q
      exact q.congr (fun x hx => by rw [keyL_at hT hi hx]) fun x hx => by rw [keyL_at hT hj hx]
    · intro q
      exact q.congr (fun x hx => by rw [keyL_at hT hi hx]) fun x hx => by rw [keyL_at hT hj hx]
  exact Wi.lssC (fun q => hQ _ _ (l12.trans l34) ⟨fun _ => key.1 q, fun _ => rfl⟩) fun q => hQ _ _ (l12.trans l34) ⟨fun g => Bool.noConfusion g, fun g => absurd (key.2 g) q⟩

theorem fn53 (k : TK H0 b u d w n) (hR : Has RSS H0 [u] rows) (hT : RowsT n rows) {v : Nat} (hv : v < 2 * n + 1) (hQ : ∀ H', H0.Le H' → Q (.int .i64 (leastTo n rows v n)) H') : Runs Tryz.prog 53 #[pt b 0, .int .i64 (v : Nat)] H0 Q := by
  have n5 := hT.n5
  refine f53.enter ?_
  unfold f53.w
  refine Wi.box1 rfl fun H1 l1 n1 k1 => Wi.box1 rfl fun H2 l2 n2 k2 => Wi.get (l2.at k1 (by omega)) rfl ?_
  have l12 := l1.trans l2
  have n12 := l2.next
  refine Wi.call (f110.enter ?_)
  unfold f110.w
  refine (k.le l12).g0 (Wl.lenH (hR.le l12) ?_)
  rw [hT.rl]
  have lo := leastTo_lt n rows v
  -- what a row has in the column v
  have col : ∀ {H K} {i : Nat}, H2.Le H → i < n → K (.int .i64 (mAt rows i v)) H → W.call Tryz.prog (.func (.func 111) #[] #[pt H0.next 0, pt H1.next 0]) #[.int .i64 (i : Nat)] H K := fun {H K i} l hi c => by
    have hi2 : i < rows.length := by rw [hT.rl]; exact hi
    have hl := hT.rw _ (List.getElem_mem hi2)
    refine Wi.callV (f111.enter ?_)
    unfold f111.w
    refine Wi.get (l.at (l2.at k1 (by omega)) (by omega)) rfl (((k.le l12).le l).g0 (Wl.at1H rfl ((hR.le l12).le l) hi2 fun r hr => Wi.get (l.at k2 (by omega)) rfl (Wl.atIntH hr (i := v) (by omega) fun _ => ?_)))
    rw [hT.at]
    exact c
  refine W.for_rule n (fun i st H => H2.Le H ∧ st = (.int .i64 (leastTo n rows v i), .int .i64 (i : Nat), ())) ⟨.refl _, rfl⟩ ?_
  rintro i st H J hi ⟨l, rfl⟩ hJ
  refine Wi.lssC (fun hlt => Wi.tru ?_) fun hge => Wi.fls ?_
  · have hin : i < n := by omega
    have fin : ∀ (H : Heap) (t : Int), H2.Le H → t = leastTo n rows v (i + 1) → f110.j1 (fun v3 H3 => Q v3 H3) (.int .i64 (i : Nat)) J (.int .i64 t) H := fun H t l e => by
      subst e
      unfold f110.j1
      exact Wi.add (by unfold I64; omega) (hJ _ _ hin ⟨l, rfl⟩)
    have low := lo i
    refine col l hin (Wi.gtrC (fun hp => ?_) fun hnp => ?_)
    · simp only [gw]
      refine Wi.lssC (fun hb => ?_) fun hb => ?_
      · simp only [gw]
        refine fin _ _ l ?_
        unfold leastTo
        rw [if_pos ⟨hp, .inl hb⟩]
      · simp only [gw]
        obtain ⟨c, hc⟩ : ∃ c : Nat, leastTo n rows v i = (c : Int) := ⟨(leastTo n rows v i).toNat, by omega⟩
        have hcn : c < n := by omega
        rw [hc]
        refine col l hin (col l hcn ?_)
        refine Wi.call (fn141 ((k.le l12).le l) ((hR.le l12).le l) hT hin hcn hv fun H' t l' ht => ?_)
        cases t with
        | true =>
          simp only [gw]
          refine fin _ _ (l.trans l') ?_
          unfold leastTo
          rw [hc, if_pos ⟨hp, .inr (by rw [show ((c : Nat) : Int).toNat = c by omega]; exact ht.1 rfl)⟩]
        | false =>
          simp only [gw]
          refine fin _ _ (l.trans l') ?_
          unfold leastTo
          rw [hc, if_neg fun q => q.2.elim (fun q => by omega) fun q => by rw [show ((c : Nat) : Int).toNat = c by omega] at q; exact Bool.noConfusion (ht.2 q)]
    · simp only [gw]
      refine fin _ _ l ?_
      exact (leastTo_no fun q => hnp q.1).symm
  · have : i = n := by omega
    subst this
    exact hQ _ (l12.trans l)

theorem fn56 (k : TK H0 b u d w n) (n5 : n ≤ 5) {v : Nat} (hv : v < 2 * n) (hQ : Q (.int .i64 (partN n v : Nat)) H0) : Runs Tryz.prog 56 #[pt b 0, .int .i64 (v : Nat)] H0 Q := by
  unfold partN at hQ
  refine f56.enter ?_
  unfold f56.w
  refine k.g3 (Wi.lssC (fun h => Wi.tru (k.g3 (Wi.add (by unfold I64; omega) ?_))) fun h => Wi.fls (k.g3 (Wi.sub (by unfold I64; omega) ?_)))
  · rw [if_pos (by omega)] at hQ
    exact hQ
  · rw [if_neg (by omega), show (((v - n : Nat) : Nat) : Int) = (v : Int) - (n : Int) by omega] at hQ
    exact hQ

end
end Go.Proofs.YtbcfknboheghkaaGreat
/-! Contracts of the program's first table, steps and values. No condition. -/
namespace Go.Proofs.YtbcfknboheghkaaGreat
open Go.Ab

/- loop.example/g01343/impl.newTable -/
def f50.j1 (Q : Post) (v6 : Value) (v1 : Value) (x_18 : Value) (I1 : St [18] → Heap → Prop) (row_8 : Value) (H : Heap) : Prop :=
  W.nilCheck v6 H fun v32 H =>
  W.fieldAddr 0 v32 H fun v33 H =>
  W.get v33 H fun v34 H =>
  W.fieldAddr 1 v1 H fun v35 H =>
  W.get v35 H fun v36 H =>
  W.indexAddr 1 v36 x_18 H fun v37 H =>
  W.get v37 H fun v38 H =>
  W.lit 1 [(.int .i64 0)] 2 [(0, 1, v38)] H fun v39 H =>
  W.append 1 2 row_8 v39 H fun v40 H =>
  W.chk (fun H k => W.get v33 H k) v34 H (W.lit 1 [(.slice none 0 0)] 35 [(0, 1, v40)] H fun v41 H =>
  W.append 1 35 v34 v41 H fun v42 H =>
  W.nilCheck v6 H fun v43 H =>
  W.fieldAddr 0 v43 H fun v44 H =>
  W.put v44 v42 H fun _ H =>
  W.nilCheck v6 H fun v45 H =>
  W.fieldAddr 2 v45 H fun v46 H =>
  W.get v46 H fun v47 H =>
  W.lit 1 [(.int .i64 0)] 3 [(0, 1, x_18)] H fun v48 H =>
  W.append 1 3 v47 v48 H fun v49 H =>
  W.nilCheck v6 H fun v50 H =>
  W.fieldAddr 2 v50 H fun v51 H =>
  W.put v51 v49 H fun _ H =>
  W.bin .add x_18 (.int .i64 1) H fun v52 H =>
  I1 (v52, ()) H)
def f50.l2 (Q : Post) (v17 : Value) (v16 : Value) (v4 : Value) (v11 : Value) (cover_1 : Value) (x_18 : Value) (v6 : Value) (v1 : Value) (I1 : St [18] → Heap → Prop) (I2 : St [36] → Heap → Prop) (x_36 : Value) (H : Heap) : Prop :=
  W.bin .lss x_36 v17 H fun v18 H =>
  W.cond v18 H
  (fun H => W.indexAddr 1 v16 x_36 H fun v19 H =>
   W.get v19 H fun v20 H =>
   W.bin .add v4 x_36 H fun v21 H =>
   W.un .neg v20 H fun v22 H =>
   W.indexAddr 1 v11 v21 H fun v23 H =>
   W.put v23 v22 H fun _ H =>
   W.bin .add x_36 (.int .i64 1) H fun v24 H =>
   I2 (v24, ()) H)
  (fun H => W.len cover_1 H fun v25 H =>
   W.bin .gtr v25 (.int .i64 0) H fun v26 H =>
   W.cond v26 H
   (fun H => W.indexAddr 1 cover_1 x_18 H fun v27 H =>
    W.get v27 H fun v28 H =>
    W.un .neg v28 H fun v29 H =>
    W.lit 1 [(.int .i64 0)] 2 [(0, 1, v29)] H fun v30 H =>
    W.append 1 2 v11 v30 H fun v31 H =>
    f50.j1 Q v6 v1 x_18 I1 v31 H)
   (fun H => f50.j1 Q v6 v1 x_18 I1 v11 H))
def f50.l1 (Q : Post) (v4 : Value) (v1 : Value) (cover_1 : Value) (v6 : Value) (I1 : St [18] → Heap → Prop) (x_18 : Value) (H : Heap) : Prop :=
  W.bin .lss x_18 v4 H fun v7 H =>
  W.cond v7 H
  (fun H => W.bin .mul (.int .i64 2) v4 H fun v8 H =>
   W.bin .mul (.int .i64 2) v4 H fun v9 H =>
   W.bin .add v9 (.int .i64 2) H fun v10 H =>
   W.make [(.int .i64 0)] 2 v8 v10 H fun v11 H =>
   W.indexAddr 1 v11 x_18 H fun v12 H =>
   W.put v12 (.int .i64 1) H fun _ H =>
   W.fieldAddr 0 v1 H fun v13 H =>
   W.get v13 H fun v14 H =>
   W.indexAddr 1 v14 x_18 H fun v15 H =>
   W.get v15 H fun v16 H =>
   W.len v16 H fun v17 H =>
   W.loop (S := St [36]) (fun I2 s H => f50.l2 Q v17 v16 v4 v11 cover_1 x_18 v6 v1 I1 I2 s.1 H) ((.int .i64 0), ()) H)
  (fun H => Q v6 H)
def f50.w (Q : Post) (p_0 : Value) (cover_1 : Value) (H : Heap) : Prop :=
  W.box p_0 43 H fun v1 H =>
  W.fieldAddr 1 v1 H fun v2 H =>
  W.get v2 H fun v3 H =>
  W.len v3 H fun v4 H =>
  W.build [(.slice none 0 0), (.int .i64 0), (.slice none 0 0), (.int .i64 0)] [(1, 1, (.int .i64 1)), (3, 1, v4)] H fun v5 H =>
  W.box v5 82 H fun v6 H =>
  W.loop (S := St [18]) (fun I1 s H => f50.l1 Q v4 v1 cover_1 v6 I1 s.1 H) ((.int .i64 0), ()) H
theorem f50.enter {Q : Post} {p_0 : Value} {cover_1 : Value} {H : Heap} (h : f50.w Q p_0 cover_1 H) : Runs Tryz.prog 50 #[p_0, cover_1] H Q :=
  fn_enter (ann := [(4, [18]), (9, [36])]) (by kernel_rfl) Tryz.func50 rfl (by kernel_rfl) h (by kernel_rfl)

/- (*loop.example/g01343/impl.table).step -/
def f52.j1 (Q : Post) (x_33 : Value) (I1 : St [33] → Heap → Prop) (H : Heap) : Prop :=
  W.bin .add x_33 (.int .i64 1) H fun v18 H =>
  I1 (v18, ()) H
def f52.l2 (Q : Post) (v19 : Value) (v14 : Value) (v7 : Value) (v5 : Value) (v16 : Value) (t_0 : Value) (x_33 : Value) (I1 : St [33] → Heap → Prop) (I2 : St [47] → Heap → Prop) (x_47 : Value) (H : Heap) : Prop :=
  W.bin .lss x_47 v19 H fun v20 H =>
  W.cond v20 H
  (fun H => W.indexAddr 1 v14 x_47 H fun v21 H =>
   W.get v21 H fun v22 H =>
   W.bin .mul v22 v7 H fun v23 H =>
   W.indexAddr 1 v5 x_47 H fun v24 H =>
   W.get v24 H fun v25 H =>
   W.bin .mul v16 v25 H fun v26 H =>
   W.bin .sub v23 v26 H fun v27 H =>
   W.nilCheck t_0 H fun v28 H =>
   W.fieldAddr 1 v28 H fun v29 H =>
   W.get v29 H fun v30 H =>
   W.bin .quo v27 v30 H fun v31 H =>
   W.indexAddr 1 v14 x_47 H fun v32 H =>
   W.put v32 v31 H fun _ H =>
   W.bin .add x_47 (.int .i64 1) H fun v33 H =>
   I2 (v33, ()) H)
  (fun H => f52.j1 Q x_33 I1 H)
def f52.l4 (Q : Post) (v45 : Value) (v44 : Value) (x_85 : Value) (I3 : St [85] → Heap → Prop) (I4 : St [91] → Heap → Prop) (x_91 : Value) (H : Heap) : Prop :=
  W.bin .lss x_91 v45 H fun v46 H =>
  W.cond v46 H
  (fun H => W.indexAddr 1 v44 x_91 H fun v47 H =>
   W.get v47 H fun v48 H =>
   W.un .neg v48 H fun v49 H =>
   W.indexAddr 1 v44 x_91 H fun v50 H =>
   W.put v50 v49 H fun _ H =>
   W.bin .add x_91 (.int .i64 1) H fun v51 H =>
   I4 (v51, ()) H)
  (fun H => W.bin .add x_85 (.int .i64 1) H fun v52 H =>
   I3 (v52, ()) H)
def f52.j2 (Q : Post) (t_0 : Value) (r_2 : Value) (v_1 : Value) (H : Heap) : Prop :=
  W.nilCheck t_0 H fun v53 H =>
  W.fieldAddr 2 v53 H fun v54 H =>
  W.get v54 H fun v55 H =>
  W.indexAddr 1 v55 r_2 H fun v56 H =>
  W.get v56 H fun v57 H =>
  W.nilCheck t_0 H fun v58 H =>
  W.fieldAddr 2 v58 H fun v59 H =>
  W.get v59 H fun v60 H =>
  W.indexAddr 1 v60 r_2 H fun v61 H =>
  W.put v61 v_1 H fun _ H =>
  Q v57 H
def f52.l3 (Q : Post) (v41 : Value) (v40 : Value) (t_0 : Value) (r_2 : Value) (v_1 : Value) (I3 : St [85] → Heap → Prop) (x_85 : Value) (H : Heap) : Prop :=
  W.bin .lss x_85 v41 H fun v42 H =>
  W.cond v42 H
  (fun H => W.indexAddr 1 v40 x_85 H fun v43 H =>
   W.get v43 H fun v44 H =>
   W.len v44 H fun v45 H =>
   W.loop (S := St [91]) (fun I4 s H => f52.l4 Q v45 v44 x_85 I3 I4 s.1 H) ((.int .i64 0), ()) H)
  (fun H => f52.j2 Q t_0 r_2 v_1 H)
def f52.l1 (Q : Post) (v11 : Value) (v10 : Value) (v_1 : Value) (r_2 : Value) (v7 : Value) (v5 : Value) (t_0 : Value) (I1 : St [33] → Heap → Prop) (x_33 : Value) (H : Heap) : Prop :=
  W.bin .lss x_33 v11 H fun v12 H =>
  W.cond v12 H
  (fun H => W.indexAddr 1 v10 x_33 H fun v13 H =>
   W.get v13 H fun v14 H =>
   W.indexAddr 1 v14 v_1 H fun v15 H =>
   W.get v15 H fun v16 H =>
   W.bin .eql x_33 r_2 H fun v17 H =>
   W.cond v17 H
   (fun H => f52.j1 Q x_33 I1 H)
   (fun H => W.len v14 H fun v19 H =>
    W.loop (S := St [47]) (fun I2 s H => f52.l2 Q v19 v14 v7 v5 v16 t_0 x_33 I1 I2 s.1 H) ((.int .i64 0), ()) H))
  (fun H => W.call Tryz.prog (.func (.func 109) #[] #[]) #[v7] H fun v34 H =>
   W.nilCheck t_0 H fun v35 H =>
   W.fieldAddr 1 v35 H fun v36 H =>
   W.put v36 v34 H fun _ H =>
   W.bin .lss v7 (.int .i64 0) H fun v37 H =>
   W.cond v37 H
   (fun H => W.nilCheck t_0 H fun v38 H =>
    W.fieldAddr 0 v38 H fun v39 H =>
    W.get v39 H fun v40 H =>
    W.len v40 H fun v41 H =>
    W.loop (S := St [85]) (fun I3 s H => f52.l3 Q v41 v40 t_0 r_2 v_1 I3 s.1 H) ((.int .i64 0), ()) H)
   (fun H => f52.j2 Q t_0 r_2 v_1 H))
def f52.w (Q : Post) (t_0 : Value) (v_1 : Value) (r_2 : Value) (H : Heap) : Prop :=
  W.nilCheck t_0 H fun v1 H =>
  W.fieldAddr 0 v1 H fun v2 H =>
  W.get v2 H fun v3 H =>
  W.indexAddr 1 v3 r_2 H fun v4 H =>
  W.get v4 H fun v5 H =>
  W.indexAddr 1 v5 v_1 H fun v6 H =>
  W.get v6 H fun v7 H =>
  W.nilCheck t_0 H fun v8 H =>
  W.fieldAddr 0 v8 H fun v9 H =>
  W.get v9 H fun v10 H =>
  W.len v10 H fun v11 H =>
  W.loop (S := St [33]) (fun I1 s H => f52.l1 Q v11 v10 v_1 r_2 v7 v5 t_0 I1 s.1 H) ((.int .i64 0), ()) H
theorem f52.enter {Q : Post} {t_0 : Value} {v_1 : Value} {r_2 : Value} {H : Heap} (h : f52.w Q t_0 v_1 r_2 H) : Runs Tryz.prog 52 #[t_0, v_1, r_2] H Q :=
  fn_enter (ann := [(4, [33]), (9, [47]), (17, [85]), (20, [91])]) (by kernel_rfl) Tryz.func52 rfl (by kernel_rfl) h (by kernel_rfl)

/- (*loop.example/g01343/impl.table).values -/
def f55.j1 (Q : Post) (x_17 : Value) (I1 : St [17] → Heap → Prop) (H : Heap) : Prop :=
  W.bin .add x_17 (.int .i64 1) H fun v20 H =>
  I1 (v20, ()) H
def f55.l1 (Q : Post) (v9 : Value) (v8 : Value) (t_0 : Value) (v5 : Value) (I1 : St [17] → Heap → Prop) (x_17 : Value) (H : Heap) : Prop :=
  W.bin .lss x_17 v9 H fun v10 H =>
  W.cond v10 H
  (fun H => W.indexAddr 1 v8 x_17 H fun v11 H =>
   W.get v11 H fun v12 H =>
   W.nilCheck t_0 H fun v13 H =>
   W.fieldAddr 3 v13 H fun v14 H =>
   W.get v14 H fun v15 H =>
   W.bin .mul (.int .i64 2) v15 H fun v16 H =>
   W.bin .lss v12 v16 H fun v17 H =>
   W.cond v17 H
   (fun H => W.call Tryz.prog (.func (.func 114) #[] #[]) #[t_0, x_17] H fun v18 H =>
    W.indexAddr 1 v5 v12 H fun v19 H =>
    W.put v19 v18 H fun _ H =>
    f55.j1 Q x_17 I1 H)
   (fun H => f55.j1 Q x_17 I1 H))
  (fun H => Q v5 H)
def f55.w (Q : Post) (t_0 : Value) (H : Heap) : Prop :=
  W.nilCheck t_0 H fun v1 H =>
  W.fieldAddr 3 v1 H fun v2 H =>
  W.get v2 H fun v3 H =>
  W.bin .mul (.int .i64 2) v3 H fun v4 H =>
  W.make [(.int .i64 0)] 2 v4 v4 H fun v5 H =>
  W.nilCheck t_0 H fun v6 H =>
  W.fieldAddr 2 v6 H fun v7 H =>
  W.get v7 H fun v8 H =>
  W.len v8 H fun v9 H =>
  W.loop (S := St [17]) (fun I1 s H => f55.l1 Q v9 v8 t_0 v5 I1 s.1 H) ((.int .i64 0), ()) H
theorem f55.enter {Q : Post} {t_0 : Value} {H : Heap} (h : f55.w Q t_0 H) : Runs Tryz.prog 55 #[t_0] H Q :=
  fn_enter (ann := [(3, [17])]) (by kernel_rfl) Tryz.func55 rfl (by kernel_rfl) h (by kernel_rfl)


def rowE (g : Game) (i : Nat) : List Int := (List.range (2 * nG g + 1)).map fun c => lhE g i c
def bas0 (n : Nat) : List Int := (List.range n).map fun i => ((i : Nat) : Int)

theorem lhE_i64 {g : Game} (hg : IsGm g) (i c : Nat) : I64 (lhE g i c) := by
  have := lhE_abs hg i c
  unfold I64
  omega

theorem fn50 {H0 : Heap} {Q : Post} {cs : List Value} {g : Game} (hg : IsGm g) (hr : Has RProblem H0 cs (gmP g)) (hQ : ∀ H' b u w, Ab.Loc H0 [.box b [u, .int .i64 1, w, .int .i64 (nG g : Nat)], .data RSS [u] (lhRows0 g), .data RS [w] (bas0 (nG g))] H' → Q (pt b 0) H') :
    Runs Tryz.prog 50 #[.agg cs.toArray, .slice none 0 0] H0 Q := by
  obtain ⟨p1, p2, rfl, r1, r2⟩ := hasProb hr
  have hn5 : nG g ≤ 5 := hg.kl
  have hql : (gmP g).2.length = nG g := by simp [gmP]
  have hml : (gmP g).1.length = nG g := tabL_len _ _
  refine f50.enter ?_
  unfold f50.w
  have h := ((Loc.start H0).lent r2).lent r1
  refine Wl.box (cs := [p1, p2]) h fun H bp h => Wi.fieldAddr (Wl.get (b := bp) (o := 1) h rfl (Wl.len (v := p2) (xs := (gmP g).2) h ?_))
  rw [hql]
  refine Wi.build (cells := [.slice none 0 0, .int .i64 1, .slice none 0 0, .int .i64 (nG g : Nat)]) rfl (Wl.box h fun H b h => ?_)
  have hE : ∀ i c, lhE g i c = if c < nG g then (if i = c then 1 else 0) else if c < 2 * nG g then -(gmE g i (c - nG g)) else 1 := fun _ _ => rfl
  have hsq : ∀ r ∈ (gmP g).1, r.length = nG g := (tabL_sq (nG g) (gmE g)).2
  have htab : ∀ i k, i < nG g → k < nG g → mAt (gmP g).1 i k = gmE g i k := fun i k hi hk => tabL_at hi hk
  have hrow : rowE g = fun i => (List.range (2 * nG g + 1)).map fun c => lhE g i c := rfl
  have hq1 : ∀ i (hi : i < (gmP g).2.length), (gmP g).2[i] = 1 := fun i hi => by simp [gmP]
  have hall : (List.range (nG g)).map (rowE g) = lhRows0 g := rfl
  generalize hn : nG g = n at *
  have h : Ab.Loc H0 [.grow RS 35 (.slice none 0 0) [], .grow Rd.int 3 (.slice none 0 0) [], .box b [.slice none 0 0, .int .i64 1, .slice none 0 0, .int .i64 (n : Nat)], .box bp [p1, p2], .lent RSS [p1] (gmP g).1, .lent RS [p2] (gmP g).2] H := (h.nilG Rd.int 3).nilG RS 35
  refine W.for_rule n (fun i st H => ∃ u w, st = (.int .i64 (i : Nat), ()) ∧ Ab.Loc H0 [.grow RS 35 u ((List.range i).map (rowE g)), .grow Rd.int 3 w (bas0 i), .box b [u, .int .i64 1, w, .int .i64 (n : Nat)], .box bp [p1, p2], .lent RSS [p1] (gmP g).1, .lent RS [p2] (gmP g).2] H) ⟨_, _, rfl, h⟩ ?_
  rintro i st H J hi ⟨u, w, rfl, h⟩ hJ
  refine Wi.lssC (fun hlt => Wi.tru ?_) fun hge => Wi.fls ?_
  · have hin : i < n := by omega
    refine Wi.mul (by unfold I64; omega) (Wi.mul (by unfold I64; omega) (Wi.add (by unfold I64; omega) ?_))
    rw [show (2 : Int) * (n : Nat) = ((2 * n : Nat) : Int) by omega, show ((2 * n : Nat) : Int) + 2 = ((2 * n + 2 : Nat) : Int) by omega]
    refine makeB h (m := 2 * n) (c := 2 * n + 2) (by omega) (by omega) fun H bb h => ?_
    refine boxSet (b := bb) h (i := i) (by omega) rfl (by simp; omega) fun H h => ?_
    have him : i < (gmP g).1.length := by omega
    have hiq : i < (gmP g).2.length := by omega
    refine Wi.fieldAddr0 (Wl.get (b := bp) h rfl (Wl.atL (v := p1) (xs := (gmP g).1) rfl h him fun r h => ?_))
    have hrl : (gmP g).1[i].length = n := hsq _ (List.getElem_mem him)
    have hme : ∀ k (hk : k < (gmP g).1[i].length), (gmP g).1[i][k] = gmE g i k := fun k hk => by
      rw [← htab i k hin (by omega)]
      unfold mAt
      rw [show (gmP g).1.getD i [] = (gmP g).1[i] by simp [List.getD_eq_getElem?_getD, List.getElem?_eq_getElem him], atD hk]
    refine Wl.len (v := r) (xs := (gmP g).1[i]) h ?_
    rw [hrl]
    have start : ∀ c, c < 2 * n → ((List.replicate (2 * n + 2) (Value.int IntKind.i64 0)).set i (.int .i64 1))[c]? = some (.int .i64 (if c < n then (if i = c then 1 else 0) else if c < n + 0 then -(gmE g i (c - n)) else 0)) := fun c hc => by
      by_cases e : i = c
      · subst e
        rw [if_pos hin, if_pos rfl]
        rw [List.getElem?_set_self (by simp; omega)]
      · rw [List.getElem?_set_ne e]
        have : (List.replicate (2 * n + 2) (Value.int IntKind.i64 0))[c]? = some (.int .i64 0) := by rw [List.getElem?_replicate, if_pos (by omega)]
        rw [this]
        split
        · rfl
        · rw [if_neg (by omega)]
    refine W.for_rule n (fun k st H' => ∃ cs : List Value, st = (.int .i64 (k : Nat), ()) ∧ cs.length = 2 * n + 2 ∧ (∀ c, c < 2 * n → cs[c]? = some (.int .i64 (if c < n then (if i = c then 1 else 0) else if c < n + k then -(gmE g i (c - n)) else 0))) ∧ Ab.Loc H0 [.lent RS [r] (gmP g).1[i], .box bb cs, .grow RS 35 u ((List.range i).map (rowE g)), .grow Rd.int 3 w (bas0 i), .box b [u, .int .i64 1, w, .int .i64 (n : Nat)], .box bp [p1, p2], .lent RSS [p1] (gmP g).1, .lent RS [p2] (gmP g).2] H') ⟨_, rfl, by simp, start, h⟩ ?_
    rintro k st H' J2 hk ⟨cs, rfl, hcl, hcs, h⟩ hJ2
    refine Wi.lssC (fun hlt2 => Wi.tru ?_) fun hge2 => Wi.fls ?_
    · have hkn : k < n := by omega
      have hab := gmE_abs hg i k
      refine Wl.atIntH (h.rd (cs := [r]) (x := (gmP g).1[i])) (i := k) (by omega) fun _ => Wi.add (by unfold I64; omega) ?_
      rw [hme k (by omega), show ((n : Nat) : Int) + ((k : Nat) : Int) = ((n + k : Nat) : Int) by omega]
      refine Wi.neg (by unfold I64; omega) (boxSet (b := bb) h (i := n + k) (by omega) rfl (by omega) fun H2 h => Wi.add (by unfold I64; omega) (hJ2 _ _ hkn ⟨_, rfl, by simp; omega, fun c hc => ?_, h⟩))
      by_cases e : n + k = c
      · subst e
        rw [List.getElem?_set_self (by omega), if_neg (by omega), if_pos (by omega), show n + k - n = k by omega]
      · rw [List.getElem?_set_ne e, hcs c hc]
        split
        · rfl
        · split
          · rw [if_pos (by omega)]
          · rw [if_neg (by omega)]
    · have hkn : k = n := by omega
      subst hkn
      refine (show W.len (.slice none 0 0) H' _ from ?_)
      refine Wi.len (Wi.gtrC (fun q => absurd q (by decide)) fun _ => Wi.fls ?_)
      unfold f50.j1
      refine Wi.nilP (Wi.fieldAddr (Wl.get (b := b) (o := 0) h rfl ?_))
      refine Wi.fieldAddr (Wl.get (b := bp) (o := 1) h rfl (Wl.atIntH (h.rd (cs := [p2]) (x := (gmP g).2)) hiq fun _ => ?_))
      rw [hq1 i hiq]
      refine boxPush (b := bb) h (by omega) (by omega) fun H' h => ?_
      refine Wi.chk (Wl.get (b := b) (o := 0) h rfl ⟨rfl, rfl⟩) ?_
      have hrlen : (rowE g i).length = 2 * k + 1 := by rw [hrow]; simp
      have h := h.rowB (i := 1) (n := 2 * k + 1) (e := 2 * (2 * k + 2)) (xs := rowE g i) rfl hrlen.symm (by omega) (by omega) (by simp; omega) fun j hj => ?_
      · have h : Ab.Loc H0 [.lent RS [r] (gmP g).1[i], .data RS [.slice (some (adr bb 0)) (2 * k + 1) (2 * (2 * k + 2))] (rowE g i), .grow RS 35 u ((List.range i).map (rowE g)), .grow Rd.int 3 w (bas0 i), .box b [u, .int .i64 1, w, .int .i64 (k : Nat)], .box bp [p1, p2], .lent RSS [p1] (gmP g).1, .lent RS [p2] (gmP g).2] H' := h
        refine Wl.pushO (r := RS) (u := .slice (some (adr bb 0)) (2 * k + 1) (2 * (2 * k + 2))) (x := rowE g i) (i := 2) (j := 1) rfl h (by decide) rfl (by simp; omega) fun H' u' h => ?_
        have h : Ab.Loc H0 [.lent RS [r] (gmP g).1[i], .emp, .grow RS 35 u' ((List.range i).map (rowE g) ++ [rowE g i]), .grow Rd.int 3 w (bas0 i), .box b [u, .int .i64 1, w, .int .i64 (k : Nat)], .box bp [p1, p2], .lent RSS [p1] (gmP g).1, .lent RS [p2] (gmP g).2] H' := h
        have k3 := (h.rd (cs := [u']) (r := RSS)).cell1
        refine Wi.nilP (Wi.fieldAddr (Wl.put (b := b) (o := 0) (i := 4) h k3 (by simp) fun H' h => ?_))
        refine Wi.nilP (Wi.fieldAddr (Wl.get (b := b) (o := 2) h rfl ?_))
        refine Wl.pushP (r := Rd.int) (x := ((i : Nat) : Int)) (i := 3) rfl rfl rfl (fun _ => ⟨rfl, rfl, by unfold I64; omega⟩) h (by simp [bas0]; omega) fun H' w' h => ?_
        have h : Ab.Loc H0 [.lent RS [r] (gmP g).1[i], .emp, .grow RS 35 u' ((List.range i).map (rowE g) ++ [rowE g i]), .grow Rd.int 3 w' (bas0 i ++ [((i : Nat) : Int)]), .box b [u', .int .i64 1, w, .int .i64 (k : Nat)], .box bp [p1, p2], .lent RSS [p1] (gmP g).1, .lent RS [p2] (gmP g).2] H' := h
        have k4 := (h.rd (cs := [w']) (r := RS)).cell1
        refine Wi.nilP (Wi.fieldAddr (Wl.put (b := b) (o := 2) (i := 4) h k4 (by simp) fun H' h => Wi.add (by unfold I64; omega) (hJ _ _ hin ⟨u', w', rfl, ?_⟩)))
        rw [List.range_succ, List.map_append]
        have e2 : bas0 (i + 1) = bas0 i ++ [((i : Nat) : Int)] := by unfold bas0; rw [List.range_succ, List.map_append]; rfl
        rw [e2]
        exact (h.cut 0).cut 0
      · have hj2 : j < 2 * k + 1 := by omega
        have ej : (rowE g i)[j] = lhE g i j := by simp [hrow]
        rw [ej]
        refine ⟨?_, lhE_i64 hg i j⟩
        by_cases c : j < 2 * k
        · rw [List.append_assoc, List.getElem?_append_left (by simp; omega), List.getElem?_take, if_pos c, hcs j c, hE]
          by_cases c2 : j < k
          · rw [if_pos c2, if_pos c2]
          · rw [if_neg c2, if_neg c2, if_pos c, if_pos (by omega)]
        · have : j = 2 * k := by omega
          subst this
          rw [List.append_assoc, List.getElem?_append_right (by simp; omega), hE, if_neg (by omega), if_neg (by omega)]
          simp [show min (2 * k) cs.length = 2 * k by omega]
  · have : i = n := by omega
    subst this
    have h := (h.asData (i := 0) rfl).asData (i := 1) rfl
    have h : Ab.Loc H0 [.data RSS [u] ((List.range i).map (rowE g)), .data RS [w] (bas0 i), .box b [u, .int .i64 1, w, .int .i64 (i : Nat)], .box bp [p1, p2], .lent RSS [p1] (gmP g).1, .lent RS [p2] (gmP g).2] H := h
    rw [hall] at h
    exact hQ _ b u w ((h.front 2 rfl).first 3)

/-! ### Steps -/

theorem mAt_set2 {m : List (List Int)} {i c : Nat} {y : Int} (hi : i < m.length) (hc : c < m[i].length) (j x : Nat) : mAt (m.set i (m[i].set c y)) j x = if j = i ∧ x = c then y else mAt m j x := by
  unfold mAt
  simp only [List.getD_eq_getElem?_getD]
  by_cases e : j = i
  · subst e
    rw [List.getElem?_set_self hi]
    simp only [Option.getD_some, List.getElem?_eq_getElem hi]
    by_cases e2 : x = c
    · subst e2
      rw [List.getElem?_set_self hc, if_pos (by simp)]
      rfl
    · rw [List.getElem?_set_ne (fun q => e2 q.symm), if_neg fun q => e2 q.2]
  · rw [List.getElem?_set_ne (fun q => e q.symm), if_neg fun q => e q.1]

theorem mat_same {a b : List (List Int)} {n l : Nat} (ha : a.length = n) (hb : b.length = n) (hra : ∀ r ∈ a, r.length = l) (hrb : ∀ r ∈ b, r.length = l) (he : ∀ i j, i < n → j < l → mAt a i j = mAt b i j) : a = b := by
  apply List.ext_getElem (by omega)
  intro i h1 h2
  have l1 := hra _ (List.getElem_mem h1)
  have l2 := hrb _ (List.getElem_mem h2)
  apply List.ext_getElem (by omega)
  intro j g1 g2
  have := he i j (by omega) (by omega)
  unfold mAt at this
  rw [show a.getD i [] = a[i] by simp [List.getD_eq_getElem?_getD, List.getElem?_eq_getElem h1], show b.getD i [] = b[i] by simp [List.getD_eq_getElem?_getD, List.getElem?_eq_getElem h2], atD g1, atD g2] at this
  exact this

theorem LhI.rowsT {g : Game} (hg : IsGm g) {s : LhS} (h : LhI g s) : RowsT (nG g) s.rows :=
  ⟨hg.kl, h.rl, h.rw, fun i c hi hc => h.tab.abs hg.kl (fun i c _ _ => lhE_abs hg i c) hi hc⟩

/-- The numbers of the next table. -/
theorem LhI.piv {g : Game} (hg : IsGm g) {s : LhS} (h : LhI g s) {i c : Nat} (hi : i < nG g) (hc : c < 2 * nG g + 1) :
    mAt (lhStep (nG g) s).rows i c = if i = lhRow (nG g) s then mAt s.rows (lhRow (nG g) s) c else (mAt s.rows i c * mAt s.rows (lhRow (nG g) s) s.v - mAt s.rows i s.v * mAt s.rows (lhRow (nG g) s) c).tdiv s.den :=
  mAt_piv (by rw [h.rl]; exact hi) (by rw [h.rowlen hi]; exact hc)

theorem fn52 {H0 H : Heap} {L : List (Atom H0.next)} {Q : Post} {b : Nat} {u w : Value} {us : List Value} {g : Game} (hg : IsGm g) {s : LhS} (hI : LhI g s) (h : Ab.Loc H0 (.box b [u, .int .i64 s.den, w, .int .i64 (nG g : Nat)] :: .rows RS u us s.rows :: .data RS [w] s.bas :: L) H)
    (hQ : ∀ H', Ab.Loc H0 (.box b [u, .int .i64 (lhStep (nG g) s).den, w, .int .i64 (nG g : Nat)] :: .rows RS u us (lhStep (nG g) s).rows :: .data RS [w] (lhStep (nG g) s).bas :: L) H' → Q (.int .i64 (lhLeft (nG g) s : Nat)) H') :
    Runs Tryz.prog 52 #[pt b 0, .int .i64 (s.v : Nat), .int .i64 (lhRow (nG g) s : Nat)] H Q := by
  have hT := hI.rowsT hg
  obtain ⟨hl, _⟩ := hI.least hg
  have hr := hl.lt
  have hp := hl.pos
  have hN := (hI.next hg).1
  have hTN := hN.rowsT hg
  have hd := hI.tab.pos
  have hdb := hI.tab.dabs hg.kl fun i c _ _ => lhE_abs hg i c
  have n5 : nG g ≤ 5 := hg.kl
  have vl := hI.vl
  have hpiv := fun i c (hi : i < nG g) (hc : c < 2 * nG g + 1) => hI.piv hg hi hc
  have hbl := hI.bl
  have hbr := hI.bas hr
  have eleft : s.bas.getD (lhRow (nG g) s) 0 = ((lhLeft (nG g) s : Nat) : Int) := hbr.1
  have ebas : (lhStep (nG g) s).bas = s.bas.set (lhRow (nG g) s) (s.v : Nat) := rfl
  have eden : (lhStep (nG g) s).den = mAt s.rows (lhRow (nG g) s) s.v := rfl
  generalize hrows' : (lhStep (nG g) s).rows = P at *
  generalize lhRow (nG g) s = r at *
  generalize hn : nG g = n at *
  have hrl : r < s.rows.length := by rw [hT.rl]; exact hr
  have hrw := hT.rw _ (List.getElem_mem hrl)
  have hpa := hT.ab r s.v hr (by omega)
  refine f52.enter ?_
  unfold f52.w
  refine Wi.nilP (Wi.fieldAddr (Wl.get (b := b) (o := 0) h rfl (Wl.atRow (j := 1) rfl h hrl fun ur hur hrow => Wl.atIntH hrow (i := s.v) (by omega) fun _ => ?_)))
  rw [hT.at]
  refine Wi.nilP (Wi.fieldAddr (Wl.get (b := b) (o := 0) h rfl (Wl.len (v := u) (xs := s.rows) h ?_)))
  rw [hT.rl]
  refine W.for_rule n (fun i st H => ∃ rs, st = (.int .i64 (i : Nat), ()) ∧ rs.length = n ∧ (∀ q ∈ rs, q.length = 2 * n + 1) ∧ (∀ j x, j < n → x < 2 * n + 1 → mAt rs j x = if j < i then mAt P j x else mAt s.rows j x) ∧ Ab.Loc H0 (.box b [u, .int .i64 s.den, w, .int .i64 (n : Nat)] :: .rows RS u us rs :: .data RS [w] s.bas :: L) H) ⟨s.rows, rfl, hT.rl, hT.rw, fun j x _ _ => by rw [if_neg (by omega)], h⟩ ?_
  rintro i st H J hi ⟨rs, rfl, hrs, hrsw, hrse, h⟩ hJ
  refine Wi.lssC (fun hlt => Wi.tru ?_) fun hge => Wi.fls ?_
  · have hin : i < n := by omega
    have hil : i < rs.length := by omega
    have hiw := hrsw _ (List.getElem_mem hil)
    have at1 : ∀ {a c : Nat} (ha : a < rs.length) (hc : c < rs[a].length), rs[a][c] = mAt rs a c := fun {a c} ha hc => by
      unfold mAt
      rw [show rs.getD a [] = rs[a] by simp [List.getD_eq_getElem?_getD, List.getElem?_eq_getElem ha], atD hc]
    refine Wl.atRow (j := 1) rfl h hil fun ui hui hrowi => Wl.atIntH hrowi (i := s.v) (by omega) fun _ => ?_
    rw [at1, hrse i s.v hin (by omega), if_neg (by omega)]
    have skip : (∀ x, x < 2 * n + 1 → mAt P i x = mAt s.rows i x) → f52.j1 Q (.int .i64 (i : Nat)) J H := fun he => by
      unfold f52.j1
      refine Wi.add (by unfold I64; omega) (hJ _ _ hin ⟨rs, rfl, hrs, hrsw, fun j x hj hx => ?_, h⟩)
      rw [hrse j x hj hx]
      by_cases c : j < i
      · rw [if_pos c, if_pos (by omega)]
      · rw [if_neg c]
        by_cases c2 : j = i
        · subst c2; rw [if_pos (by omega), he x hx]
        · rw [if_neg (by omega)]
    refine Wi.eqlC (fun e => Wi.tru (skip fun x hx => ?_)) fun hne => Wi.fls ?_
    · have e : i = r := by omega
      subst e
      rw [hpiv i x hin hx, if_pos rfl]
    · have hir : i ≠ r := by omega
      refine Wl.lenH hrowi ?_
      rw [hiw]
      refine W.for_rule (2 * n + 1) (fun c st H => ∃ rs, st = (.int .i64 (c : Nat), ()) ∧ rs.length = n ∧ (∀ q ∈ rs, q.length = 2 * n + 1) ∧ (∀ j x, j < n → x < 2 * n + 1 → mAt rs j x = if j < i ∨ j = i ∧ x < c then mAt P j x else mAt s.rows j x) ∧ Ab.Loc H0 (.box b [u, .int .i64 s.den, w, .int .i64 (n : Nat)] :: .rows RS u us rs :: .data RS [w] s.bas :: L) H) ⟨rs, rfl, hrs, hrsw, fun j x hj hx => ?_, h⟩ ?_
      · rw [hrse j x hj hx]
        by_cases c : j < i
        · rw [if_pos c, if_pos (.inl c)]
        · rw [if_neg c, if_neg (by omega)]
      rintro c st H J2 hc ⟨rs, rfl, hrs, hrsw, hrse, h⟩ hJ2
      have hil : i < rs.length := by omega
      have hiw := hrsw _ (List.getElem_mem hil)
      have hrl2 : r < rs.length := by omega
      have hrw2 := hrsw _ (List.getElem_mem hrl2)
      have at1 : ∀ {a c : Nat} (ha : a < rs.length) (hc : c < rs[a].length), rs[a][c] = mAt rs a c := fun {a c} ha hc => by
        unfold mAt
        rw [show rs.getD a [] = rs[a] by simp [List.getD_eq_getElem?_getD, List.getElem?_eq_getElem ha], atD hc]
      refine Wi.lssC (fun hlt2 => Wi.tru ?_) fun hge2 => Wi.fls ?_
      · have hcn : c < 2 * n + 1 := by omega
        have hri := h.row (j := 1) rfl rfl hui hil
        have hrr := h.row (j := 1) rfl rfl hur hrl2
        have e1 : mAt rs i c = mAt s.rows i c := by rw [hrse i c hin hcn, if_neg (by omega)]
        have e2 : mAt rs r c = mAt s.rows r c := by
          rw [hrse r c hr hcn]
          split
          · rw [hpiv r c hr hcn, if_pos rfl]
          · rfl
        have b1 := hT.ab i c hin hcn
        have b2 := hT.ab r c hr hcn
        have b3 := hT.ab i s.v hin (by omega)
        have m1 := mulA b1 hpa
        have m2 := mulA b3 b2
        have b4 := hTN.ab i c hin hcn
        have ep := hpiv i c hin hcn
        rw [if_neg hir] at ep
        refine Wl.atIntH hri (i := c) (by omega) fun _ => ?_
        rw [at1, e1]
        refine Wi.mul (by unfold I64; omega) (Wl.atIntH hrr (i := c) (by omega) fun _ => ?_)
        rw [at1, e2]
        refine Wi.mul (by unfold I64; omega) (Wi.sub (by unfold I64; omega) (Wi.nilP (Wi.fieldAddr (Wl.get (b := b) (o := 1) h rfl (Wi.quo (by omega) (by rw [← ep]; unfold I64; omega) ?_)))))
        rw [← ep]
        refine Wl.rowSet h (j := 1) rfl hui hil (i := c) (by omega) (by unfold I64; omega) fun H h => Wi.add (by unfold I64; omega) (hJ2 _ _ hcn ⟨rs.set i (rs[i].set c (mAt P i c)), rfl, by rw [List.length_set]; exact hrs, fun q hq => ?_, fun j x hj hx => ?_, h⟩)
        · rcases List.mem_or_eq_of_mem_set hq with g | g
          · exact hrsw q g
          · rw [g, List.length_set]; exact hiw
        · rw [mAt_set2 hil (by omega), hrse j x hj hx]
          by_cases c1 : j = i ∧ x = c
          · rw [if_pos c1, if_pos (by omega), c1.1, c1.2]
          · rw [if_neg c1]
            by_cases c2 : j < i ∨ j = i ∧ x < c
            · rw [if_pos c2, if_pos (by omega)]
            · rw [if_neg c2, if_neg (by omega)]
      · unfold f52.j1
        refine Wi.add (by unfold I64; omega) (hJ _ _ hin ⟨rs, rfl, hrs, hrsw, fun j x hj hx => ?_, h⟩)
        rw [hrse j x hj hx]
        by_cases c2 : j < i ∨ j = i ∧ x < c
        · rw [if_pos c2, if_pos (by omega)]
        · rw [if_neg c2, if_neg (by omega)]
  · have hin : i = n := by omega
    subst hin
    have eP : rs = P := mat_same hrs hTN.rl hrsw hTN.rw fun j x hj hx => by rw [hrse j x hj hx, if_pos hj]
    subst eP
    refine Wi.call (fn109 (by unfold B64; omega) ?_)
    have ea : (((mAt s.rows r s.v).natAbs : Nat) : Int) = mAt s.rows r s.v := by omega
    rw [ea]
    refine Wi.nilP (Wi.fieldAddr (Wl.put (b := b) (o := 1) (i := 0) h rfl (by simp) fun H h => Wi.lssC (fun q => absurd q (by omega)) fun _ => Wi.fls ?_))
    have h : Ab.Loc H0 (.box b [u, .int .i64 (mAt s.rows r s.v), w, .int .i64 (i : Nat)] :: .rows RS u us rs :: .data RS [w] s.bas :: L) H := h
    unfold f52.j2
    have hrb : r < s.bas.length := by omega
    have eb : s.bas[r] = ((lhLeft i s : Nat) : Int) := by rw [← eleft, atD hrb]
    refine Wi.nilP (Wi.fieldAddr (Wl.get (b := b) (o := 2) h rfl (Wl.atIntH (h.rd (cs := [w]) (x := s.bas)) hrb fun _ => Wi.nilP (Wi.fieldAddr (Wl.get (b := b) (o := 2) h rfl (Wl.setInt (v := w) (j := 2) h (i := r) hrb (by unfold I64; omega) fun H h => ?_))))))
    rw [eb]
    refine hQ _ ?_
    rw [eden, ebas]
    exact h

/-! ### Values -/

def vTo (s : LhS) (n : Nat) : Nat → List Int
  | 0 => List.replicate (2 * n) 0
  | i + 1 => (vTo s n i).set (basF s i) (mAt s.rows i (2 * n))

theorem vTo_len (s : LhS) (n : Nat) : ∀ i, (vTo s n i).length = 2 * n
  | 0 => by simp [vTo]
  | i + 1 => by rw [vTo, List.length_set, vTo_len s n i]

theorem vTo_drop (s : LhS) (n : Nat) : ∀ i, (vTo s n i).drop n = zTo n s i
  | 0 => by
    show (List.replicate (2 * n) (0 : Int)).drop n = List.replicate n 0
    rw [List.drop_replicate]
    congr 1
    omega
  | i + 1 => by
    unfold vTo zTo
    rw [← vTo_drop s n i, List.drop_set]
    by_cases c : basF s i < n
    · rw [if_pos c, if_neg (by omega)]
    · rw [if_neg c, if_pos (by omega)]

theorem fn55 {H0 : Heap} {Q : Post} {b : Nat} {u w : Value} {g : Game} (hg : IsGm g) {s : LhS} (hI : LhI g s) (k : TK H0 b u s.den w (nG g)) (hR : Has RSS H0 [u] s.rows) (hB : Has RS H0 [w] s.bas) (hQ : ∀ H' v, FreshG Rd.int 2 H0 v (vTo s (nG g) (nG g)) H' → Q v H') :
    Runs Tryz.prog 55 #[pt b 0] H0 Q := by
  have hT := hI.rowsT hg
  have n5 := hT.n5
  have hbl := hI.bl
  have hbas := fun k (hk : k < nG g) => hI.bas hk
  generalize hn : nG g = n at *
  refine f55.enter ?_
  unfold f55.w
  refine k.g3 (Wi.mul (by unfold I64; omega) ?_)
  rw [show (2 : Int) * (n : Nat) = ((2 * n : Nat) : Int) by omega]
  refine Wl.make (r := Rd.int) (z := 0) (m := 2 * n) (fun _ => ⟨rfl, rfl, by unfold I64; omega⟩) (Loc.start H0) (by omega) (by decide) fun H v h => ?_
  have l0 := h.le
  refine (k.le h.le).g2 (Wl.lenH (hB.le h.le) ?_)
  rw [hbl]
  refine W.for_rule n (fun i st H => st = (.int .i64 (i : Nat), ()) ∧ Ab.Loc H0 [.grow Rd.int 2 v (vTo s n i)] H) ⟨rfl, h⟩ ?_
  rintro i st H J hi ⟨rfl, h⟩ hJ
  refine Wi.lssC (fun hlt => Wi.tru ?_) fun hge => Wi.fls ?_
  · have hin : i < n := by omega
    have hib : i < s.bas.length := by omega
    obtain ⟨e1, e2⟩ := hbas i hin
    have eb : s.bas[i] = ((basF s i : Nat) : Int) := by rw [← e1, atD hib]
    have hab := hT.ab i (2 * n) hin (by omega)
    refine Wl.atIntH (hB.le h.le) hib fun _ => (k.le h.le).g3 (Wi.mul (by unfold I64; omega) ?_)
    rw [eb]
    refine Wi.lssC (fun _ => Wi.tru ?_) fun q => absurd (by omega) q
    refine Wi.call (fn114 (k.le h.le) (hR.le h.le) hT hin ?_)
    refine Wl.setG (v := v) (j := 0) h (i := basF s i) (by rw [vTo_len]; exact e2) (by unfold I64; omega) fun H h => ?_
    unfold f55.j1
    exact Wi.add (by unfold I64; omega) (hJ _ _ hin ⟨rfl, h⟩)
  · have : i = n := by omega
    subst this
    exact hQ _ _ (h.retGG (i := 0) rfl)

end Go.Proofs.YtbcfknboheghkaaGreat

/-! The contract of the program's LemkeHowson. No condition. -/
namespace Go.Proofs.YtbcfknboheghkaaGreat
open Go.Ab

/- loop.example/g01343/impl.LemkeHowson -/
def f7.l1 (Q : Post) (v15 : Value) (a_1 : Value) (v1 : Value) (I1 : St [11, 12] → Heap → Prop) (v_11 : Value) (steps_12 : Value) (H : Heap) : Prop :=
  W.bin .leq steps_12 (.int .i64 200) H fun v20 H =>
  W.cond v20 H
  (fun H => W.call Tryz.prog (.func (.func 53) #[] #[]) #[v15, v_11] H fun v21 H =>
   W.call Tryz.prog (.func (.func 52) #[] #[]) #[v15, v_11, v21] H fun v22 H =>
   W.bin .eql v22 a_1 H fun v23 H =>
   W.guarded v23 false (fun H k => k v22 H) H fun v24 H =>
   W.guarded v23 false (fun H k => k v15 H) H fun v25 H =>
   W.guarded v23 false (fun H k => W.nilCheck v25 H k) H fun v26 H =>
   W.guarded v23 false (fun H k => W.fieldAddr 3 v26 H k) H fun v27 H =>
   W.guarded v23 false (fun H k => W.get v27 H k) H fun v28 H =>
   W.guarded v23 false (fun H k => k a_1 H) H fun v29 H =>
   W.guarded v23 false (fun H k => W.bin .add v28 v29 H k) H fun v30 H =>
   W.guarded v23 false (fun H k => W.bin .eql v24 v30 H k) H fun v31 H =>
   W.pick v23 (.bool true) v31 H fun v32 H =>
   W.cond v32 H
   (fun H => W.getN 2 v1 H fun v33 H =>
    (fun Hk2 => W.call Tryz.prog (.func (.func 55) #[] #[]) #[v15] H fun v34 H =>
    W.chk (fun H k => W.getN 2 v1 H k) v33 H (W.nilCheck v15 H fun v35 H =>
    W.fieldAddr 3 v35 H fun v36 H =>
    W.get v36 H fun v37 H =>
    W.chk (fun H k => W.get v36 H k) v37 Hk2 (W.slice 1 v34 (some v37) none H fun v38 H =>
    W.call Tryz.prog (.func (.func 54) #[] #[]) #[v33, v38] H fun v39 H =>
    W.extract 0 v39 H fun v40 H =>
    W.extract 1 v39 H fun v41 H =>
    W.bin .neq v41 (.int .i64 0) H fun v42 H =>
    W.cond v42 H
    (fun H => Q (.tuple #[(.slice none 0 0), (.int .i64 0), v41]) H)
    (fun H => Q (.tuple #[v40, steps_12, (.int .i64 0)]) H)))) H)
   (fun H => W.call Tryz.prog (.func (.func 56) #[] #[]) #[v15, v22] H fun v43 H =>
    W.bin .add steps_12 (.int .i64 1) H fun v44 H =>
    I1 (v43, v44, ()) H))
  (fun H => Q (.tuple #[(.slice none 0 0), (.int .i64 0), (.int .i64 3)]) H)
def f7.w (Q : Post) (g_0 : Value) (a_1 : Value) (H : Heap) : Prop :=
  W.box g_0 26 H fun v1 H =>
  W.getN 2 v1 H fun v2 H =>
  W.call Tryz.prog (.func (.func 28) #[] #[]) #[v2] H fun v3 H =>
  W.un .not v3 H fun v4 H =>
  W.cond v4 H
  (fun H => Q (.tuple #[(.slice none 0 0), (.int .i64 0), (.int .i64 1)]) H)
  (fun H => W.getN 2 v1 H fun v5 H =>
   W.call Tryz.prog (.func (.func 48) #[] #[]) #[v5] H fun v6 H =>
   W.extract 0 v6 H fun v7 H =>
   W.extract 1 v6 H fun v8 H =>
   W.bin .add v7 v8 H fun v9 H =>
   W.bin .sub v9 (.int .i64 1) H fun v10 H =>
   W.call Tryz.prog (.func (.func 49) #[] #[]) #[a_1, (.int .i64 0), v10] H fun v11 H =>
   W.un .not v11 H fun v12 H =>
   W.cond v12 H
   (fun H => Q (.tuple #[(.slice none 0 0), (.int .i64 0), (.int .i64 2)]) H)
   (fun H => W.getN 2 v1 H fun v13 H =>
    W.call Tryz.prog (.func (.func 51) #[] #[]) #[v13] H fun v14 H =>
    W.call Tryz.prog (.func (.func 50) #[] #[]) #[v14, (.slice none 0 0)] H fun v15 H =>
    W.nilCheck v15 H fun v16 H =>
    W.fieldAddr 3 v16 H fun v17 H =>
    W.get v17 H fun v18 H =>
    W.bin .add v18 a_1 H fun v19 H =>
    W.loop (S := St [11, 12]) (fun I1 s H => f7.l1 Q v15 a_1 v1 I1 s.1 s.2.1 H) (v19, (.int .i64 1), ()) H))
theorem f7.enter {Q : Post} {g_0 : Value} {a_1 : Value} {H : Heap} (h : f7.w Q g_0 a_1 H) : Runs Tryz.prog 7 #[g_0, a_1] H Q :=
  fn_enter (ann := [(10, [11, 12]), (1000014, [])]) (by kernel_rfl) Tryz.func7 rfl (by kernel_rfl) h (by kernel_rfl)


theorem tkOf {H0 H : Heap} {L : List (Atom H0.next)} {b n i : Nat} {u w : Value} {d : Int} (h : Ab.Loc H0 L H) (hi : L[i]? = some (.box b [u, .int .i64 d, w, .int .i64 (n : Nat)])) : TK H b u d w n := by
  obtain ⟨bs, ⟨_, h1, ty, e, h2⟩, _⟩ := h.mem (List.mem_of_getElem? hi)
  exact ⟨h1, ty, e, h2⟩

/-- A part of a list that was made, and parts of it. -/
theorem sub_cut {H : Heap} {K : Post} {ty : TypeId} {v : Value} {xs : List Int} {n k : Nat} (h : Has (Rd.gslice Rd.int ty) H [v] xs) (hn : 1 ≤ n) (hl : n < xs.length) (hk : k ≤ xs.length - n)
    (c : ∀ w, Has RS H [w] (xs.drop n) → (∀ (H' : Heap) (K' : Post), H.Le H' → (∀ w', Has RS H' [w'] ((xs.drop n).drop k) → K' w' H') → W.slice 1 w (some (.int .i64 k)) none H' K') → K w H) : W.slice 1 v (some (.int .i64 n)) none H K := by
  obtain ⟨bs, w, hw, p⟩ := h
  simp only [List.cons.injEq, and_true] at hw
  subst hw
  rcases p with ⟨rfl, rfl, _⟩ | ⟨b, e, kb, fs, rfl, he, _, _, _, s, _, hesz, _, _⟩
  · simp at hl
  · unfold W.slice
    refine ⟨by omega, by omega, by omega, ?_⟩
    simp only [Int.toNat_natCast]
    rw [if_neg (by omega), if_neg (by omega)]
    simp only [s.blk]
    refine ⟨hesz, ?_⟩
    have sub : ∀ (H' : Heap), H.Le H' → ∀ j, j ≤ xs.length → Has RS H' [.slice (some (adr b j)) (xs.length - j) (e - 2 * j)] (xs.drop j) := fun H' l j hj => by
      have hdl : (xs.drop j).length = xs.length - j := by simp
      refine ⟨_, .inr ⟨b, j, e - 2 * j, kb, fun i => fs (j + i), rfl, by rw [hdl], ⟨by have := s.lt; have := l.next; omega, l.at s.blk s.lt, by rw [hdl]; omega, by rw [hdl]; have := s.small; omega, ?_, fun i hi => ?_⟩⟩⟩
      · rw [hdl]
        have := s.room
        simp only [Rd.int, Nat.mul_one] at this ⊢
        omega
      · have hi' : j + i < xs.length := by rw [hdl] at hi; omega
        rw [List.getElem_drop]
        have q := s.each (j + i) hi'
        have ec : cellsAt Rd.int.n kb.cells j i = cellsAt Rd.int.n kb.cells 0 (j + i) := by
          unfold cellsAt
          simp only [Rd.int, Nat.mul_one, Nat.zero_add]
        rw [ec]
        exact Rd.frame _ q l.next fun c hc => l.blk c (Rd.low _ q c hc)
    have ea : (⟨b, 0, none⟩ : Addr).add (n * 1) = ⟨b, n, none⟩ := by
      rw [Nat.mul_one]
      unfold Addr.add
      simp
      intro e
      omega
    have hsub := sub H (.refl _) n (by omega)
    show K (.slice (some ((adr b 0).add (n * 1))) (xs.length - n) (e - 2 * n)) H
    rw [show (adr b 0).add (n * 1) = adr b n from ea]
    refine c _ hsub fun H' K' l c' => ?_
    unfold W.slice
    refine ⟨by omega, by omega, by omega, ?_⟩
    simp only [Int.toNat_natCast]
    have hdd : (xs.drop n).drop k = xs.drop (n + k) := by rw [List.drop_drop]
    rw [hdd] at c'
    by_cases e1 : k = (e - 2 * n) / 2
    · rw [if_pos e1]
      have hx0 : xs.drop (n + k) = [] := List.drop_of_length_le (by omega)
      rw [hx0] at c'
      split
      · exact c' _ ⟨[], .inl ⟨rfl, rfl, .inr (.inr ⟨_, rfl⟩)⟩⟩
      · exact c' _ ⟨[], .inl ⟨rfl, rfl, .inr (.inl rfl)⟩⟩
    · rw [if_neg e1]
      by_cases e2 : k = 0
      · subst e2
        rw [if_pos rfl]
        exact c' _ (sub H' l n (by omega))
      · rw [if_neg e2]
        simp only [l.at s.blk s.lt]
        refine ⟨hesz, ?_⟩
        have ea2 : (adr b n).add (k * 1) = adr b (n + k) := by
          rw [Nat.mul_one]
          unfold Addr.add adr
          simp
        rw [ea2]
        have := c' _ (sub H' l (n + k) (by omega))
        rw [show xs.length - (n + k) = xs.length - n - k by omega, show e - 2 * (n + k) = e - 2 * n - 2 * k by omega] at this
        exact this

theorem fnG7 {H0 : Heap} {Q : Post} {cs : List Value} {g : Game} {a : Int} (hr : Has RGame H0 cs g) (ha : I64 a) (hw : wGame g ≤ 1048576) (hQ : ∀ H' u, FreshG RFrac 39 H0 u (lhRes g a).1 H' → Q (.tuple #[u, .int .i64 (lhRes g a).2.1, .int .i64 (lhRes g a).2.2]) H') :
    Runs Tryz.prog 7 #[.agg cs.toArray, .int .i64 a] H0 Q := by
  obtain ⟨u1, u2, rfl, r1, r2⟩ := hasGame hr
  have hz : ∀ H c, H0.Le H → lhRes g a = ([], 0, c) → Q (.tuple #[.slice none 0 0, .int .i64 0, .int .i64 c]) H := fun H c l e => by
    have := hQ H (.slice none 0 0) (by rw [e]; exact ⟨l, [], .inl ⟨rfl, rfl, rfl⟩, fun c hc => by cases hc⟩)
    rw [e] at this
    exact this
  have h := ((Loc.start H0).lent r1).lent hr
  refine f7.enter ?_
  unfold f7.w
  refine Wl.box (cs := [u1, u2]) h fun H b1 h => Wl.getA (b := b1) h rfl (Wi.call (fn28 (h.rd (cs := [u1, u2]) (x := g)) hw fun H t l ht => ?_))
  have h := h.to l
  cases t with
  | false =>
    simp only [gw]
    exact hz _ _ h.le (by unfold lhRes; rw [if_neg (fun q => Bool.noConfusion (ht.2 q))])
  | true =>
  have hg := ht.1 rfl
  have k1 := hg.k1
  have hk0 : 0 < g.1.length := by omega
  have hlw := lw_at hk0
  have hnn : nG g = g.1.length + lw g := rfl
  have n5 : nG g ≤ 5 := hg.kl
  simp only [gw]
  refine Wl.getA (b := b1) h rfl (Wi.call (f48.enter (Wl.box h fun H b3 h => Wi.fieldAddr0 (Wl.get (b := b3) h rfl (Wl.len (v := u1) (xs := g.1) h (Wi.fieldAddr0 (Wl.get (b := b3) h rfl (Wl.at1 (v := u1) (xs := g.1) (i := 0) rfl h hk0 fun w hw => Wl.lenH hw ?_))))))))
  have h := h.tl
  rw [← hlw]
  simp only [gw]
  refine Wi.add (by unfold I64; omega) (Wi.sub (by unfold I64; omega) (Wi.call (fn49 ?_)))
  cases hin : inR 0 ((g.1.length : Nat) + (lw g : Nat) - 1 : Int) a with
  | false =>
    simp only [gw]
    refine hz _ _ h.le ?_
    unfold lhRes
    rw [if_pos hg, if_neg fun q => ?_]
    have : inR 0 ((g.1.length : Nat) + (lw g : Nat) - 1 : Int) a = true := inR_iff.2 ⟨q.1, by omega⟩
    rw [hin] at this
    cases this
  | true =>
  have hin := inR_iff.1 hin
  obtain ⟨a, rfl⟩ : ∃ k : Nat, a = (k : Int) := ⟨a.toNat, by omega⟩
  have han : a < nG g := by omega
  simp only [gw]
  refine Wl.getA (b := b1) h rfl (Wi.call (fn51 (h.rd (cs := [u1, u2]) (x := g)) hg fun H w1 w2 f => ?_))
  have h := h.add f
  refine Wi.call (fn50 hg (h.rd (cs := [w1, w2]) (x := gmP g)) fun H b u w k => ?_)
  have h : Ab.Loc H0 (.box b [u, .int .i64 1, w, .int .i64 (nG g : Nat)] :: .data RSS [u] (lhRows0 g) :: .data RS [w] (bas0 (nG g)) :: .data RProblem [w1, w2] (gmP g) :: .box b1 [u1, u2] :: .lent RGame [u1, u2] g :: .lent RSS [u1] g.1 :: []) H := h.join (M' := [.box b [u, .int .i64 1, w, .int .i64 (nG g : Nat)], .data RSS [u] (lhRows0 g), .data RS [w] (bas0 (nG g))]) k fun j a hj => by
    match j, hj with
    | 0, hj => simp at hj; subst hj; exact ⟨_, rfl, fun bs h => h⟩
    | 1, hj => simp at hj; subst hj; exact ⟨_, rfl, fun bs h => h⟩
    | 2, hj => simp at hj; subst hj; exact ⟨_, rfl, fun bs h => h⟩
    | j + 3, hj => simp at hj
  obtain ⟨us, hus, h⟩ := h.heads (i := 1) rfl rfl
  have h : Ab.Loc H0 [.box b [u, .int .i64 (lhIt g a 0).den, w, .int .i64 (nG g : Nat)], .rows RS u us (lhIt g a 0).rows, .data RS [w] (lhIt g a 0).bas, .data RProblem [w1, w2] (gmP g), .box b1 [u1, u2], .lent RGame [u1, u2] g, .lent RSS [u1] g.1] H := h
  have inv := lh_inv hg han
  refine Wi.nilP (Wi.fieldAddr (Wl.get (b := b) (o := 3) h rfl (Wi.add (by unfold I64; omega) ?_)))
  rw [show ((nG g : Nat) : Int) + ((a : Nat) : Int) = (((lhIt g a 0).v : Nat) : Int) by show _ = ((nG g + a : Nat) : Int); omega]
  refine W.for_rule 200 (fun m st H => st = (.int .i64 ((lhIt g a m).v : Nat), .int .i64 ((m + 1 : Nat) : Int), ()) ∧ (∀ j, j < m → ¬ lhEnd g a j) ∧ Ab.Loc H0 [.box b [u, .int .i64 (lhIt g a m).den, w, .int .i64 (nG g : Nat)], .rows RS u us (lhIt g a m).rows, .data RS [w] (lhIt g a m).bas, .data RProblem [w1, w2] (gmP g), .box b1 [u1, u2], .lent RGame [u1, u2] g, .lent RSS [u1] g.1] H) ⟨rfl, fun j hj => by omega, h⟩ ?_
  rintro m st H J hm ⟨rfl, hno, h⟩ hJ
  unfold f7.l1
  generalize htop : (200 : Int) = top
  refine Wi.leqC (fun hle => Wi.tru ?_) fun hgt => Wi.fls ?_
  · have hm2 : m < 200 := by omega
    have hI := inv m
    have hT := hI.rowsT hg
    obtain ⟨hl, hle2⟩ := hI.least hg
    have hv2 := hI.vl
    refine Wi.call (fn53 (tkOf h (i := 0) rfl) (h.rd (cs := [u]) (r := RSS) (x := (lhIt g a m).rows)) hT (v := (lhIt g a m).v) (by omega) fun H l => ?_)
    have h := h.to l
    rw [hle2]
    refine Wi.call (fn52 hg hI h fun H h => ?_)
    have h : Ab.Loc H0 [.box b [u, .int .i64 (lhIt g a (m + 1)).den, w, .int .i64 (nG g : Nat)], .rows RS u us (lhIt g a (m + 1)).rows, .data RS [w] (lhIt g a (m + 1)).bas, .data RProblem [w1, w2] (gmP g), .box b1 [u1, u2], .lent RGame [u1, u2] g, .lent RSS [u1] g.1] H := h
    have hI2 := inv (m + 1)
    have hlb : lhLeft (nG g) (lhIt g a m) < 2 * nG g := (hI.bas hl.lt).2
    by_cases hend : lhEnd g a m
    · have hres := lhRes_some hg han hm2 hno hend
      obtain ⟨s1, s2⟩ := lh_parts hg han hno hend
      have hzl := zOf_len (nG g) (lhIt g a (m + 1))
      have hza : ∀ x ∈ zOf (nG g) (lhIt g a (m + 1)), x.natAbs ≤ 1920000000 := fun x hx => by have := (zOf_abs hg hI2 x hx).2; omega
      have go : W.getN 2 (pt b1 0) H fun v33 H => (fun Hk2 => W.call Tryz.prog (.func (.func 55) #[] #[]) #[pt b 0] H fun v34 H => W.chk (fun H k => W.getN 2 (pt b1 0) H k) v33 H (W.nilCheck (pt b 0) H fun v35 H => W.fieldAddr 3 v35 H fun v36 H => W.get v36 H fun v37 H => W.chk (fun H k => W.get v36 H k) v37 Hk2 (W.slice 1 v34 (some v37) none H fun v38 H => W.call Tryz.prog (.func (.func 54) #[] #[]) #[v33, v38] H fun v39 H => W.extract 0 v39 H fun v40 H => W.extract 1 v39 H fun v41 H => W.bin .neq v41 (.int .i64 0) H fun v42 H => W.cond v42 H (fun H => Q (.tuple #[.slice none 0 0, .int .i64 0, v41]) H) (fun H => Q (.tuple #[v40, .int .i64 ((m + 1 : Nat) : Int), .int .i64 0]) H)))) H := by
        refine Wl.getA (b := b1) h rfl ?_
        have hk := h
        refine Wi.call (fn55 hg hI2 (tkOf h (i := 0) rfl) (h.rd (cs := [u]) (r := RSS) (x := (lhIt g a (m + 1)).rows)) (h.rd (cs := [w]) (x := (lhIt g a (m + 1)).bas)) fun H v f => ?_)
        have h := h.addG f
        refine Wi.chk (Wl.getA (b := b1) h rfl ⟨rfl, rfl⟩) (Wi.nilP (Wi.fieldAddr (Wl.get (b := b) (o := 3) h rfl (Wi.chk (Wl.get (b := b) (o := 3) hk rfl ⟨rfl, rfl⟩) ?_))))
        have h := h.asG (i := 0) rfl
        have hgs : Has (Rd.gslice Rd.int 2) H [v] (vTo (lhIt g a (m + 1)) (nG g) (nG g)) := h.rd (cs := [v])
        have hvl := vTo_len (lhIt g a (m + 1)) (nG g) (nG g)
        refine sub_cut (k := g.1.length) hgs (by omega) (by omega) (by omega) fun vz hvz hcut => ?_
        have ez : (vTo (lhIt g a (m + 1)) (nG g) (nG g)).drop (nG g) = zOf (nG g) (lhIt g a (m + 1)) := vTo_drop _ _ _
        rw [ez] at hvz hcut
        refine Wi.call (fnCG54 (h.rd (cs := [u1, u2]) (x := g)) hg hvz hcut hzl hza s1 s2 fun H x f => ?_)
        have h := h.addG f
        simp only [gw]
        refine Wi.neqC (fun hne => Wi.tru ?_) fun he => Wi.fls ?_
        · exact hz _ _ h.le (by rw [hres, if_neg hne])
        · have := hQ H x (by rw [hres, if_pos he]; exact h.retGG (i := 0) rfl)
          rw [hres, if_pos he] at this
          exact this
      by_cases e1 : lhLeft (nG g) (lhIt g a m) = a
      · refine Wi.eqlC (fun _ => ?_) fun q => absurd (by rw [e1]) q
        simp only [gw]
        exact go
      · have e2 := hend.resolve_left e1
        refine Wi.eqlC (fun q => absurd (by omega) e1) fun _ => ?_
        simp only [gw]
        refine Wi.nilP (Wi.fieldAddr (Wl.get (b := b) (o := 3) h rfl (Wi.add (by unfold I64; omega) (Wi.eqlC (fun _ => ?_) fun q => absurd (by rw [e2]; omega) q))))
        simp only [gw]
        exact go
    · refine Wi.eqlC (fun q => absurd (.inl (by omega)) hend) fun _ => ?_
      simp only [gw]
      refine Wi.nilP (Wi.fieldAddr (Wl.get (b := b) (o := 3) h rfl (Wi.add (by unfold I64; omega) (Wi.eqlC (fun q => absurd (.inr (by omega)) hend) fun _ => ?_))))
      simp only [gw]
      refine Wi.call (fn56 (tkOf h (i := 0) rfl) n5 hlb ?_)
      refine Wi.add (by unfold I64; omega) (hJ _ _ hm2 ⟨rfl, fun j hj => ?_, h⟩)
      by_cases c : j = m
      · subst c; exact hend
      · exact hno j (by omega)
  · have hm2 : m = 200 := by omega
    subst hm2
    exact hz _ _ h.le (lhRes_none hg han hno)

end Go.Proofs.YtbcfknboheghkaaGreat
