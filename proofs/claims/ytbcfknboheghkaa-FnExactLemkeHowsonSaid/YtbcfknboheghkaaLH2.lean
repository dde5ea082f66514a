/- Contracts of the program's table: what only reads. No condition. -/
import Derived.Test.YtbcfknboheghkaaLH0
import Derived.Test.YtbcfknboheghkaaSGN
import Derived.Test.YtbcfknboheghkaaZabTabW
import Derived.Test.YtbcfknboheghkaaZabG8
namespace Go.Proofs.Ytbcfknboheghkaa
open Go.Ab

/- (*loop.example/g01343/impl.table).right -/
def f50.w (Q : Post) (t_0 : Value) (i_1 : Value) (H : Heap) : Prop :=
  W.nilCheck t_0 H fun v1 H =>
  W.fieldAddr 0 v1 H fun v2 H =>
  W.get v2 H fun v3 H =>
  W.indexAddr 1 v3 i_1 H fun v4 H =>
  W.get v4 H fun v5 H =>
  W.nilCheck t_0 H fun v6 H =>
  W.fieldAddr 0 v6 H fun v7 H =>
  W.get v7 H fun v8 H =>
  W.indexAddr 1 v8 i_1 H fun v9 H =>
  W.get v9 H fun v10 H =>
  W.len v10 H fun v11 H =>
  W.bin .sub v11 (.int .i64 1) H fun v12 H =>
  W.indexAddr 1 v5 v12 H fun v13 H =>
  W.get v13 H fun v14 H =>
  Q v14 H
theorem f50.enter {Q : Post} {t_0 : Value} {i_1 : Value} {H : Heap} (h : f50.w Q t_0 i_1 H) : Runs Try.prog 50 #[t_0, i_1] H Q :=
  fn_enter (ann := []) (by kernel_rfl) Try.func50 rfl (by kernel_rfl) h (by kernel_rfl)

/- (*loop.example/g01343/impl.table).key -/
def f68.w (Q : Post) (t_0 : Value) (i_1 : Value) (H : Heap) : Prop :=
  W.callQ Try.prog (.func (.func 50) #[] #[]) #[t_0, i_1] H fun v1 H =>
  W.lit 1 [(.int .i64 0)] 2 [(0, 1, v1)] H fun v2 H =>
  W.nilCheck t_0 H fun v3 H =>
  W.fieldAddr 0 v3 H fun v4 H =>
  W.get v4 H fun v5 H =>
  W.indexAddr 1 v5 i_1 H fun v6 H =>
  W.get v6 H fun v7 H =>
  W.nilCheck t_0 H fun v8 H =>
  W.fieldAddr 3 v8 H fun v9 H =>
  W.get v9 H fun v10 H =>
  W.slice 1 v7 none (some v10) H fun v11 H =>
  W.append 1 2 v2 v11 H fun v12 H =>
  Q v12 H
theorem f68.enter {Q : Post} {t_0 : Value} {i_1 : Value} {H : Heap} (h : f68.w Q t_0 i_1 H) : Runs Try.prog 68 #[t_0, i_1] H Q :=
  fn_enter (ann := []) (by kernel_rfl) Try.func68 rfl (by kernel_rfl) h (by kernel_rfl)

/- (*loop.example/g01343/impl.table).isLess -/
def f60.w (Q : Post) (t_0 : Value) (i_1 : Value) (by_2 : Value) (k_3 : Value) (other_4 : Value) (H : Heap) : Prop :=
  W.box by_2 2 H fun v1 H =>
  W.box other_4 2 H fun v2 H =>
  W.call Try.prog (.func (.func 68) #[] #[]) #[t_0, i_1] H fun v3 H =>
  W.call Try.prog (.func (.func 68) #[] #[]) #[t_0, k_3] H fun v4 H =>
  W.call Try.prog (.func (.func 67) #[] #[]) #[v3, v4, (.func (.func 69) #[] #[v2, v1])] H fun v5 H =>
  W.bin .lss v5 (.int .i64 0) H fun v6 H =>
  Q v6 H
theorem f60.enter {Q : Post} {t_0 : Value} {i_1 : Value} {by_2 : Value} {k_3 : Value} {other_4 : Value} {H : Heap} (h : f60.w Q t_0 i_1 by_2 k_3 other_4 H) : Runs Try.prog 60 #[t_0, i_1, by_2, k_3, other_4] H Q :=
  fn_enter (ann := []) (by kernel_rfl) Try.func60 rfl (by kernel_rfl) h (by kernel_rfl)

/- (*loop.example/g01343/impl.table).isLess$1 -/
def f69.w (Q : Post) (a_0 : Value) (b_1 : Value) (x_2 : Value) (x_3 : Value) (H : Heap) : Prop :=
  W.get x_2 H fun v1 H =>
  W.bin .mul a_0 v1 H fun v2 H =>
  W.get x_3 H fun v3 H =>
  W.bin .mul b_1 v3 H fun v4 H =>
  W.bin .sub v2 v4 H fun v5 H =>
  W.call Try.prog (.func (.func 70) #[] #[]) #[v5] H fun v6 H =>
  Q v6 H
theorem f69.enter {Q : Post} {a_0 : Value} {b_1 : Value} {x_2 : Value} {x_3 : Value} {H : Heap} (h : f69.w Q a_0 b_1 x_2 x_3 H) : Runs Try.prog 69 #[a_0, b_1, x_2, x_3] H Q :=
  fn_enter (ann := []) (by kernel_rfl) Try.func69 rfl (by kernel_rfl) h (by kernel_rfl)

/- (*loop.example/g01343/impl.table).least -/
def f45.j1 (Q : Post) (x_12 : Value) (I1 : St [5, 12] → Heap → Prop) (best_5' : Value) (H : Heap) : Prop :=
  W.bin .add x_12 (.int .i64 1) H fun v23 H =>
  I1 (best_5', v23, ()) H
def f45.l1 (Q : Post) (v4 : Value) (by_1 : Value) (t_0 : Value) (I1 : St [5, 12] → Heap → Prop) (best_5 : Value) (x_12 : Value) (H : Heap) : Prop :=
  W.bin .lss x_12 v4 H fun v5 H =>
  W.cond v5 H
  (fun H => W.call Try.prog by_1 #[x_12] H fun v6 H =>
   W.bin .gtr v6 (.int .i64 0) H fun v7 H =>
   W.guarded v7 true (fun H k => k best_5 H) H fun v8 H =>
   W.guarded v7 true (fun H k => W.bin .lss v8 (.int .i64 0) H k) H fun v9 H =>
   W.guarded v7 true (fun H k => k v9 H) H fun v10 H =>
   W.guarded v10 false (fun H k => k t_0 H) H fun v11 H =>
   W.guarded v10 false (fun H k => k x_12 H) H fun v12 H =>
   W.guarded v10 false (fun H k => k by_1 H) H fun v13 H =>
   W.guarded v10 false (fun H k => k x_12 H) H fun v14 H =>
   W.guarded v10 false (fun H k => W.call Try.prog v13 #[v14] H k) H fun v15 H =>
   W.guarded v10 false (fun H k => k best_5 H) H fun v16 H =>
   W.guarded v10 false (fun H k => k by_1 H) H fun v17 H =>
   W.guarded v10 false (fun H k => k best_5 H) H fun v18 H =>
   W.guarded v10 false (fun H k => W.call Try.prog v17 #[v18] H k) H fun v19 H =>
   W.guarded v10 false (fun H k => W.call Try.prog (.func (.func 60) #[] #[]) #[v11, v12, v15, v16, v19] H k) H fun v20 H =>
   W.guarded v7 true (fun H k => W.pick v10 (.bool true) v20 H k) H fun v21 H =>
   W.pick v7 v21 (.bool false) H fun v22 H =>
   W.cond v22 H
   (fun H => f45.j1 Q x_12 I1 x_12 H)
   (fun H => f45.j1 Q x_12 I1 best_5 H))
  (fun H => Q best_5 H)
def f45.w (Q : Post) (t_0 : Value) (by_1 : Value) (H : Heap) : Prop :=
  W.nilCheck t_0 H fun v1 H =>
  W.fieldAddr 0 v1 H fun v2 H =>
  W.get v2 H fun v3 H =>
  W.len v3 H fun v4 H =>
  W.loop (S := St [5, 12]) (fun I1 s H => f45.l1 Q v4 by_1 t_0 I1 s.1 s.2.1 H) ((.int .i64 (-1)), (.int .i64 0), ()) H
theorem f45.enter {Q : Post} {t_0 : Value} {by_1 : Value} {H : Heap} (h : f45.w Q t_0 by_1 H) : Runs Try.prog 45 #[t_0, by_1] H Q :=
  fn_enter (ann := [(3, [5, 12])]) (by kernel_rfl) Try.func45 rfl (by kernel_rfl) h (by kernel_rfl)

/- (*loop.example/g01343/impl.table).enterBy -/
def f29.w (Q : Post) (t_0 : Value) (v_1 : Value) (H : Heap) : Prop :=
  W.box t_0 54 H fun v1 H =>
  W.box v_1 3 H fun v2 H =>
  W.get v1 H fun v3 H =>
  W.call Try.prog (.func (.func 45) #[] #[]) #[v3, (.func (.func 46) #[] #[v1, v2])] H fun v4 H =>
  Q v4 H
theorem f29.enter {Q : Post} {t_0 : Value} {v_1 : Value} {H : Heap} (h : f29.w Q t_0 v_1 H) : Runs Try.prog 29 #[t_0, v_1] H Q :=
  fn_enter (ann := []) (by kernel_rfl) Try.func29 rfl (by kernel_rfl) h (by kernel_rfl)

/- (*loop.example/g01343/impl.table).enterBy$1 -/
def f46.w (Q : Post) (i_0 : Value) (x_1 : Value) (x_2 : Value) (H : Heap) : Prop :=
  W.get x_1 H fun v1 H =>
  W.nilCheck v1 H fun v2 H =>
  W.fieldAddr 0 v2 H fun v3 H =>
  W.get v3 H fun v4 H =>
  W.indexAddr 1 v4 i_0 H fun v5 H =>
  W.get v5 H fun v6 H =>
  W.get x_2 H fun v7 H =>
  W.indexAddr 1 v6 v7 H fun v8 H =>
  W.get v8 H fun v9 H =>
  Q v9 H
theorem f46.enter {Q : Post} {i_0 : Value} {x_1 : Value} {x_2 : Value} {H : Heap} (h : f46.w Q i_0 x_1 x_2 H) : Runs Try.prog 46 #[i_0, x_1, x_2] H Q :=
  fn_enter (ann := []) (by kernel_rfl) Try.func46 rfl (by kernel_rfl) h (by kernel_rfl)

/- (*loop.example/g01343/impl.table).partner -/
def f32.w (Q : Post) (t_0 : Value) (v_1 : Value) (H : Heap) : Prop :=
  W.nilCheck t_0 H fun v1 H =>
  W.fieldAddr 3 v1 H fun v2 H =>
  W.get v2 H fun v3 H =>
  W.bin .lss v_1 v3 H fun v4 H =>
  W.cond v4 H
  (fun H => W.nilCheck t_0 H fun v5 H =>
   W.fieldAddr 3 v5 H fun v6 H =>
   W.get v6 H fun v7 H =>
   W.bin .add v_1 v7 H fun v8 H =>
   Q v8 H)
  (fun H => W.nilCheck t_0 H fun v9 H =>
   W.fieldAddr 3 v9 H fun v10 H =>
   W.get v10 H fun v11 H =>
   W.bin .sub v_1 v11 H fun v12 H =>
   Q v12 H)
theorem f32.enter {Q : Post} {t_0 : Value} {v_1 : Value} {H : Heap} (h : f32.w Q t_0 v_1 H) : Runs Try.prog 32 #[t_0, v_1] H Q :=
  fn_enter (ann := []) (by kernel_rfl) Try.func32 rfl (by kernel_rfl) h (by kernel_rfl)

/- slices.CompareFunc[[]int64,[]int64,int64,int64] -/
def f67.l1 (Q : Post) (v1 : Value) (s1_0 : Value) (s2_1 : Value) (cmp_2 : Value) (I1 : St [13] → Heap → Prop) (x_13 : Value) (H : Heap) : Prop :=
  W.bin .lss x_13 v1 H fun v2 H =>
  W.cond v2 H
  (fun H => W.indexAddr 1 s1_0 x_13 H fun v3 H =>
   W.get v3 H fun v4 H =>
   W.len s2_1 H fun v5 H =>
   W.bin .geq x_13 v5 H fun v6 H =>
   W.cond v6 H
   (fun H => Q (.int .i64 1) H)
   (fun H => W.indexAddr 1 s2_1 x_13 H fun v7 H =>
    W.get v7 H fun v8 H =>
    W.call Try.prog cmp_2 #[v4, v8] H fun v9 H =>
    W.bin .neq v9 (.int .i64 0) H fun v10 H =>
    W.cond v10 H
    (fun H => Q v9 H)
    (fun H => W.bin .add x_13 (.int .i64 1) H fun v11 H =>
     I1 (v11, ()) H)))
  (fun H => W.len s1_0 H fun v12 H =>
   W.len s2_1 H fun v13 H =>
   W.bin .lss v12 v13 H fun v14 H =>
   W.cond v14 H
   (fun H => Q (.int .i64 (-1)) H)
   (fun H => Q (.int .i64 0) H))
def f67.w (Q : Post) (s1_0 : Value) (s2_1 : Value) (cmp_2 : Value) (H : Heap) : Prop :=
  W.len s1_0 H fun v1 H =>
  W.loop (S := St [13]) (fun I1 s H => f67.l1 Q v1 s1_0 s2_1 cmp_2 I1 s.1 H) ((.int .i64 0), ()) H
theorem f67.enter {Q : Post} {s1_0 : Value} {s2_1 : Value} {cmp_2 : Value} {H : Heap} (h : f67.w Q s1_0 s2_1 cmp_2 H) : Runs Try.prog 67 #[s1_0, s2_1, cmp_2] H Q :=
  fn_enter (ann := [(2, [13])]) (by kernel_rfl) Try.func67 rfl (by kernel_rfl) h (by kernel_rfl)


theorem leastTo_no {n v i : Nat} {rows : List (List Int)} (h : ¬ (0 < mAt rows i v ∧ (leastTo n rows v i < 0 ∨ keyLess n rows v i (leastTo n rows v i).toNat))) : leastTo n rows v (i + 1) = leastTo n rows v i := if_neg h

/-- A table's variable. -/
structure TK (H : Heap) (b : Nat) (u : Value) (d : Int) (w : Value) (n : Nat) : Prop where
  lt : b < H.next
  blk : ∃ ty e, H.blk b = some ⟨[u, .int .i64 d, w, .int .i64 (n : Nat)], ty, e, false⟩

section
variable {H H' : Heap} {b n : Nat} {u w : Value} {d : Int} {K : Post}

theorem TK.le (k : TK H b u d w n) (l : H.Le H') : TK H' b u d w n := by
  obtain ⟨ty, e, h⟩ := k.blk
  exact ⟨by have := k.lt; have := l.next; omega, ty, e, l.at h k.lt⟩

theorem TK.g0 (k : TK H b u d w n) (c : K u H) : W.nilCheck (pt b 0) H fun v H => W.fieldAddr 0 v H fun v H => W.get v H K := by
  obtain ⟨ty, e, h⟩ := k.blk
  exact Wi.nilP (Wi.fieldAddr (Wi.get h rfl c))
theorem TK.g1 (k : TK H b u d w n) (c : K (.int .i64 d) H) : W.nilCheck (pt b 0) H fun v H => W.fieldAddr 1 v H fun v H => W.get v H K := by
  obtain ⟨ty, e, h⟩ := k.blk
  exact Wi.nilP (Wi.fieldAddr (Wi.get h rfl c))
theorem TK.g2 (k : TK H b u d w n) (c : K w H) : W.nilCheck (pt b 0) H fun v H => W.fieldAddr 2 v H fun v H => W.get v H K := by
  obtain ⟨ty, e, h⟩ := k.blk
  exact Wi.nilP (Wi.fieldAddr (Wi.get h rfl c))
theorem TK.g3 (k : TK H b u d w n) (c : K (.int .i64 (n : Nat)) H) : W.nilCheck (pt b 0) H fun v H => W.fieldAddr 3 v H fun v H => W.get v H K := by
  obtain ⟨ty, e, h⟩ := k.blk
  exact Wi.nilP (Wi.fieldAddr (Wi.get h rfl c))

end

/-- Rows of a table: n rows of 2 n + 1 numbers that are not too large. -/
structure RowsT (n : Nat) (rows : List (List Int)) : Prop where
  n5 : n ≤ 5
  rl : rows.length = n
  rw : ∀ r ∈ rows, r.length = 2 * n + 1
  ab : ∀ i c, i < n → c < 2 * n + 1 → (mAt rows i c).natAbs ≤ 384000000

section
variable {n : Nat} {rows : List (List Int)}

theorem RowsT.at (h : RowsT n rows) {i c : Nat} (hi : i < rows.length) (hc : c < rows[i].length) : rows[i][c] = mAt rows i c := by
  unfold mAt
  rw [show rows.getD i [] = rows[i] by simp [List.getD_eq_getElem?_getD, List.getElem?_eq_getElem hi], atD hc]

def keyL (n : Nat) (rows : List (List Int)) (i : Nat) : List Int := mAt rows i (2 * n) :: (rows.getD i []).take n

theorem keyL_len (h : RowsT n rows) {i : Nat} (hi : i < n) : (keyL n rows i).length = n + 1 := by
  have hi2 : i < rows.length := by rw [h.rl]; exact hi
  have := h.rw _ (List.getElem_mem hi2)
  unfold keyL
  rw [show rows.getD i [] = rows[i] by simp [List.getD_eq_getElem?_getD, List.getElem?_eq_getElem hi2]]
  simp
  omega

theorem keyL_at (h : RowsT n rows) {i : Nat} (hi : i < n) {j : Nat} (hj : j < n + 1) : (keyL n rows i).getD j 0 = keyF (lhW n) (mAt rows) i j := by
  have hi2 : i < rows.length := by rw [h.rl]; exact hi
  have hl := h.rw _ (List.getElem_mem hi2)
  unfold keyL keyF lhW
  cases j with
  | zero => rfl
  | succ j =>
    rw [if_neg (by omega)]
    show ((rows.getD i []).take n).getD j 0 = mAt rows i (j + 1 - 1)
    unfold mAt
    simp [List.getD_eq_getElem?_getD, List.getElem?_take, show j < n by omega]

end

section
variable {H0 : Heap} {Q : Post} {b n : Nat} {u w : Value} {d : Int} {rows : List (List Int)} {bas : List Int}

theorem fn50 (k : TK H0 b u d w n) (hR : Has RSS H0 [u] rows) (hT : RowsT n rows) {i : Nat} (hi : i < n) (hQ : Q (.int .i64 (mAt rows i (2 * n))) H0) : Runs Try.prog 50 #[pt b 0, .int .i64 (i : Nat)] H0 Q := by
  have hi2 : i < rows.length := by rw [hT.rl]; exact hi
  have hl := hT.rw _ (List.getElem_mem hi2)
  have n5 := hT.n5
  refine f50.enter ?_
  unfold f50.w
  refine k.g0 (Wl.at1H rfl hR hi2 fun r hr => k.g0 (Wl.at1H rfl hR hi2 fun r2 hr2 => Wl.lenH hr2 (Wi.sub (by unfold I64; omega) ?_)))
  rw [hl, show ((2 * n + 1 : Nat) : Int) - 1 = (2 * n : Nat) by omega]
  refine Wl.atIntH hr (i := 2 * n) (by omega) fun _ => ?_
  rw [hT.at]
  exact hQ

theorem fn68 (k : TK H0 b u d w n) (hR : Has RSS H0 [u] rows) (hT : RowsT n rows) {i : Nat} (hi : i < n) (hQ : ∀ H' v, Fresh RS H0 [v] (keyL n rows i) H' → Q v H') : Runs Try.prog 68 #[pt b 0, .int .i64 (i : Nat)] H0 Q := by
  have hi2 : i < rows.length := by rw [hT.rl]; exact hi
  have hl := hT.rw _ (List.getElem_mem hi2)
  have n5 := hT.n5
  have ha := hT.ab i (2 * n) hi (by omega)
  refine f68.enter ?_
  unfold f68.w
  refine Wi.callQ (fn50 k hR hT hi ⟨.refl _, ?_⟩)
  refine Wl.litG [mAt rows i (2 * n)] rfl (by simp) (fun x hx => by rw [List.mem_singleton] at hx; rw [hx]; unfold I64; omega) rfl (Loc.start H0) fun H v h => ?_
  refine (k.le h.le).g0 (Wl.at1H rfl (hR.le h.le) hi2 fun r hr => (k.le h.le).g3 (Wl.cutLoH hr (k := n) (by omega) fun w hw => ?_))
  refine Wl.appendH (r := Rd.int) (i := 0) rfl h rfl hw (by simp; omega) fun H' v' h => ?_
  have := hQ H' v' ?_
  · exact this
  · have e : keyL n rows i = [mAt rows i (2 * n)] ++ rows[i].take n := by
      unfold keyL
      rw [show rows.getD i [] = rows[i] by simp [List.getD_eq_getElem?_getD, List.getElem?_eq_getElem hi2]]
      rfl
    rw [e]
    exact h.retG (i := 0) rfl

/-- Keys compared. -/
theorem fn67 {va vb : Value} {xs ys : List Int} {m b1 b2 : Nat} {p q : Int} (hx : Has RS H0 [va] xs) (hy : Has RS H0 [vb] ys) (hl : xs.length = m) (hl2 : ys.length = m) (h1 : ∃ ty e, H0.blk b1 = some ⟨[.int .i64 p], ty, e, false⟩) (h2 : ∃ ty e, H0.blk b2 = some ⟨[.int .i64 q], ty, e, false⟩)
    (hp : p.natAbs ≤ 384000000) (hq : q.natAbs ≤ 384000000) (hxa : ∀ x ∈ xs, x.natAbs ≤ 384000000) (hya : ∀ x ∈ ys, x.natAbs ≤ 384000000)
    (hQ : ∀ c : Int, (c < 0 ↔ lexLt m (fun j => p * xs.getD j 0) fun j => q * ys.getD j 0) → Q (.int .i64 c) H0) :
    Runs Try.prog 67 #[va, vb, .func (.func 69) #[] #[pt b1 0, pt b2 0]] H0 Q := by
  obtain ⟨ty1, e1, k1⟩ := h1
  obtain ⟨ty2, e2, k2⟩ := h2
  have hs := hx.small
  refine f67.enter (Wl.lenH hx ?_)
  rw [hl]
  refine W.for_rule m (fun i st H => H = H0 ∧ st = (.int .i64 (i : Nat), ()) ∧ ∀ j, j < i → p * xs.getD j 0 = q * ys.getD j 0) ⟨rfl, rfl, fun j hj => by omega⟩ ?_
  rintro i st H J hi ⟨rfl, rfl, hbef⟩ hJ
  refine Wi.lssC (fun hlt => Wi.tru ?_) fun hge => Wi.fls ?_
  · have him : i < m := by omega
    have hix : i < xs.length := by omega
    have hiy : i < ys.length := by omega
    have ex : xs.getD i 0 = xs[i] := atD hix
    have ey : ys.getD i 0 = ys[i] := atD hiy
    have ax := hxa _ (List.getElem_mem hix)
    have ay := hya _ (List.getElem_mem hiy)
    have m1 := mulA ax hp
    have m2 := mulA ay hq
    refine Wl.atIntH hx hix fun _ => Wl.lenH hy (Wi.geqC (fun g => absurd g (by omega)) fun _ => Wi.fls (Wl.atIntH hy hiy fun _ => ?_))
    refine Wi.callV (f69.enter ?_)
    unfold f69.w
    refine Wi.get k1 rfl (Wi.mul (by unfold I64; omega) (Wi.get k2 rfl (Wi.mul (by unfold I64; omega) (Wi.sub (by unfold I64; omega) (Wi.call (fn70 ?_))))))
    by_cases e : p * xs.getD i 0 = q * ys.getD i 0
    · have e0 : xs[i] * p - ys[i] * q = 0 := by
        rw [ex, ey] at e
        rw [Int.mul_comm, Int.mul_comm ys[i]]
        omega
      rw [e0]
      refine Wi.neqC (fun g => absurd rfl g) fun _ => Wi.fls (Wi.add (by unfold I64; omega) (hJ _ _ him ⟨rfl, rfl, fun j hj => ?_⟩))
      by_cases c : j = i
      · subst c; exact e
      · exact hbef j (by omega)
    · have e0 : xs[i] * p - ys[i] * q = p * xs.getD i 0 - q * ys.getD i 0 := by rw [ex, ey, Int.mul_comm, Int.mul_comm ys[i]]
      rw [e0]
      generalize hA : p * xs.getD i 0 = A at *
      generalize hB : q * ys.getD i 0 = B at *
      have hsg : sgI (A - B) ≠ 0 := by unfold sgI; split <;> (try split) <;> omega
      refine Wi.neqC (fun _ => Wi.tru (hQ _ ?_)) fun g => absurd g hsg
      constructor
      · intro g
        refine ⟨i, him, ?_, fun j hj => hbef j hj⟩
        show p * xs.getD i 0 < q * ys.getD i 0
        rw [hA, hB]
        unfold sgI at g
        split at g
        · omega
        · split at g <;> omega
      · rintro ⟨j, j1, j2, j3⟩
        have j2 : p * xs.getD j 0 < q * ys.getD j 0 := j2
        have j3 : ∀ i, i < j → p * xs.getD i 0 = q * ys.getD i 0 := j3
        have : j = i := by
          rcases Nat.lt_trichotomy j i with c | c | c
          · have := hbef j c; omega
          · exact c
          · have := j3 i c
            rw [hA, hB] at this
            exact absurd this e
        subst this
        rw [hA, hB] at j2
        unfold sgI
        rw [if_pos (by omega)]
        decide
  · have him : i = m := by omega
    subst him
    refine Wl.lenH hx (Wl.lenH hy (Wi.lssC (fun g => absurd g (by omega)) fun _ => Wi.fls (hQ 0 ?_)))
    constructor
    · intro g; exact absurd g (by decide)
    · rintro ⟨j, j1, j2, j3⟩
      have j2 : p * xs.getD j 0 < q * ys.getD j 0 := j2
      have := hbef j j1
      omega

theorem fn60 (k : TK H0 b u d w n) (hR : Has RSS H0 [u] rows) (hT : RowsT n rows) {i j v : Nat} (hi : i < n) (hj : j < n) (hv : v < 2 * n + 1) (hQ : ∀ H' t, H0.Le H' → (t = true ↔ keyLess n rows v i j) → Q (.bool t) H') :
    Runs Try.prog 60 #[pt b 0, .int .i64 (i : Nat), .int .i64 (mAt rows i v), .int .i64 (j : Nat), .int .i64 (mAt rows j v)] H0 Q := by
  refine f60.enter ?_
  unfold f60.w
  have mem : ∀ i, i < n → ∀ x ∈ keyL n rows i, x.natAbs ≤ 384000000 := fun i hi x hx => by
    have hi2 : i < rows.length := by rw [hT.rl]; exact hi
    have hl := hT.rw _ (List.getElem_mem hi2)
    rcases List.mem_cons.1 hx with e | hx
    · rw [e]; exact hT.ab i _ hi (by omega)
    · rw [show rows.getD i [] = rows[i] by simp [List.getD_eq_getElem?_getD, List.getElem?_eq_getElem hi2]] at hx
      obtain ⟨c, hc, rfl⟩ := List.mem_iff_getElem.1 (List.mem_of_mem_take hx)
      rw [hT.at]
      exact hT.ab i c hi (by omega)
  refine Wi.box1 rfl fun H1 l1 n1 k1 => Wi.box1 rfl fun H2 l2 n2 k2 => ?_
  have l12 := l1.trans l2
  refine Wi.call (fn68 (k.le l12) (hR.le l12) hT hi fun H3 v3 f3 => Wi.call (fn68 ((k.le l12).le f3.le) ((hR.le l12).le f3.le) hT hj fun H4 v4 f4 => ?_))
  have l34 := f3.le.trans f4.le
  refine Wi.call (fn67 (m := n + 1) (p := mAt rows j v) (q := mAt rows i v) (f3.read.le f4.le) f4.read (keyL_len hT hi) (keyL_len hT hj) ⟨_, _, l34.at k2 (by omega)⟩ ⟨_, _, l34.at (l2.at k1 (by omega)) (by have := l2.next; omega)⟩ (hT.ab j v hj hv) (hT.ab i v hi hv) (mem i hi) (mem j hj) fun c hc => ?_)
  have key : c < 0 ↔ keyLess n rows v i j := by
    rw [hc]
    unfold keyLess
    constructor
    · intro q
      exact q.congr (fun x hx => by rw [keyL_at hT hi hx]) fun x hx => by rw [keyL_at hT hj hx]
    · intro q
      exact q.congr (fun x hx => by rw [keyL_at hT hi hx]) fun x hx => by rw [keyL_at hT hj hx]
  exact Wi.lssC (fun q => hQ _ _ (l12.trans l34) ⟨fun _ => key.1 q, fun _ => rfl⟩) fun q => hQ _ _ (l12.trans l34) ⟨fun g => Bool.noConfusion g, fun g => absurd (key.2 g) q⟩

theorem fn29 (k : TK H0 b u d w n) (hR : Has RSS H0 [u] rows) (hT : RowsT n rows) {v : Nat} (hv : v < 2 * n + 1) (hQ : ∀ H', H0.Le H' → Q (.int .i64 (leastTo n rows v n)) H') : Runs Try.prog 29 #[pt b 0, .int .i64 (v : Nat)] H0 Q := by
  have n5 := hT.n5
  refine f29.enter ?_
  unfold f29.w
  refine Wi.box1 rfl fun H1 l1 n1 k1 => Wi.box1 rfl fun H2 l2 n2 k2 => Wi.get (l2.at k1 (by omega)) rfl ?_
  have l12 := l1.trans l2
  have n12 := l2.next
  refine Wi.call (f45.enter ?_)
  unfold f45.w
  refine (k.le l12).g0 (Wl.lenH (hR.le l12) ?_)
  rw [hT.rl]
  have lo := leastTo_lt n rows v
  -- what a row has in the column v
  have col : ∀ {H K} {i : Nat}, H2.Le H → i < n → K (.int .i64 (mAt rows i v)) H → W.call Try.prog (.func (.func 46) #[] #[pt H0.next 0, pt H1.next 0]) #[.int .i64 (i : Nat)] H K := fun {H K i} l hi c => by
    have hi2 : i < rows.length := by rw [hT.rl]; exact hi
    have hl := hT.rw _ (List.getElem_mem hi2)
    refine Wi.callV (f46.enter ?_)
    unfold f46.w
    refine Wi.get (l.at (l2.at k1 (by omega)) (by omega)) rfl (((k.le l12).le l).g0 (Wl.at1H rfl ((hR.le l12).le l) hi2 fun r hr => Wi.get (l.at k2 (by omega)) rfl (Wl.atIntH hr (i := v) (by omega) fun _ => ?_)))
    rw [hT.at]
    exact c
  refine W.for_rule n (fun i st H => H2.Le H ∧ st = (.int .i64 (leastTo n rows v i), .int .i64 (i : Nat), ())) ⟨.refl _, rfl⟩ ?_
  rintro i st H J hi ⟨l, rfl⟩ hJ
  refine Wi.lssC (fun hlt => Wi.tru ?_) fun hge => Wi.fls ?_
  · have hin : i < n := by omega
    have fin : ∀ (H : Heap) (t : Int), H2.Le H → t = leastTo n rows v (i + 1) → f45.j1 (fun v3 H3 => Q v3 H3) (.int .i64 (i : Nat)) J (.int .i64 t) H := fun H t l e => by
      subst e
      unfold f45.j1
      exact Wi.add (by unfold I64; omega) (hJ _ _ hin ⟨l, rfl⟩)
    have low := lo i
    refine col l hin (Wi.gtrC (fun hp => ?_) fun hnp => ?_)
    · simp only [gw]
      refine Wi.lssC (fun hb => ?_) fun hb => ?_
      · simp only [gw]
        refine fin _ _ l ?_
        unfold leastTo
        rw [if_pos ⟨hp, .inl hb⟩]
      · simp only [gw]
        obtain ⟨c, hc⟩ : ∃ c : Nat, leastTo n rows v i = (c : Int) := ⟨(leastTo n rows v i).toNat, by omega⟩
        have hcn : c < n := by omega
        rw [hc]
        refine col l hin (col l hcn ?_)
        refine Wi.call (fn60 ((k.le l12).le l) ((hR.le l12).le l) hT hin hcn hv fun H' t l' ht => ?_)
        cases t with
        | true =>
          simp only [gw]
          refine fin _ _ (l.trans l') ?_
          unfold leastTo
          rw [hc, if_pos ⟨hp, .inr (by rw [show ((c : Nat) : Int).toNat = c by omega]; exact ht.1 rfl)⟩]
        | false =>
          simp only [gw]
          refine fin _ _ (l.trans l') ?_
          unfold leastTo
          rw [hc, if_neg fun q => q.2.elim (fun q => by omega) fun q => by rw [show ((c : Nat) : Int).toNat = c by omega] at q; exact Bool.noConfusion (ht.2 q)]
    · simp only [gw]
      refine fin _ _ l ?_
      exact (leastTo_no fun q => hnp q.1).symm
  · have : i = n := by omega
    subst this
    exact hQ _ (l12.trans l)

theorem fn32 (k : TK H0 b u d w n) (n5 : n ≤ 5) {v : Nat} (hv : v < 2 * n) (hQ : Q (.int .i64 (partN n v : Nat)) H0) : Runs Try.prog 32 #[pt b 0, .int .i64 (v : Nat)] H0 Q := by
  unfold partN at hQ
  refine f32.enter ?_
  unfold f32.w
  refine k.g3 (Wi.lssC (fun h => Wi.tru (k.g3 (Wi.add (by unfold I64; omega) ?_))) fun h => Wi.fls (k.g3 (Wi.sub (by unfold I64; omega) ?_)))
  · rw [if_pos (by omega)] at hQ
    exact hQ
  · rw [if_neg (by omega), show (((v - n : Nat) : Nat) : Int) = (v : Int) - (n : Int) by omega] at hQ
    exact hQ

end
end Go.Proofs.Ytbcfknboheghkaa
