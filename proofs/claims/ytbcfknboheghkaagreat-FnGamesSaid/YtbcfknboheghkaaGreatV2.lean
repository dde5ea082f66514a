/- Contracts of the reference's columns, solve and point. No condition. -/
import Derived.Test.YtbcfknboheghkaaGreatDT2
import Derived.Test.YtbcfknboheghkaaGreatGNN
import Derived.Test.YtbcfknboheghkaaGreatGLS
namespace Go.Proofs.YtbcfknboheghkaaGreat
open Go.Ab

/- loop.example/g01343/spec.l01Columns -/
def f89.j1 (Q : Post) (k_8 : Value) (I2 : St [7, 8] → Heap → Prop) (row_7' : Value) (H : Heap) : Prop :=
  W.bin .add k_8 (.int .i64 1) H fun v18 H =>
  I2 (row_7', v18, ()) H
def f89.j2 (Q : Post) (k_8 : Value) (I2 : St [7, 8] → Heap → Prop) (row_7'' : Value) (H : Heap) : Prop :=
  f89.j1 Q k_8 I2 row_7'' H
def f89.l2 (Q : Post) (m_0 : Value) (s_1 : Value) (i_6 : Value) (out_5 : Value) (I1 : St [5, 6] → Heap → Prop) (I2 : St [7, 8] → Heap → Prop) (row_7 : Value) (k_8 : Value) (H : Heap) : Prop :=
  W.len m_0 H fun v5 H =>
  W.bin .lss k_8 v5 H fun v6 H =>
  W.cond v6 H
  (fun H => W.conv .u64 k_8 H fun v7 H =>
   W.bin .shr s_1 v7 H fun v8 H =>
   W.bin .and v8 (.int .i64 1) H fun v9 H =>
   W.bin .eql v9 (.int .i64 1) H fun v10 H =>
   W.cond v10 H
   (fun H => W.indexAddr 1 m_0 i_6 H fun v11 H =>
    W.get v11 H fun v12 H =>
    W.indexAddr 1 v12 k_8 H fun v13 H =>
    W.get v13 H fun v14 H =>
    W.un .neg v14 H fun v15 H =>
    W.lit 1 [(.int .i64 0)] 2 [(0, 1, v15)] H fun v16 H =>
    W.append 1 2 row_7 v16 H fun v17 H =>
    f89.j1 Q k_8 I2 v17 H)
   (fun H => W.bin .eql i_6 k_8 H fun v19 H =>
    W.cond v19 H
    (fun H => W.lit 1 [(.int .i64 0)] 2 [(0, 1, (.int .i64 1))] H fun v20 H =>
     W.append 1 2 row_7 v20 H fun v21 H =>
     f89.j2 Q k_8 I2 v21 H)
    (fun H => W.lit 1 [(.int .i64 0)] 2 [(0, 1, (.int .i64 0))] H fun v22 H =>
     W.append 1 2 row_7 v22 H fun v23 H =>
     f89.j2 Q k_8 I2 v23 H)))
  (fun H => W.lit 1 [(.slice none 0 0)] 35 [(0, 1, row_7)] H fun v24 H =>
   W.append 1 35 out_5 v24 H fun v25 H =>
   W.bin .add i_6 (.int .i64 1) H fun v26 H =>
   I1 (v25, v26, ()) H)
def f89.l1 (Q : Post) (m_0 : Value) (s_1 : Value) (I1 : St [5, 6] → Heap → Prop) (out_5 : Value) (i_6 : Value) (H : Heap) : Prop :=
  W.len m_0 H fun v2 H =>
  W.bin .lss i_6 v2 H fun v3 H =>
  W.cond v3 H
  (fun H => W.lit 0 [(.int .i64 0)] 2 [] H fun v4 H =>
   W.loop (S := St [7, 8]) (fun I2 s H => f89.l2 Q m_0 s_1 i_6 out_5 I1 I2 s.1 s.2.1 H) (v4, (.int .i64 0), ()) H)
  (fun H => Q out_5 H)
def f89.w (Q : Post) (m_0 : Value) (s_1 : Value) (H : Heap) : Prop :=
  W.lit 0 [(.slice none 0 0)] 35 [] H fun v1 H =>
  W.loop (S := St [5, 6]) (fun I1 s H => f89.l1 Q m_0 s_1 I1 s.1 s.2.1 H) (v1, (.int .i64 0), ()) H
theorem f89.enter {Q : Post} {m_0 : Value} {s_1 : Value} {H : Heap} (h : f89.w Q m_0 s_1 H) : Runs Tryz.prog 89 #[m_0, s_1] H Q :=
  fn_enter (ann := [(3, [5, 6]), (7, [7, 8])]) (by kernel_rfl) Tryz.func89 rfl (by kernel_rfl) h (by kernel_rfl)

/- loop.example/g01343/spec.l01Solve -/
def f88.l2 (Q : Post) (rows_0 : Value) (q_1 : Value) (k_7 : Value) (out_6 : Value) (I1 : St [6, 7] → Heap → Prop) (I2 : St [8, 9] → Heap → Prop) (own_8 : Value) (i_9 : Value) (H : Heap) : Prop :=
  W.len rows_0 H fun v5 H =>
  W.bin .lss i_9 v5 H fun v6 H =>
  W.cond v6 H
  (fun H => W.indexAddr 1 rows_0 i_9 H fun v7 H =>
   W.get v7 H fun v8 H =>
   W.call Tryz.prog (.func (.func 107) #[] #[]) #[v8] H fun v9 H =>
   W.indexAddr 1 q_1 i_9 H fun v10 H =>
   W.get v10 H fun v11 H =>
   W.indexAddr 1 v9 k_7 H fun v12 H =>
   W.put v12 v11 H fun _ H =>
   W.lit 1 [(.slice none 0 0)] 35 [(0, 1, v9)] H fun v13 H =>
   W.append 1 35 own_8 v13 H fun v14 H =>
   W.bin .add i_9 (.int .i64 1) H fun v15 H =>
   I2 (v14, v15, ()) H)
  (fun H => W.call Tryz.prog (.func (.func 130) #[] #[]) #[own_8] H fun v16 H =>
   W.lit 1 [(.int .i64 0)] 2 [(0, 1, v16)] H fun v17 H =>
   W.append 1 2 out_6 v17 H fun v18 H =>
   W.bin .add k_7 (.int .i64 1) H fun v19 H =>
   I1 (v18, v19, ()) H)
def f88.l1 (Q : Post) (rows_0 : Value) (q_1 : Value) (I1 : St [6, 7] → Heap → Prop) (out_6 : Value) (k_7 : Value) (H : Heap) : Prop :=
  W.len rows_0 H fun v2 H =>
  W.bin .lss k_7 v2 H fun v3 H =>
  W.cond v3 H
  (fun H => W.lit 0 [(.slice none 0 0)] 35 [] H fun v4 H =>
   W.loop (S := St [8, 9]) (fun I2 s H => f88.l2 Q rows_0 q_1 k_7 out_6 I1 I2 s.1 s.2.1 H) (v4, (.int .i64 0), ()) H)
  (fun H => W.call Tryz.prog (.func (.func 130) #[] #[]) #[rows_0] H fun v20 H =>
   Q (.tuple #[out_6, v20]) H)
def f88.w (Q : Post) (rows_0 : Value) (q_1 : Value) (H : Heap) : Prop :=
  W.lit 0 [(.int .i64 0)] 2 [] H fun v1 H =>
  W.loop (S := St [6, 7]) (fun I1 s H => f88.l1 Q rows_0 q_1 I1 s.1 s.2.1 H) (v1, (.int .i64 0), ()) H
theorem f88.enter {Q : Post} {rows_0 : Value} {q_1 : Value} {H : Heap} (h : f88.w Q rows_0 q_1 H) : Runs Tryz.prog 88 #[rows_0, q_1] H Q :=
  fn_enter (ann := [(3, [6, 7]), (7, [8, 9])]) (by kernel_rfl) Tryz.func88 rfl (by kernel_rfl) h (by kernel_rfl)


theorem fn89 {H0 : Heap} {Q : Post} {v : Value} {m : List (List Int)} {n s : Nat} (hr : Has RSS H0 [v] m) (hsq : Sq n m) (hn : n ≤ 5) (hb : ∀ r c, (mAt m r c).natAbs ≤ 20) (hs : s < 9223372036854775808)
    (hQ : ∀ H' u, FreshG (Rd.gslice Rd.int 2) 35 H0 u (colL n m s) H' → Q u H') : Runs Tryz.prog 89 #[v, .int .i64 (s : Nat)] H0 Q := by
  have hl := hsq.1
  refine f89.enter ?_
  unfold f89.w
  refine Wl.lit0 (ty := 35) (Rd.gslice Rd.int 2) rfl ((Loc.start H0).lent hr) fun H y h => ?_
  refine W.for_rule n (fun i st H => ∃ y, st = (y, .int .i64 (i : Nat), ()) ∧ Ab.Loc H0 [.grow (Rd.gslice Rd.int 2) 35 y ((List.range i).map fun r => (List.range n).map (colE m s r)), .lent RSS [v] m] H) ⟨_, rfl, h⟩ ?_
  rintro i st H J hi ⟨y, rfl, h⟩ hJ
  refine Wl.len h (Wi.lssC (fun hlt => Wi.tru ?_) fun hge => Wi.fls ?_)
  · have hin : i < n := by omega
    have him : i < m.length := by omega
    have hrl := hsq.2 _ (List.getElem_mem him)
    refine Wl.lit0 (ty := 2) Rd.int rfl h fun H w h => ?_
    refine W.for_rule n (fun k st H => ∃ w, st = (w, .int .i64 (k : Nat), ()) ∧ Ab.Loc H0 [.grow Rd.int 2 w ((List.range k).map (colE m s i)), .grow (Rd.gslice Rd.int 2) 35 y ((List.range i).map fun r => (List.range n).map (colE m s r)), .lent RSS [v] m] H) ⟨_, rfl, h⟩ ?_
    rintro k st H J2 hk ⟨w, rfl, h⟩ hJ2
    refine Wl.len h (Wi.lssC (fun hlt2 => Wi.tru ?_) fun hge2 => Wi.fls ?_)
    · have hkn : k < n := by omega
      have hkm : k < m[i].length := by omega
      have hI : I64 ((k : Int) + 1) := by unfold I64; omega
      have eb := colE_abs (s := s) (hb i k)
      have next : ∀ (x : Int), colE m s i k = x → ∀ H u', Ab.Loc H0 [.grow Rd.int 2 u' ((List.range k).map (colE m s i) ++ [x]), .grow (Rd.gslice Rd.int 2) 35 y ((List.range i).map fun r => (List.range n).map (colE m s r)), .lent RSS [v] m] H → f89.j1 Q (.int .i64 (k : Nat)) J2 u' H := fun x hx H u' h' => by
        rw [range_push hx] at h'
        unfold f89.j1
        exact Wi.add hI (hJ2 _ _ hkn ⟨_, rfl, h'⟩)
      refine Wi.convN (by omega) (Wi.shrN hs (by omega) (Wi.and1 (Wi.eqlC (fun ht => Wi.tru ?_) fun hf => Wi.fls ?_)))
      · have ht := bit_iff.1 ht
        have ev : colE m s i k = -(mAt m i k) := by unfold colE; rw [if_pos ht]
        have e1 : m[i][k] = mAt m i k := (mAt_at him hkm).symm
        rw [ev] at eb
        refine Wl.at1 rfl h him fun w2 hw2 => Wl.atIntH hw2 hkm fun _ => ?_
        rw [e1]
        refine Wi.neg (i64A eb (by decide)) ?_
        refine Wl.pushP (r := Rd.int) (x := -(mAt m i k)) rfl rfl rfl (fun _ => ⟨rfl, rfl, i64A eb (by decide)⟩) h (by simp; omega) fun H u' h => ?_
        exact next _ ev _ _ h
      · have hf : s.testBit k = false := by
          cases hb2 : s.testBit k with
          | false => rfl
          | true => exact absurd (bit_iff.2 hb2) hf
        have ev : colE m s i k = if i = k then 1 else 0 := by unfold colE; rw [if_neg (by rw [hf]; exact Bool.false_ne_true)]
        refine Wi.eqlC (fun he => Wi.tru ?_) fun hne => Wi.fls ?_
        · rw [if_pos (by omega)] at ev
          refine Wl.pushP (r := Rd.int) (x := 1) rfl rfl rfl (fun _ => ⟨rfl, rfl, by unfold I64; omega⟩) h (by simp; omega) fun H u' h => ?_
          unfold f89.j2
          exact next _ ev _ _ h
        · rw [if_neg (by omega)] at ev
          refine Wl.pushP (r := Rd.int) (x := 0) rfl rfl rfl (fun _ => ⟨rfl, rfl, by unfold I64; omega⟩) h (by simp; omega) fun H u' h => ?_
          unfold f89.j2
          exact next _ ev _ _ h
    · have : k = n := by omega
      subst this
      refine Wl.pushGG h (by simp; omega) fun H y' h => Wi.add (by unfold I64; omega) (hJ _ _ hin ⟨y', rfl, ?_⟩)
      rw [range_push (f := fun r => (List.range k).map (colE m s r)) rfl] at h
      exact h
  · have : i = n := by omega
    subst this
    exact hQ _ _ (h.retGG (i := 0) rfl)

theorem fn88 {H0 : Heap} {Q : Post} {v vq : Value} {rows : List (List Int)} {q : List Int} {n : Nat} (hr : Has RG H0 [v] rows) (hq : Has RS H0 [vq] q) (hs : Sq n rows) (hn : n ≤ 5) (hql : q.length = n) (hb : ∀ r c, r < n → c < n → (mAt rows r c).natAbs ≤ 20) (hqb : ∀ e ∈ q, e.natAbs ≤ 100)
    (hQ : ∀ H' u, Fresh RS H0 [u] (solveL n rows q) H' → Q (.tuple #[u, .int .i64 (det n (mAt rows))]) H') : Runs Tryz.prog 88 #[v, vq] H0 Q := by
  have hl := hs.1
  refine f88.enter ?_
  unfold f88.w
  refine Wl.lit0 (ty := 2) Rd.int rfl (((Loc.start H0).lent hq).lent hr) fun H u h => ?_
  refine W.for_rule n (fun k st H => ∃ u, st = (u, .int .i64 (k : Nat), ()) ∧ Ab.Loc H0 [.grow Rd.int 2 u ((List.range k).map fun i => det n (mAt (putCol i q rows))), .lent RG [v] rows, .lent RS [vq] q] H) ⟨_, rfl, h⟩ ?_
  rintro k st H J hk ⟨u, rfl, h⟩ hJ
  refine Wl.len h (Wi.lssC (fun hlt => Wi.tru ?_) fun hge => Wi.fls ?_)
  · have hkn : k < n := by omega
    have hpsq := putCol_sq (i := k) (col := q) hs
    have hpr := putCol_rows hs hn hb hqb hkn
    refine Wl.lit0 (ty := 35) (Rd.gslice Rd.int 2) rfl h fun H y h => ?_
    refine W.for_rule n (fun i st H => ∃ y, st = (y, .int .i64 (i : Nat), ()) ∧ Ab.Loc H0 [.grow (Rd.gslice Rd.int 2) 35 y ((putCol k q rows).take i), .grow Rd.int 2 u ((List.range k).map fun i => det n (mAt (putCol i q rows))), .lent RG [v] rows, .lent RS [vq] q] H) ⟨_, rfl, h⟩ ?_
    rintro i st H J2 hi ⟨y, rfl, h⟩ hJ2
    refine Wl.len h (Wi.lssC (fun hlt2 => Wi.tru ?_) fun hge2 => Wi.fls ?_)
    · have hin : i < n := by omega
      have hir : i < rows.length := by omega
      have hrl := hs.2 _ (List.getElem_mem hir)
      have hip : i < (putCol k q rows).length := by rw [hpsq.1]; exact hin
      refine Wl.at1 rfl h hir fun w hw => Wi.call (fn107 hw.ofG1 (by omega) fun H u2 f => ?_)
      have h := h.addG f
      refine Wl.atInt h (i := i) (by omega) fun hy => Wl.setG h (by omega) hy fun H h => ?_
      refine Wl.pushGG h (by simp; omega) fun H y' h => Wi.add (by unfold I64; omega) (hJ2 _ _ hin ⟨y', rfl, ?_⟩)
      have e : rows[i].set k (q[i]'(by omega)) = (putCol k q rows)[i] := by
        simp only [putCol, List.getElem_mapIdx]
        rw [atD (by omega)]
      rw [e, ← List.take_succ_eq_append_getElem hip] at h
      exact h
    · have : i = n := by omega
      subst this
      rw [show (putCol k q rows).take i = putCol k q rows from List.take_of_length_le (by rw [hpsq.1]; exact Nat.le_refl _)] at h
      have h2 := h.asData (i := 0) rfl
      refine Wi.call (fn130 (h2.rd (cs := [y])) hpsq hn hpr fun H l => ?_)
      have h := (h2.to l).tl
      have hd := det200 hn hpr
      refine Wl.pushP (r := Rd.int) (x := det i (mAt (putCol k q rows))) rfl rfl rfl (fun _ => ⟨rfl, rfl, i64A hd (by decide)⟩) h (by simp; omega) fun H u' h => Wi.add (by unfold I64; omega) (hJ _ _ hkn ⟨u', rfl, ?_⟩)
      have h2 : Ab.Loc H0 [.grow Rd.int 2 u' ((List.range k).map (fun j => det i (mAt (putCol j q rows))) ++ [det i (mAt (putCol k q rows))]), .lent RG [v] rows, .lent RS [vq] q] H := h
      rw [range_push (f := fun j => det i (mAt (putCol j q rows))) rfl] at h2
      exact h2
  · have : k = n := by omega
    subst this
    have hrr := rows_bound hn hb
    refine Wi.call (fn130 (h.rd (cs := [v])) hs hn (fun i hi => Nat.le_trans (hrr i hi) (by decide)) fun H l => ?_)
    exact hQ _ _ (((h.to l).asData (i := 0) rfl).ret (i := 0) rfl)

/-- A point's numbers as fractions. -/
def pointF (n : Nat) (rows : List (List Int)) (q : List Int) : List Frac := (solveL n rows q).map fun x => frac x (det n (mAt rows))

end Go.Proofs.YtbcfknboheghkaaGreat
