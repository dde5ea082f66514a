/- The contract of the reference's determinant, by the numbers of the first row. No condition. -/
import Derived.Test.YtdmgomeogedjgaaGreatGDD
import Derived.Test.YtdmgomeogedjgaaGreatGAB
import Derived.Test.YtdmgomeogedjgaaGreatZabG7
import Derived.Test.YtdmgomeogedjgaaGreatZabG8
namespace Go.Proofs.YtdmgomeogedjgaaGreat
open Go.Ab

/- loop.example/g01343/spec.l01Det -/
def f127.j1 (Q : Post) (k_4 : Value) (I1 : St [3, 4] → Heap → Prop) (sum_3' : Value) (H : Heap) : Prop :=
  W.bin .add k_4 (.int .i64 1) H fun v10 H =>
  I1 (sum_3', v10, ()) H
def f127.j2 (Q : Post) (sum_3 : Value) (k_4 : Value) (I1 : St [3, 4] → Heap → Prop) (own_7 : Value) (H : Heap) : Prop :=
  W.bin .add sum_3 own_7 H fun v35 H =>
  f127.j1 Q k_4 I1 v35 H
def f127.l2 (Q : Post) (rows_0 : Value) (k_4 : Value) (sum_3 : Value) (I1 : St [3, 4] → Heap → Prop) (I2 : St [5, 6] → Heap → Prop) (rest_5 : Value) (i_6 : Value) (H : Heap) : Prop :=
  W.len rows_0 H fun v12 H =>
  W.bin .lss i_6 v12 H fun v13 H =>
  W.cond v13 H
  (fun H => W.indexAddr 1 rows_0 i_6 H fun v14 H =>
   W.get v14 H fun v15 H =>
   W.slice 1 v15 none (some k_4) H fun v16 H =>
   W.callQ Tryz.prog (.func (.func 126) #[] #[]) #[v16] H fun v17 H =>
   W.indexAddr 1 rows_0 i_6 H fun v18 H =>
   W.get v18 H fun v19 H =>
   W.bin .add k_4 (.int .i64 1) H fun v20 H =>
   W.slice 1 v19 (some v20) none H fun v21 H =>
   W.append 1 2 v17 v21 H fun v22 H =>
   W.lit 1 [(.slice none 0 0)] 29 [(0, 1, v22)] H fun v23 H =>
   W.append 1 29 rest_5 v23 H fun v24 H =>
   W.bin .add i_6 (.int .i64 1) H fun v25 H =>
   I2 (v24, v25, ()) H)
  (fun H => W.indexAddr 1 rows_0 (.int .i64 0) H fun v26 H =>
   W.get v26 H fun v27 H =>
   W.indexAddr 1 v27 k_4 H fun v28 H =>
   W.get v28 H fun v29 H =>
   W.callQ Tryz.prog (.func (.func 127) #[] #[]) #[rest_5] H fun v30 H =>
   W.bin .mul v29 v30 H fun v31 H =>
   W.bin .rem k_4 (.int .i64 2) H fun v32 H =>
   W.bin .eql v32 (.int .i64 1) H fun v33 H =>
   W.cond v33 H
   (fun H => W.un .neg v31 H fun v34 H =>
    f127.j2 Q sum_3 k_4 I1 v34 H)
   (fun H => f127.j2 Q sum_3 k_4 I1 v31 H))
def f127.l1 (Q : Post) (rows_0 : Value) (I1 : St [3, 4] → Heap → Prop) (sum_3 : Value) (k_4 : Value) (H : Heap) : Prop :=
  W.len rows_0 H fun v3 H =>
  W.bin .lss k_4 v3 H fun v4 H =>
  W.cond v4 H
  (fun H => W.indexAddr 1 rows_0 (.int .i64 0) H fun v5 H =>
   W.get v5 H fun v6 H =>
   W.indexAddr 1 v6 k_4 H fun v7 H =>
   W.get v7 H fun v8 H =>
   W.bin .eql v8 (.int .i64 0) H fun v9 H =>
   W.cond v9 H
   (fun H => f127.j1 Q k_4 I1 sum_3 H)
   (fun H => W.lit 0 [(.slice none 0 0)] 29 [] H fun v11 H =>
    W.loop (S := St [5, 6]) (fun I2 s H => f127.l2 Q rows_0 k_4 sum_3 I1 I2 s.1 s.2.1 H) (v11, (.int .i64 1), ()) H))
  (fun H => Q sum_3 H)
def f127.w (Q : Post) (rows_0 : Value) (H : Heap) : Prop :=
  W.len rows_0 H fun v1 H =>
  W.bin .eql v1 (.int .i64 0) H fun v2 H =>
  W.cond v2 H
  (fun H => Q (.int .i64 1) H)
  (fun H => W.loop (S := St [3, 4]) (fun I1 s H => f127.l1 Q rows_0 I1 s.1 s.2.1 H) ((.int .i64 0), (.int .i64 0), ()) H)
theorem f127.enter {Q : Post} {rows_0 : Value} {H : Heap} (h : f127.w Q rows_0 H) : Runs Tryz.prog 127 #[rows_0] H Q :=
  fn_enter (ann := [(5, [3, 4]), (10, [5, 6])]) (by kernel_rfl) Tryz.func127 rfl (by kernel_rfl) h (by kernel_rfl)


/-- Rows that have grown. -/
abbrev RG : Rd (List (List Int)) := Rd.slice (Rd.gslice Rd.int 2)

theorem tmod_two (k : Nat) : ((k : Int).tmod 2 = 1) ↔ k % 2 = 1 := by
  rw [Int.tmod_eq_emod_of_nonneg (by omega)]
  omega

theorem fn127 : ∀ {n : Nat} {H0 : Heap} {Q : Post} {v : Value} {rows : List (List Int)}, Has RG H0 [v] rows → Sq n rows → n ≤ 5 → (∀ i, i < n → nsum n (fun j => (mAt rows i j).natAbs) ≤ 200) →
    (∀ H', H0.Le H' → Q (.int .i64 (det n (mAt rows))) H') → Runs Tryz.prog 127 #[v] H0 Q := by
  intro n
  induction n with
  | zero =>
    intro H0 Q v rows hr hs hn hR hQ
    refine f127.enter (Wl.lenH hr (Wi.eqlC (fun _ => Wi.tru (hQ _ (.refl _))) fun h => absurd (by rw [hs.1]; rfl) h))
  | succ m ih =>
    intro H0 Q v rows hr hs hn hR hQ
    have hl := hs.1
    have h200 : 200 ^ (m + 1) ≤ 320000000000 := pow200 hn
    refine f127.enter (Wl.lenH hr (Wi.eqlC (fun h => by omega) fun _ => Wi.fls ?_))
    refine W.for_rule (m + 1) (fun k s H => s = (.int .i64 (sumTo k fun k => sgn k * mAt rows 0 k * det m (minorF (mAt rows) k)), .int .i64 (k : Nat), ()) ∧ Ab.Loc H0 [.lent RG [v] rows] H) ⟨rfl, (Loc.start H0).lent hr⟩ ?_
    rintro k s H J hk ⟨rfl, h⟩ hJ
    refine Wl.len h (Wi.lssC (fun hlt => Wi.tru ?_) fun hge => Wi.fls ?_)
    · have hkm : k < m + 1 := by omega
      have h0 : 0 < rows.length := by omega
      have hr0 := hs.2 _ (List.getElem_mem h0)
      have hk0 : k < rows[0].length := by omega
      have e0 : rows[0][k] = mAt rows 0 k := (mAt_at h0 hk0).symm
      obtain ⟨p1, p2⟩ := det_part hR (m := k + 1) (by omega)
      have p2 := p2 k hkm
      have p3 := (det_part hR (m := k) (by omega)).1
      have next : ∀ H', Ab.Loc H0 [.lent RG [v] rows] H' → f127.j1 Q (.int .i64 (k : Nat)) J (.int .i64 (sumTo (k + 1) fun k => sgn k * mAt rows 0 k * det m (minorF (mAt rows) k))) H' := fun H' h' => by
        unfold f127.j1
        exact Wi.add (by unfold I64; omega) (hJ _ _ hkm ⟨rfl, h'⟩)
      refine Wl.at1 (i := 0) rfl h h0 fun w hw => Wl.atIntH hw.ofG1 hk0 fun _ => Wi.eqlC (fun hz => Wi.tru ?_) fun hnz => Wi.fls (Wl.lit0 (ty := 29) (Rd.gslice Rd.int 2) rfl h fun H y h => ?_)
      · have := next H h
        simp only [sumTo] at this
        rw [← e0, hz, Int.mul_zero, Int.zero_mul, Int.add_zero] at this
        exact this
      refine W.for_rule m (fun i s H => ∃ y, s = (y, .int .i64 ((i + 1 : Nat) : Int), ()) ∧ Ab.Loc H0 [.grow (Rd.gslice Rd.int 2) 29 y ((rows.tail.take i).map (dropCol k)), .lent RG [v] rows] H) ⟨_, rfl, h⟩ ?_
      rintro i s H J2 hi ⟨y, rfl, h⟩ hJ2
      refine Wl.len h (Wi.lssC (fun hlt2 => Wi.tru ?_) fun hge2 => Wi.fls ?_)
      · have him : i < m := by omega
        have hix : i + 1 < rows.length := by omega
        have hri := hs.2 _ (List.getElem_mem hix)
        refine Wl.at1 (i := i + 1) rfl h hix fun w1 hw1 => Wl.cutLoH (k := k) hw1.ofG1 (by omega) fun w2 hw2 => Wi.callQ (fn126 hw2 (by simp; omega) fun H u f => ⟨f.le, ?_⟩)
        have h := h.addG f
        refine Wl.at1 (i := i + 1) rfl h hix fun w3 hw3 => Wi.add (by unfold I64; omega) (Wl.cutHiG (k := k + 1) rfl hw3 (by omega) fun w4 hw4 => ?_)
        refine Wl.appendH (i := 0) rfl h rfl hw4 (by simp; omega) fun H u' h => ?_
        have h2 : Ab.Loc H0 [.grow Rd.int 2 u' (dropCol k rows[i + 1]), .grow (Rd.gslice Rd.int 2) 29 y ((rows.tail.take i).map (dropCol k)), .lent RG [v] rows] H := h
        refine Wl.pushGG h2 (by simp; omega) fun H y' h => Wi.add (by unfold I64; omega) (hJ2 _ _ him ⟨y', rfl, ?_⟩)
        rw [List.take_succ_eq_append_getElem (by simp; omega), List.map_append]
        simpa using h
      · have : i = m := by omega
        subst this
        have h := h.asData (i := 0) rfl
        have et : rows.tail.take i = rows.tail := List.take_of_length_le (by simp; omega)
        rw [et] at h
        have ed : det i (mAt (rows.tail.map (dropCol k))) = det i (minorF (mAt rows) k) := det_congr fun r c hr hc => rest_at hs hkm hr
        refine Wl.at1 (i := 0) rfl h h0 fun w hw => Wl.atIntH hw.ofG1 hk0 fun _ => ?_
        refine Wi.callQ (ih (h.rd (cs := [y])) (rest_sq hs hkm) (by omega) (fun r hr => ?_) fun H' l => ⟨l, ?_⟩)
        · have := minorF_rows hR (k := k) (by omega) r hr
          rw [nsum_congr fun j _ => by rw [rest_at (j := j) hs hkm hr]]
          exact this
        have h := (h.to l).tl
        rw [e0, ed]
        refine Wi.mul (i64A p2 (by omega)) (Wi.rem (by decide) (by
          rw [Int.tmod_eq_emod_of_nonneg (by omega)]
          unfold I64
          omega) ?_)
        have hnx := next H' h
        simp only [sumTo] at hnx p1
        refine Wi.eqlC (fun ho => Wi.tru (Wi.neg (i64A (negA p2) (by omega)) ?_)) fun he => Wi.fls ?_
        · have hs1 : sgn k = -1 := by unfold sgn; rw [if_neg (by have := (tmod_two k).1 ho; omega)]
          rw [hs1] at hnx p1
          have eq : -1 * mAt rows 0 k * det i (minorF (mAt rows) k) = -(mAt rows 0 k * det i (minorF (mAt rows) k)) := by
            rw [Int.neg_mul, Int.one_mul, Int.neg_mul]
          rw [eq] at hnx p1
          unfold f127.j2
          exact Wi.add (i64A p1 (by omega)) hnx
        · have hs1 : sgn k = 1 := by unfold sgn; rw [if_pos (by have := mt (tmod_two k).2 he; omega)]
          rw [hs1, Int.one_mul] at hnx p1
          unfold f127.j2
          exact Wi.add (i64A p1 (by omega)) hnx
    · have : k = m + 1 := by omega
      subst this
      exact hQ _ h.le

end Go.Proofs.YtdmgomeogedjgaaGreat
