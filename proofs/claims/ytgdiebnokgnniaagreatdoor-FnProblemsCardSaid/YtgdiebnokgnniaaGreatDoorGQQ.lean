/- Fractions with a common denominator, as plain values. No condition. -/
import Derived.Test.YtgdiebnokgnniaaGreatDoorA1
import Derived.Test.YtgdiebnokgnniaaGreatDoorZabG5
import Derived.Test.YtgdiebnokgnniaaGreatDoorGAA
import Derived.Test.YtgdiebnokgnniaaGreatDoorGVV
namespace Go.Proofs.YtgdiebnokgnniaaGreatDoor
open Go.Ab

/-- One more denominator. -/
def comStep (d e : Int) : Int := d.tdiv (Int.gcd d e) * e
def comTo (xs : List Frac) : Nat → Int
  | 0 => 1
  | i + 1 => comStep (comTo xs i) (xs.getD i (0, 1)).2

def comNum (d : Int) (a : Frac) : Int := a.1 * d.tdiv a.2

def okDen (m : Int) (xs : List Frac) : Prop := ∀ i, i < xs.length → comTo xs (i + 1) ≤ m
def okNum (m : Int) (d : Int) (xs : List Frac) : Prop := ∀ a ∈ xs, -m ≤ comNum d a ∧ comNum d a ≤ m

/-- The numerators by the least common denominator, and this, if all are within the limits. -/
noncomputable def tog (m n : Int) (xs : List Frac) : Option (List Int × Int) := open Classical in
  if okDen m xs ∧ okNum n (comTo xs xs.length) xs then some (xs.map (comNum (comTo xs xs.length)), comTo xs xs.length) else none

def Frs (xs : List Frac) : Prop := ∀ a ∈ xs, isFr 1000000000 a = true

theorem fr_at {xs : List Frac} {i : Nat} (hi : i < xs.length) (d : Frac) : xs.getD i d = xs[i] := by simp [List.getD_eq_getElem?_getD, List.getElem?_eq_getElem hi]

theorem comStep_pos {d e : Int} (hd : 1 ≤ d) (he : 1 ≤ e) : 1 ≤ comStep d e ∧ d ≤ comStep d e := by
  unfold comStep
  obtain ⟨k, hk⟩ := Int.gcd_dvd_left d e
  obtain ⟨j, hj⟩ := Int.gcd_dvd_right d e
  have hg : 0 < Int.gcd d e := Int.gcd_pos_of_ne_zero_left e (by omega)
  have hgi : (0 : Int) < Int.gcd d e := by omega
  have e1 : d.tdiv (Int.gcd d e) = k := by
    rw [Int.tdiv_eq_ediv_of_dvd (Int.gcd_dvd_left d e)]
    conv => lhs; lhs; rw [hk]
    rw [Int.mul_ediv_cancel_left _ (by omega)]
  rw [e1]
  have hk0 : 0 < k := by
    rcases Int.lt_or_le 0 k with h | h
    · exact h
    · have := Int.mul_nonpos_of_nonneg_of_nonpos (Int.le_of_lt hgi) h
      omega
  have hj0 : 0 < j := by
    rcases Int.lt_or_le 0 j with h | h
    · exact h
    · have := Int.mul_nonpos_of_nonneg_of_nonpos (Int.le_of_lt hgi) h
      omega
  have hge : (Int.gcd d e : Int) ≤ e := by
    have := Int.mul_le_mul_of_nonneg_left (show (1 : Int) ≤ j by omega) (Int.le_of_lt hgi)
    rw [← hj, Int.mul_one] at this
    exact this
  have h1 : k * (Int.gcd d e : Int) ≤ k * e := Int.mul_le_mul_of_nonneg_left hge (by omega)
  rw [Int.mul_comm, ← hk] at h1
  omega

theorem comStep_le {d e M : Int} (hd : 1 ≤ d) (he : 1 ≤ e) (hM : d ≤ M) : comStep d e ≤ M * e := by
  unfold comStep
  have hg : 0 < Int.gcd d e := Int.gcd_pos_of_ne_zero_left e (by omega)
  have : d.tdiv (Int.gcd d e) ≤ d := by
    rw [Int.tdiv_eq_ediv_of_nonneg (by omega)]
    exact Int.ediv_le_self _ (by omega)
  exact Int.mul_le_mul_of_nonneg_right (by omega) (by omega)

theorem fr_den {xs : List Frac} (h : Frs xs) {i : Nat} (hi : i < xs.length) : 1 ≤ xs[i].2 ∧ xs[i].2 ≤ 1000000000 ∧ -1000000000 ≤ xs[i].1 ∧ xs[i].1 ≤ 1000000000 := by
  have := isFr_iff.1 (h _ (List.getElem_mem hi))
  omega

theorem comTo_pos {xs : List Frac} (h : Frs xs) : ∀ {i : Nat}, i ≤ xs.length → 1 ≤ comTo xs i
  | 0, _ => by simp [comTo]
  | i + 1, hi => by
    have h1 := comTo_pos h (i := i) (by omega)
    simp only [comTo]
    rw [fr_at (by omega)]
    exact (comStep_pos h1 (fr_den h (by omega)).1).1

end Go.Proofs.YtgdiebnokgnniaaGreatDoor
/-! Contracts of areFracs, together and l01Common. No condition. -/
namespace Go.Proofs.YtgdiebnokgnniaaGreatDoor
open Go.Ab

/- slices.ContainsFunc[[]loop.example/g01343/impl.Frac,loop.example/g01343/impl.Frac] -/
def f122.w (Q : Post) (s_0 : Value) (f_1 : Value) (H : Heap) : Prop :=
  W.call Tryz.prog (.func (.func 138) #[] #[]) #[s_0, f_1] H fun v1 H =>
  W.bin .geq v1 (.int .i64 0) H fun v2 H =>
  Q v2 H
theorem f122.enter {Q : Post} {s_0 : Value} {f_1 : Value} {H : Heap} (h : f122.w Q s_0 f_1 H) : Runs Tryz.prog 122 #[s_0, f_1] H Q :=
  fn_enter (ann := []) (by kernel_rfl) Tryz.func122 rfl (by kernel_rfl) h (by kernel_rfl)

/- slices.IndexFunc[[]loop.example/g01343/impl.Frac,loop.example/g01343/impl.Frac] -/
def f138.l1 (Q : Post) (v1 : Value) (s_0 : Value) (f_1 : Value) (I1 : St [8] → Heap → Prop) (x_8 : Value) (H : Heap) : Prop :=
  W.bin .lss x_8 v1 H fun v2 H =>
  W.cond v2 H
  (fun H => W.indexAddr 2 s_0 x_8 H fun v3 H =>
   W.getN 2 v3 H fun v4 H =>
   W.call Tryz.prog f_1 #[v4] H fun v5 H =>
   W.cond v5 H
   (fun H => Q x_8 H)
   (fun H => W.bin .add x_8 (.int .i64 1) H fun v6 H =>
    I1 (v6, ()) H))
  (fun H => Q (.int .i64 (-1)) H)
def f138.w (Q : Post) (s_0 : Value) (f_1 : Value) (H : Heap) : Prop :=
  W.len s_0 H fun v1 H =>
  W.loop (S := St [8]) (fun I1 s H => f138.l1 Q v1 s_0 f_1 I1 s.1 H) ((.int .i64 0), ()) H
theorem f138.enter {Q : Post} {s_0 : Value} {f_1 : Value} {H : Heap} (h : f138.w Q s_0 f_1 H) : Runs Tryz.prog 138 #[s_0, f_1] H Q :=
  fn_enter (ann := [(2, [8])]) (by kernel_rfl) Tryz.func138 rfl (by kernel_rfl) h (by kernel_rfl)

/- loop.example/g01343/impl.areFracs -/
def f102.w (Q : Post) (list_0 : Value) (H : Heap) : Prop :=
  W.call Tryz.prog (.func (.func 122) #[] #[]) #[list_0, (.func (.func 123) #[] #[])] H fun v1 H =>
  W.un .not v1 H fun v2 H =>
  Q v2 H
theorem f102.enter {Q : Post} {list_0 : Value} {H : Heap} (h : f102.w Q list_0 H) : Runs Tryz.prog 102 #[list_0] H Q :=
  fn_enter (ann := []) (by kernel_rfl) Tryz.func102 rfl (by kernel_rfl) h (by kernel_rfl)

/- loop.example/g01343/impl.areFracs$1 -/
def f123.w (Q : Post) (a_0 : Value) (H : Heap) : Prop :=
  W.box a_0 38 H fun v1 H =>
  W.getN 2 v1 H fun v2 H =>
  W.call Tryz.prog (.func (.func 119) #[] #[]) #[v2] H fun v3 H =>
  W.un .not v3 H fun v4 H =>
  Q v4 H
theorem f123.enter {Q : Post} {a_0 : Value} {H : Heap} (h : f123.w Q a_0 H) : Runs Tryz.prog 123 #[a_0] H Q :=
  fn_enter (ann := []) (by kernel_rfl) Tryz.func123 rfl (by kernel_rfl) h (by kernel_rfl)

/- loop.example/g01343/impl.together -/
def f49.l2 (Q : Post) (v15 : Value) (list_0 : Value) (den_9 : Value) (parts_2 : Value) (I2 : St [12, 37] → Heap → Prop) (out_12 : Value) (x_37 : Value) (H : Heap) : Prop :=
  W.bin .lss x_37 v15 H fun v16 H =>
  W.cond v16 H
  (fun H => W.indexAddr 2 list_0 x_37 H fun v17 H =>
   W.getN 2 v17 H fun v18 H =>
   W.new [(.int .i64 0), (.int .i64 0)] 38 H fun v19 H =>
   W.putN 2 v19 v18 H fun _ H =>
   W.fieldAddr 0 v19 H fun v20 H =>
   W.get v20 H fun v21 H =>
   W.fieldAddr 1 v19 H fun v22 H =>
   W.get v22 H fun v23 H =>
   W.bin .quo den_9 v23 H fun v24 H =>
   W.bin .mul v21 v24 H fun v25 H =>
   W.call Tryz.prog (.func (.func 100) #[] #[]) #[v25, parts_2] H fun v26 H =>
   W.un .not v26 H fun v27 H =>
   W.cond v27 H
   (fun H => Q (.tuple #[(.slice none 0 0), (.int .i64 0), (.bool false)]) H)
   (fun H => W.lit 1 [(.int .i64 0)] 2 [(0, 1, v25)] H fun v28 H =>
    W.append 1 2 out_12 v28 H fun v29 H =>
    W.bin .add x_37 (.int .i64 1) H fun v30 H =>
    I2 (v29, v30, ()) H))
  (fun H => Q (.tuple #[out_12, den_9, (.bool true)]) H)
def f49.l1 (Q : Post) (v1 : Value) (list_0 : Value) (most_1 : Value) (parts_2 : Value) (I1 : St [9, 18] → Heap → Prop) (den_9 : Value) (x_18 : Value) (H : Heap) : Prop :=
  W.bin .lss x_18 v1 H fun v2 H =>
  W.cond v2 H
  (fun H => W.indexAddr 2 list_0 x_18 H fun v3 H =>
   W.getN 2 v3 H fun v4 H =>
   W.new [(.int .i64 0), (.int .i64 0)] 38 H fun v5 H =>
   W.putN 2 v5 v4 H fun _ H =>
   W.fieldAddr 1 v5 H fun v6 H =>
   W.get v6 H fun v7 H =>
   W.callQ Tryz.prog (.func (.func 103) #[] #[]) #[den_9, v7] H fun v8 H =>
   W.bin .quo den_9 v8 H fun v9 H =>
   W.fieldAddr 1 v5 H fun v10 H =>
   W.get v10 H fun v11 H =>
   W.bin .mul v9 v11 H fun v12 H =>
   W.bin .gtr v12 most_1 H fun v13 H =>
   W.cond v13 H
   (fun H => Q (.tuple #[(.slice none 0 0), (.int .i64 0), (.bool false)]) H)
   (fun H => W.bin .add x_18 (.int .i64 1) H fun v14 H =>
    I1 (v12, v14, ()) H))
  (fun H => W.len list_0 H fun v15 H =>
   W.loop (S := St [12, 37]) (fun I2 s H => f49.l2 Q v15 list_0 den_9 parts_2 I2 s.1 s.2.1 H) ((.slice none 0 0), (.int .i64 0), ()) H)
def f49.w (Q : Post) (list_0 : Value) (most_1 : Value) (parts_2 : Value) (H : Heap) : Prop :=
  W.len list_0 H fun v1 H =>
  W.loop (S := St [9, 18]) (fun I1 s H => f49.l1 Q v1 list_0 most_1 parts_2 I1 s.1 s.2.1 H) ((.int .i64 1), (.int .i64 0), ()) H
theorem f49.enter {Q : Post} {list_0 : Value} {most_1 : Value} {parts_2 : Value} {H : Heap} (h : f49.w Q list_0 most_1 parts_2 H) : Runs Tryz.prog 49 #[list_0, most_1, parts_2] H Q :=
  fn_enter (ann := [(3, [9, 18]), (11, [12, 37])]) (by kernel_rfl) Tryz.func49 rfl (by kernel_rfl) h (by kernel_rfl)

/- loop.example/g01343/spec.IsFrac -/
def f40.w (Q : Post) (a_0 : Value) (H : Heap) : Prop :=
  W.box a_0 38 H fun v1 H =>
  W.getN 2 v1 H fun v2 H =>
  W.call Tryz.prog (.func (.func 89) #[] #[]) #[v2, (.int .i64 1000000000)] H fun v3 H =>
  Q v3 H
theorem f40.enter {Q : Post} {a_0 : Value} {H : Heap} (h : f40.w Q a_0 H) : Runs Tryz.prog 40 #[a_0] H Q :=
  fn_enter (ann := []) (by kernel_rfl) Tryz.func40 rfl (by kernel_rfl) h (by kernel_rfl)

/- loop.example/g01343/spec.l01Common -/
def f73.l2 (Q : Post) (z_0 : Value) (den_5 : Value) (I2 : St [7, 8] → Heap → Prop) (out_7 : Value) (i_8 : Value) (H : Heap) : Prop :=
  W.len z_0 H fun v15 H =>
  W.bin .lss i_8 v15 H fun v16 H =>
  W.cond v16 H
  (fun H => W.indexAddr 2 z_0 i_8 H fun v17 H =>
   W.fieldAddr 0 v17 H fun v18 H =>
   W.get v18 H fun v19 H =>
   W.indexAddr 2 z_0 i_8 H fun v20 H =>
   W.fieldAddr 1 v20 H fun v21 H =>
   W.get v21 H fun v22 H =>
   W.bin .quo den_5 v22 H fun v23 H =>
   W.bin .mul v19 v23 H fun v24 H =>
   W.call Tryz.prog (.func (.func 70) #[] #[]) #[v24, (.int .i64 (-1000000000000)), (.int .i64 1000000000000)] H fun v25 H =>
   W.un .not v25 H fun v26 H =>
   W.cond v26 H
   (fun H => Q (.tuple #[(.slice none 0 0), (.int .i64 0), (.bool false)]) H)
   (fun H => W.lit 1 [(.int .i64 0)] 2 [(0, 1, v24)] H fun v27 H =>
    W.append 1 2 out_7 v27 H fun v28 H =>
    W.bin .add i_8 (.int .i64 1) H fun v29 H =>
    I2 (v28, v29, ()) H))
  (fun H => Q (.tuple #[out_7, den_5, (.bool true)]) H)
def f73.l1 (Q : Post) (z_0 : Value) (I1 : St [5, 6] → Heap → Prop) (den_5 : Value) (i_6 : Value) (H : Heap) : Prop :=
  W.len z_0 H fun v1 H =>
  W.bin .lss i_6 v1 H fun v2 H =>
  W.cond v2 H
  (fun H => W.indexAddr 2 z_0 i_6 H fun v3 H =>
   W.fieldAddr 1 v3 H fun v4 H =>
   W.get v4 H fun v5 H =>
   W.callQ Tryz.prog (.func (.func 115) #[] #[]) #[den_5, v5] H fun v6 H =>
   W.bin .quo den_5 v6 H fun v7 H =>
   W.indexAddr 2 z_0 i_6 H fun v8 H =>
   W.fieldAddr 1 v8 H fun v9 H =>
   W.get v9 H fun v10 H =>
   W.bin .mul v7 v10 H fun v11 H =>
   W.bin .gtr v11 (.int .i64 1000000000) H fun v12 H =>
   W.cond v12 H
   (fun H => Q (.tuple #[(.slice none 0 0), (.int .i64 0), (.bool false)]) H)
   (fun H => W.bin .add i_6 (.int .i64 1) H fun v13 H =>
    I1 (v11, v13, ()) H))
  (fun H => W.lit 0 [(.int .i64 0)] 2 [] H fun v14 H =>
   W.loop (S := St [7, 8]) (fun I2 s H => f73.l2 Q z_0 den_5 I2 s.1 s.2.1 H) (v14, (.int .i64 0), ()) H)
def f73.w (Q : Post) (z_0 : Value) (H : Heap) : Prop :=
  W.loop (S := St [5, 6]) (fun I1 s H => f73.l1 Q z_0 I1 s.1 s.2.1 H) ((.int .i64 1), (.int .i64 0), ()) H
theorem f73.enter {Q : Post} {z_0 : Value} {H : Heap} (h : f73.w Q z_0 H) : Runs Tryz.prog 73 #[z_0] H Q :=
  fn_enter (ann := [(3, [5, 6]), (10, [7, 8])]) (by kernel_rfl) Tryz.func73 rfl (by kernel_rfl) h (by kernel_rfl)


theorem fn102 {H0 : Heap} {Q : Post} {v : Value} {xs : List Frac} (hr : Has RFS H0 [v] xs) (hQ : ∀ H' t, H0.Le H' → (t = true ↔ Frs xs) → Q (.bool t) H') : Runs Tryz.prog 102 #[v] H0 Q := by
  have hs := hr.small
  refine f102.enter (Wi.call (f122.enter (Wi.call (f138.enter ?_))))
  refine Wl.lenH hr (W.all_rule xs.length (fun i => isFr 1000000000 (xs.getD i (0, 0))) (fun i H1 J hi _ l hJ => ?_) fun H1 J hall l => ?_)
  · refine Wi.lssC (fun _ => Wi.tru ?_) fun h => by omega
    have e1 := fr_at hi (0, 0)
    refine Wl.atFrH (hr.le l) hi fun _ _ => Wi.callV (f123.enter (Wl.box (Loc.start _) fun H2 b h => Wl.getA h rfl (Wi.call (fn119 fun H3 l3 => Wi.not ?_))))
    cases hf : isFr 1000000000 xs[i] with
    | false =>
      refine Wi.tru (Wi.geq ?_)
      rw [show decide ((0 : Int) ≤ (i : Nat)) = true by simp]
      refine Wi.not (hQ _ _ ((l.trans h.le).trans l3) ⟨fun e => Bool.noConfusion e, fun g => ?_⟩)
      rw [g _ (List.getElem_mem hi)] at hf
      cases hf
    | true => exact Wi.fls (Wi.add (by unfold I64; omega) (hJ (by rw [e1]; exact hf) H3 (h.le.trans l3)))
  · refine Wi.lssC (fun h => by omega) fun _ => Wi.fls (Wi.geq ?_)
    rw [show decide ((0 : Int) ≤ -1) = false by decide]
    refine Wi.not (hQ _ _ l ⟨fun _ a ha => ?_, fun _ => rfl⟩)
    obtain ⟨i, hi, rfl⟩ := List.mem_iff_getElem.1 ha
    have := hall i hi
    rw [fr_at hi] at this
    exact this

theorem fn40 {H0 : Heap} {Q : Post} {a : Frac} (hQ : ∀ H', H0.Le H' → Q (.bool (isFr 1000000000 a)) H') : Runs Tryz.prog 40 #[.agg (frC a).toArray] H0 Q := by
  refine f40.enter ?_
  unfold f40.w
  exact Wl.box (Loc.start H0) fun H b h => Wl.getA h rfl (Wi.call (fn89 fun H2 l2 => hQ _ (h.le.trans l2)))

theorem tog_none1 {m n : Int} {xs : List Frac} {i : Nat} (hi : i < xs.length) (h : m < comTo xs (i + 1)) : tog m n xs = none := by
  unfold tog
  rw [if_neg]
  rintro ⟨g, _⟩
  have := g i hi
  omega

theorem tog_none2 {m n : Int} {xs : List Frac} {i : Nat} (hi : i < xs.length) (h : inR (-n) n (comNum (comTo xs xs.length) xs[i]) = false) : tog m n xs = none := by
  unfold tog
  rw [if_neg]
  rintro ⟨_, g⟩
  rw [inR_iff.2 (g _ (List.getElem_mem hi))] at h
  cases h

theorem tog_some {m n : Int} {xs : List Frac} (h1 : okDen m xs) (h2 : ∀ i (hi : i < xs.length), inR (-n) n (comNum (comTo xs xs.length) xs[i]) = true) : tog m n xs = some (xs.map (comNum (comTo xs xs.length)), comTo xs xs.length) := by
  unfold tog
  rw [if_pos]
  refine ⟨h1, fun a ha => ?_⟩
  obtain ⟨i, hi, rfl⟩ := List.mem_iff_getElem.1 ha
  exact inR_iff.1 (h2 i hi)

theorem comNum_i64 {d : Int} {a : Frac} (hd : 1 ≤ d ∧ d ≤ 1000000000) (h2 : 1 ≤ a.2) (h1 : -1000000000 ≤ a.1 ∧ a.1 ≤ 1000000000) : I64 (d.tdiv a.2) ∧ I64 (a.1 * d.tdiv a.2) := by
  have e1 : (d.tdiv a.2).natAbs ≤ 1000000000 := by
    have := Int.natAbs_tdiv_le_natAbs d a.2
    omega
  have e2 : (a.1 * d.tdiv a.2).natAbs ≤ 1000000000 * 1000000000 := by
    rw [Int.natAbs_mul]
    exact Nat.mul_le_mul (by omega) e1
  exact ⟨by unfold I64; omega, by unfold I64; omega⟩

theorem comTo_step {xs : List Frac} {i : Nat} (hi : i < xs.length) : comTo xs (i + 1) = (comTo xs i).tdiv (Int.gcd (comTo xs i) xs[i].2) * xs[i].2 := by
  simp only [comTo]
  rw [fr_at hi]
  rfl

/-- What one round of the denominators needs. -/
theorem comTo_fit {xs : List Frac} (hf : Frs xs) {i : Nat} (hi : i < xs.length) {m : Int} (hm : m ≤ 1000000000) (hd : comTo xs i ≤ m) :
    B64 (comTo xs i) ∧ B64 xs[i].2 ∧ (Int.gcd (comTo xs i) xs[i].2 : Int) ≠ 0 ∧ I64 ((comTo xs i).tdiv (Int.gcd (comTo xs i) xs[i].2)) ∧ I64 ((comTo xs i).tdiv (Int.gcd (comTo xs i) xs[i].2) * xs[i].2) := by
  have h1 := comTo_pos hf (i := i) (by omega)
  obtain ⟨h2, h3, _, _⟩ := fr_den hf hi
  have hB : B64 (comTo xs i) := by unfold B64; omega
  have hg : 0 < Int.gcd (comTo xs i) xs[i].2 := Int.gcd_pos_of_ne_zero_left _ (by omega)
  have h4 := comStep_le h1 h2 (Int.le_refl _)
  have h5 := (comStep_pos h1 h2).1
  unfold comStep at h4 h5
  have h6 : comTo xs i * xs[i].2 ≤ 1000000000 * 1000000000 := Int.mul_le_mul (by omega) h3 (by omega) (by omega)
  refine ⟨hB, by unfold B64; omega, by omega, (tdiv_B hB).i64, ?_⟩
  unfold I64
  omega

theorem fn49 {H0 : Heap} {Q : Post} {v : Value} {xs : List Frac} {m n : Int} (hr : Has RFS H0 [v] xs) (hf : Frs xs) (hl : xs.length ≤ 1048576) (hm : 1 ≤ m ∧ m ≤ 1000000000) (hn : 0 ≤ n ∧ n ≤ 1000000000000)
    (h1 : tog m n xs = none → ∀ H', H0.Le H' → Q (.tuple #[.slice none 0 0, .int .i64 0, .bool false]) H')
    (h2 : ∀ l d, tog m n xs = some (l, d) → ∀ H' u, FreshG Rd.int 2 H0 u l H' → Q (.tuple #[u, .int .i64 d, .bool true]) H') : Runs Tryz.prog 49 #[v, .int .i64 m, .int .i64 n] H0 Q := by
  refine f49.enter (Wl.lenH hr ?_)
  refine W.for_rule xs.length (fun i s H => s = (.int .i64 (comTo xs i), .int .i64 (i : Nat), ()) ∧ Ab.Loc H0 [.lent RFS [v] xs] H ∧ comTo xs i ≤ m ∧ ∀ j, j < i → comTo xs (j + 1) ≤ m) ⟨rfl, (Loc.start H0).lent hr, by simp [comTo]; omega, fun j hj => by omega⟩ ?_
  rintro i s H J hi ⟨rfl, h, hd, hall⟩ hJ
  refine Wi.lssC (fun hlt => Wi.tru ?_) fun hge => Wi.fls ?_
  · have hix : i < xs.length := by omega
    obtain ⟨f1, f2, f3, f4, f5⟩ := comTo_fit hf hix hm.2 hd
    refine Wl.atFr h hix fun _ _ => Wl.new h fun H b h => Wl.putA (vs := frC xs[i]) h rfl rfl rfl fun H h => Wi.fieldAddr0 (Wl.get h rfl (Wi.callQ (fn103 f1 f2 ⟨.refl _, Wi.quo f3 f4 (Wi.fieldAddr0 (Wl.get h rfl (Wi.mul f5 ?_)))⟩)))
    rw [← comTo_step hix]
    refine Wi.gtrC (fun hgt => Wi.tru (h1 (tog_none1 hix hgt) _ h.le)) fun hle => Wi.fls (Wi.add (by unfold I64; omega) (hJ _ _ hix ⟨rfl, h.tl, by omega, fun j hj => ?_⟩))
    by_cases e : j = i
    · subst e; omega
    · exact hall j (by omega)
  have : i = xs.length := by omega
  subst this
  have hp := comTo_pos hf (Nat.le_refl xs.length)
  refine Wl.len h ?_
  refine W.for_rule xs.length (fun i s H => ∃ u, s = (u, .int .i64 (i : Nat), ()) ∧ Ab.Loc H0 [.grow Rd.int 2 u ((xs.take i).map (comNum (comTo xs xs.length))), .lent RFS [v] xs] H ∧ ∀ j (hj : j < xs.length), j < i → inR (-n) n (comNum (comTo xs xs.length) xs[j]) = true) ⟨_, rfl, h.nilG Rd.int 2, fun j _ hj => by omega⟩ ?_
  rintro i s H J2 hi ⟨u, rfl, h, hok⟩ hJ2
  refine Wi.lssC (fun hlt => Wi.tru ?_) fun hge => Wi.fls ?_
  · have hix : i < xs.length := by omega
    obtain ⟨k1, k2, k3, k4⟩ := fr_den hf hix
    obtain ⟨o1, o2⟩ := comNum_i64 (a := xs[i]) ⟨hp, by omega⟩ k1 ⟨k3, k4⟩
    refine Wl.atFr h hix fun _ _ => Wl.new h fun H b h => Wl.putA (vs := frC xs[i]) h rfl rfl rfl fun H h => Wi.fieldAddr0 (Wl.get h rfl (Wi.fieldAddr0 (Wl.get h rfl (Wi.quo (by omega) o1 (Wi.mul o2 (Wi.call (fn100 (by unfold I64; omega) (Wi.not ?_))))))))
    have h := h.tl
    have en : xs[i].1 * (comTo xs xs.length).tdiv xs[i].2 = comNum (comTo xs xs.length) xs[i] := rfl
    rw [en] at o2 ⊢
    cases hin : inR (-n) n (comNum (comTo xs xs.length) xs[i]) with
    | false => exact Wi.tru (h1 (tog_none2 hix hin) _ h.le)
    | true =>
      refine Wi.fls (Wl.pushP (r := Rd.int) (x := comNum (comTo xs xs.length) xs[i]) rfl rfl rfl (fun _ => ⟨rfl, rfl, o2⟩) h (by simp; omega) fun H u' h => Wi.add (by unfold I64; omega) (hJ2 _ _ hix ⟨u', rfl, ?_, fun j hj hji => ?_⟩))
      · rw [List.take_succ_eq_append_getElem hix, List.map_append]
        exact h
      · by_cases e : j = i
        · subst e; exact hin
        · exact hok j hj (by omega)
  · have : i = xs.length := by omega
    subst this
    rw [List.take_length] at h
    exact h2 _ _ (tog_some hall fun j hj => hok j hj hj) _ _ (h.retGG (i := 0) rfl)

theorem fn73 {H0 : Heap} {Q : Post} {v : Value} {xs : List Frac} (hr : Has RFS H0 [v] xs) (hf : Frs xs) (hl : xs.length ≤ 1048576)
    (h1 : tog 1000000000 1000000000000 xs = none → ∀ H', H0.Le H' → Q (.tuple #[.slice none 0 0, .int .i64 0, .bool false]) H')
    (h2 : ∀ l d, tog 1000000000 1000000000000 xs = some (l, d) → ∀ H' u, FreshG Rd.int 2 H0 u l H' → Q (.tuple #[u, .int .i64 d, .bool true]) H') : Runs Tryz.prog 73 #[v] H0 Q := by
  refine f73.enter ?_
  unfold f73.w
  refine W.for_rule xs.length (fun i s H => s = (.int .i64 (comTo xs i), .int .i64 (i : Nat), ()) ∧ Ab.Loc H0 [.lent RFS [v] xs] H ∧ comTo xs i ≤ 1000000000 ∧ ∀ j, j < i → comTo xs (j + 1) ≤ 1000000000) ⟨rfl, (Loc.start H0).lent hr, by simp [comTo], fun j hj => by omega⟩ ?_
  rintro i s H J hi ⟨rfl, h, hd, hall⟩ hJ
  refine Wl.len h (Wi.lssC (fun hlt => Wi.tru ?_) fun hge => Wi.fls ?_)
  · have hix : i < xs.length := by omega
    obtain ⟨f1, f2, f3, f4, f5⟩ := comTo_fit hf hix (Int.le_refl _) hd
    refine Wl.denFr h hix fun _ => Wi.callQ (fn115 f1 f2 ⟨.refl _, Wi.quo f3 f4 (Wl.denFr h hix fun _ => Wi.mul f5 ?_)⟩)
    rw [← comTo_step hix]
    refine Wi.gtrC (fun hgt => Wi.tru (h1 (tog_none1 hix hgt) _ h.le)) fun hle => Wi.fls (Wi.add (by unfold I64; omega) (hJ _ _ hix ⟨rfl, h, by omega, fun j hj => ?_⟩))
    by_cases e : j = i
    · subst e; omega
    · exact hall j (by omega)
  have : i = xs.length := by omega
  subst this
  have hp := comTo_pos hf (Nat.le_refl xs.length)
  refine Wl.lit0 Rd.int rfl h fun H u h => ?_
  refine W.for_rule xs.length (fun i s H => ∃ u, s = (u, .int .i64 (i : Nat), ()) ∧ Ab.Loc H0 [.grow Rd.int 2 u ((xs.take i).map (comNum (comTo xs xs.length))), .lent RFS [v] xs] H ∧ ∀ j (hj : j < xs.length), j < i → inR (-1000000000000) 1000000000000 (comNum (comTo xs xs.length) xs[j]) = true) ⟨_, rfl, h, fun j _ hj => by omega⟩ ?_
  rintro i s H J2 hi ⟨u, rfl, h, hok⟩ hJ2
  refine Wl.len h (Wi.lssC (fun hlt => Wi.tru ?_) fun hge => Wi.fls ?_)
  · have hix : i < xs.length := by omega
    obtain ⟨k1, k2, k3, k4⟩ := fr_den hf hix
    obtain ⟨o1, o2⟩ := comNum_i64 (a := xs[i]) ⟨hp, by omega⟩ k1 ⟨k3, k4⟩
    refine Wl.numFr h hix fun _ => Wl.denFr h hix fun _ => Wi.quo (by omega) o1 (Wi.mul o2 (Wi.call (fn70 (Wi.not ?_))))
    have en : xs[i].1 * (comTo xs xs.length).tdiv xs[i].2 = comNum (comTo xs xs.length) xs[i] := rfl
    rw [en] at o2 ⊢
    cases hin : inR (-1000000000000) 1000000000000 (comNum (comTo xs xs.length) xs[i]) with
    | false => exact Wi.tru (h1 (tog_none2 hix hin) _ h.le)
    | true =>
      refine Wi.fls (Wl.pushP (r := Rd.int) (x := comNum (comTo xs xs.length) xs[i]) rfl rfl rfl (fun _ => ⟨rfl, rfl, o2⟩) h (by simp; omega) fun H u' h => Wi.add (by unfold I64; omega) (hJ2 _ _ hix ⟨u', rfl, ?_, fun j hj hji => ?_⟩))
      · rw [List.take_succ_eq_append_getElem hix, List.map_append]
        exact h
      · by_cases e : j = i
        · subst e; exact hin
        · exact hok j hj (by omega)
  · have : i = xs.length := by omega
    subst this
    rw [List.take_length] at h
    exact h2 _ _ (tog_some hall fun j hj => hok j hj hj) _ _ (h.retGG (i := 0) rfl)

end Go.Proofs.YtgdiebnokgnniaaGreatDoor

/-! Contracts of PointOf, DeterminantOf, ColumnsOf and IsProblem, the program's and the reference's. No condition. -/
namespace Go.Proofs.YtgdiebnokgnniaaGreatDoor
open Go.Ab

/- loop.example/g01343/impl.PointOf -/
def f6.w (Q : Post) (p_0 : Value) (s_1 : Value) (H : Heap) : Prop :=
  W.box p_0 27 H fun v1 H =>
  W.getN 2 v1 H fun v2 H =>
  W.call Tryz.prog (.func (.func 35) #[] #[]) #[v2, s_1] H fun v3 H =>
  W.bin .neq v3 (.int .i64 0) H fun v4 H =>
  W.cond v4 H
  (fun H => Q (.tuple #[(.slice none 0 0), v3]) H)
  (fun H => W.getN 2 v1 H fun v5 H =>
   W.fieldAddr 1 v1 H fun v6 H =>
   W.get v6 H fun v7 H =>
   W.call Tryz.prog (.func (.func 36) #[] #[]) #[v5, s_1, v7] H fun v8 H =>
   W.extract 0 v8 H fun v9 H =>
   W.extract 1 v8 H fun v10 H =>
   W.extract 2 v8 H fun v11 H =>
   W.un .not v11 H fun v12 H =>
   W.cond v12 H
   (fun H => Q (.tuple #[(.slice none 0 0), (.int .i64 5)]) H)
   (fun H => W.call Tryz.prog (.func (.func 37) #[] #[]) #[v9, v10] H fun v13 H =>
    W.extract 0 v13 H fun v14 H =>
    W.extract 1 v13 H fun v15 H =>
    Q (.tuple #[v14, v15]) H))
theorem f6.enter {Q : Post} {p_0 : Value} {s_1 : Value} {H : Heap} (h : f6.w Q p_0 s_1 H) : Runs Tryz.prog 6 #[p_0, s_1] H Q :=
  fn_enter (ann := []) (by kernel_rfl) Tryz.func6 rfl (by kernel_rfl) h (by kernel_rfl)

/- loop.example/g01343/impl.DeterminantOf -/
def f8.w (Q : Post) (p_0 : Value) (s_1 : Value) (H : Heap) : Prop :=
  W.box p_0 27 H fun v1 H =>
  W.getN 2 v1 H fun v2 H =>
  W.call Tryz.prog (.func (.func 35) #[] #[]) #[v2, s_1] H fun v3 H =>
  W.bin .neq v3 (.int .i64 0) H fun v4 H =>
  W.cond v4 H
  (fun H => Q (.tuple #[(.int .i64 0), v3]) H)
  (fun H => W.getN 2 v1 H fun v5 H =>
   W.call Tryz.prog (.func (.func 42) #[] #[]) #[v5, s_1] H fun v6 H =>
   W.call Tryz.prog (.func (.func 41) #[] #[]) #[v6] H fun v7 H =>
   Q (.tuple #[v7, (.int .i64 0)]) H)
theorem f8.enter {Q : Post} {p_0 : Value} {s_1 : Value} {H : Heap} (h : f8.w Q p_0 s_1 H) : Runs Tryz.prog 8 #[p_0, s_1] H Q :=
  fn_enter (ann := []) (by kernel_rfl) Tryz.func8 rfl (by kernel_rfl) h (by kernel_rfl)

/- loop.example/g01343/impl.ColumnsOf -/
def f29.w (Q : Post) (p_0 : Value) (s_1 : Value) (H : Heap) : Prop :=
  W.box p_0 27 H fun v1 H =>
  W.getN 2 v1 H fun v2 H =>
  W.call Tryz.prog (.func (.func 35) #[] #[]) #[v2, s_1] H fun v3 H =>
  W.bin .neq v3 (.int .i64 0) H fun v4 H =>
  W.cond v4 H
  (fun H => Q (.tuple #[(.slice none 0 0), v3]) H)
  (fun H => W.getN 2 v1 H fun v5 H =>
   W.call Tryz.prog (.func (.func 42) #[] #[]) #[v5, s_1] H fun v6 H =>
   Q (.tuple #[v6, (.int .i64 0)]) H)
theorem f29.enter {Q : Post} {p_0 : Value} {s_1 : Value} {H : Heap} (h : f29.w Q p_0 s_1 H) : Runs Tryz.prog 29 #[p_0, s_1] H Q :=
  fn_enter (ann := []) (by kernel_rfl) Tryz.func29 rfl (by kernel_rfl) h (by kernel_rfl)

/- loop.example/g01343/spec.l01Set -/
def f38.w (Q : Post) (p_0 : Value) (s_1 : Value) (H : Heap) : Prop :=
  W.box p_0 27 H fun v1 H =>
  W.getN 2 v1 H fun v2 H =>
  W.call Tryz.prog (.func (.func 47) #[] #[]) #[v2] H fun v3 H =>
  W.un .not v3 H fun v4 H =>
  W.cond v4 H
  (fun H => Q (.int .i64 1) H)
  (fun H => W.fieldAddr 1 v1 H fun v5 H =>
   W.get v5 H fun v6 H =>
   W.len v6 H fun v7 H =>
   W.conv .u64 v7 H fun v8 H =>
   W.bin .shl (.int .i64 1) v8 H fun v9 H =>
   W.bin .sub v9 (.int .i64 1) H fun v10 H =>
   W.call Tryz.prog (.func (.func 70) #[] #[]) #[s_1, (.int .i64 0), v10] H fun v11 H =>
   W.un .not v11 H fun v12 H =>
   W.cond v12 H
   (fun H => Q (.int .i64 2) H)
   (fun H => Q (.int .i64 0) H))
theorem f38.enter {Q : Post} {p_0 : Value} {s_1 : Value} {H : Heap} (h : f38.w Q p_0 s_1 H) : Runs Tryz.prog 38 #[p_0, s_1] H Q :=
  fn_enter (ann := []) (by kernel_rfl) Tryz.func38 rfl (by kernel_rfl) h (by kernel_rfl)

/- loop.example/g01343/spec.PointOf -/
def f7.l1 (Q : Post) (v7 : Value) (I1 : St [9] → Heap → Prop) (i_9 : Value) (H : Heap) : Prop :=
  W.len v7 H fun v10 H =>
  W.bin .lss i_9 v10 H fun v11 H =>
  W.cond v11 H
  (fun H => W.indexAddr 2 v7 i_9 H fun v12 H =>
   W.getN 2 v12 H fun v13 H =>
   W.call Tryz.prog (.func (.func 40) #[] #[]) #[v13] H fun v14 H =>
   W.un .not v14 H fun v15 H =>
   W.cond v15 H
   (fun H => Q (.tuple #[(.slice none 0 0), (.int .i64 3)]) H)
   (fun H => W.bin .add i_9 (.int .i64 1) H fun v16 H =>
    I1 (v16, ()) H))
  (fun H => Q (.tuple #[v7, (.int .i64 0)]) H)
def f7.w (Q : Post) (p_0 : Value) (s_1 : Value) (H : Heap) : Prop :=
  W.box p_0 27 H fun v1 H =>
  W.getN 2 v1 H fun v2 H =>
  W.call Tryz.prog (.func (.func 38) #[] #[]) #[v2, s_1] H fun v3 H =>
  W.bin .neq v3 (.int .i64 0) H fun v4 H =>
  W.cond v4 H
  (fun H => Q (.tuple #[(.slice none 0 0), v3]) H)
  (fun H => W.getN 2 v1 H fun v5 H =>
   W.call Tryz.prog (.func (.func 39) #[] #[]) #[v5, s_1] H fun v6 H =>
   W.extract 0 v6 H fun v7 H =>
   W.extract 1 v6 H fun v8 H =>
   W.un .not v8 H fun v9 H =>
   W.cond v9 H
   (fun H => Q (.tuple #[(.slice none 0 0), (.int .i64 5)]) H)
   (fun H => W.loop (S := St [9]) (fun I1 s H => f7.l1 Q v7 I1 s.1 H) ((.int .i64 0), ()) H))
theorem f7.enter {Q : Post} {p_0 : Value} {s_1 : Value} {H : Heap} (h : f7.w Q p_0 s_1 H) : Runs Tryz.prog 7 #[p_0, s_1] H Q :=
  fn_enter (ann := [(8, [9])]) (by kernel_rfl) Tryz.func7 rfl (by kernel_rfl) h (by kernel_rfl)

/- loop.example/g01343/spec.DeterminantOf -/
def f9.w (Q : Post) (p_0 : Value) (s_1 : Value) (H : Heap) : Prop :=
  W.box p_0 27 H fun v1 H =>
  W.getN 2 v1 H fun v2 H =>
  W.call Tryz.prog (.func (.func 38) #[] #[]) #[v2, s_1] H fun v3 H =>
  W.bin .neq v3 (.int .i64 0) H fun v4 H =>
  W.cond v4 H
  (fun H => Q (.tuple #[(.int .i64 0), v3]) H)
  (fun H => W.fieldAddr 0 v1 H fun v5 H =>
   W.get v5 H fun v6 H =>
   W.call Tryz.prog (.func (.func 44) #[] #[]) #[v6, s_1] H fun v7 H =>
   W.call Tryz.prog (.func (.func 43) #[] #[]) #[v7] H fun v8 H =>
   Q (.tuple #[v8, (.int .i64 0)]) H)
theorem f9.enter {Q : Post} {p_0 : Value} {s_1 : Value} {H : Heap} (h : f9.w Q p_0 s_1 H) : Runs Tryz.prog 9 #[p_0, s_1] H Q :=
  fn_enter (ann := []) (by kernel_rfl) Tryz.func9 rfl (by kernel_rfl) h (by kernel_rfl)

/- loop.example/g01343/spec.ColumnsOf -/
def f30.w (Q : Post) (p_0 : Value) (s_1 : Value) (H : Heap) : Prop :=
  W.box p_0 27 H fun v1 H =>
  W.getN 2 v1 H fun v2 H =>
  W.call Tryz.prog (.func (.func 38) #[] #[]) #[v2, s_1] H fun v3 H =>
  W.bin .neq v3 (.int .i64 0) H fun v4 H =>
  W.cond v4 H
  (fun H => Q (.tuple #[(.slice none 0 0), v3]) H)
  (fun H => W.fieldAddr 0 v1 H fun v5 H =>
   W.get v5 H fun v6 H =>
   W.call Tryz.prog (.func (.func 44) #[] #[]) #[v6, s_1] H fun v7 H =>
   Q (.tuple #[v7, (.int .i64 0)]) H)
theorem f30.enter {Q : Post} {p_0 : Value} {s_1 : Value} {H : Heap} (h : f30.w Q p_0 s_1 H) : Runs Tryz.prog 30 #[p_0, s_1] H Q :=
  fn_enter (ann := []) (by kernel_rfl) Tryz.func30 rfl (by kernel_rfl) h (by kernel_rfl)

/- loop.example/g01343/spec.IsProblem -/
def f12.w (Q : Post) (p_0 : Value) (H : Heap) : Prop :=
  W.box p_0 27 H fun v1 H =>
  W.getN 2 v1 H fun v2 H =>
  W.call Tryz.prog (.func (.func 47) #[] #[]) #[v2] H fun v3 H =>
  Q v3 H
theorem f12.enter {Q : Post} {p_0 : Value} {H : Heap} (h : f12.w Q p_0 H) : Runs Tryz.prog 12 #[p_0] H Q :=
  fn_enter (ann := []) (by kernel_rfl) Tryz.func12 rfl (by kernel_rfl) h (by kernel_rfl)


def poRes (p : Prob) (s : Int) : List Frac × Int :=
  if setC p s = 0 then (if det p.2.length (mAt (colL p.2.length p.1 s.toNat)) = 0 then ([], 5) else tolF ((solveL p.2.length (colL p.2.length p.1 s.toNat) p.2).map fun x => frac x (det p.2.length (mAt (colL p.2.length p.1 s.toNat))))) else ([], setC p s)

def deRes (p : Prob) (s : Int) : Int × Int := if setC p s = 0 then (det p.2.length (mAt (colL p.2.length p.1 s.toNat)), 0) else (0, setC p s)
def coRes (p : Prob) (s : Int) : List (List Int) × Int := if setC p s = 0 then (colL p.2.length p.1 s.toNat, 0) else ([], setC p s)

theorem setC_ok {p : Prob} {s : Int} (he : setC p s = 0) : isProb p = true ∧ setOk p.2.length s = true := by
  unfold setC at he
  by_cases g : isProb p = true
  · rw [if_pos g] at he
    by_cases g2 : setOk p.2.length s = true
    · exact ⟨g, g2⟩
    · rw [if_neg g2] at he; cases he
  · rw [if_neg g] at he; cases he

theorem setC_nat {p : Prob} {s : Int} (he : setC p s = 0) : ∃ k : Nat, s = (k : Int) ∧ k < 2 ^ p.2.length ∧ k < 32 ∧ PB p.2.length p := by
  obtain ⟨hp, hs⟩ := setC_ok he
  have hpb := PB.of hp
  have h32 := pow5 hpb.n5
  have := setOk_nat hs
  exact ⟨s.toNat, by omega, by omega, by omega, hpb⟩

theorem fn38 {H0 : Heap} {Q : Post} {cs : List Value} {p : Prob} {s : Int} (hr : Has RProblem H0 cs p) (hQ : ∀ H', H0.Le H' → Q (.int .i64 (setC p s)) H') : Runs Tryz.prog 38 #[.agg cs.toArray, .int .i64 s] H0 Q := by
  obtain ⟨u1, u2, rfl, r1, r2⟩ := hasProb hr
  refine f38.enter ?_
  unfold f38.w
  have h := ((Loc.start H0).lent r2).lent hr
  refine Wl.box h fun H b h => Wl.getA h rfl ?_
  obtain ⟨_, q⟩ := h.rd (cs := [u1, u2])
  refine Wi.call (fn47 q fun H l => ?_)
  have h := h.to l
  unfold setC at hQ
  cases hp : isProb p with
  | false =>
    simp only [gw]
    have := hQ _ h.le
    simp only [hp] at this
    exact this
  | true =>
    simp only [gw]
    have hn := (PB.of hp).n5
    have h32 := pow5 hn
    refine Wi.fieldAddr (Wl.get h rfl (Wl.len h (Wi.convN (by omega) (Wi.shl1 (by omega) (Wi.sub (i64_pow hn) (Wi.call (fn70 ?_)))))))
    show W.un .not (.bool (setOk p.2.length s)) _ _
    cases hs : setOk p.2.length s with
    | false =>
      simp only [gw]
      have := hQ _ h.le
      simp only [hp, hs] at this
      exact this
    | true =>
      simp only [gw]
      have := hQ _ h.le
      simp only [hp, hs] at this
      exact this

theorem fn6 {H0 : Heap} {Q : Post} {cs : List Value} {p : Prob} {s : Int} (hr : Has RProblem H0 cs p) (hQ : ∀ H' u, Fresh RFS H0 [u] (poRes p s).1 H' → Q (.tuple #[u, .int .i64 (poRes p s).2]) H') : Runs Tryz.prog 6 #[.agg cs.toArray, .int .i64 s] H0 Q := by
  obtain ⟨u1, u2, rfl, r1, r2⟩ := hasProb hr
  have hz : ∀ H c, H0.Le H → poRes p s = ([], c) → Q (.tuple #[.slice none 0 0, .int .i64 c]) H := fun H c l e => by
    have := hQ H (.slice none 0 0) (by rw [e]; exact fresh_nil l)
    rw [e] at this
    exact this
  refine f6.enter ?_
  unfold f6.w
  have h := ((Loc.start H0).lent r2).lent hr
  refine Wl.box h fun H b h => Wl.getA h rfl (Wi.call (fn35 (h.rd (cs := [u1, u2])) fun H l => ?_))
  have h := h.to l
  refine Wi.neqC (fun hne => Wi.tru (hz _ _ h.le (by unfold poRes; rw [if_neg hne]))) fun he => Wi.fls ?_
  obtain ⟨s, rfl, hs0, hs1, hpb⟩ := setC_nat he
  have hn := hpb.n5
  refine Wl.getA h rfl (Wi.fieldAddr (Wl.get h rfl (Wi.call (fn36 (h.rd (cs := [u1, u2])) hpb (by omega) (h.rd (cs := [u2])) hpb.ql hpb.q (fun hD H l => ?_) fun hD H u f => ?_))))
  · simp only [gw]
    exact hz _ _ (h.to l).le (by unfold poRes; rw [if_pos he, Int.toNat_natCast, if_pos hD])
  · simp only [gw]
    have h := h.add f
    have hcr := colL_rows (m := p.1) s hn fun r c _ _ => hpb.m r c
    have hd := det200 hn hcr
    have hsl := solve_leib s hn hpb.m hpb.q
    refine Wi.call (fn37 (h.rd (cs := [u])) (fun x hx => ?_) (by unfold B64; omega) (by omega) (by simp [pointL, solveL]; omega) fun H w f => ?_)
    · obtain ⟨y, hy, rfl⟩ := List.mem_map.1 hx
      have := hsl y hy
      have := mulA (sgI_abs (det p.2.length (mAt (colL p.2.length p.1 s)))) this
      unfold B64
      omega
    · have e : frAll (pointL p.2.length (colL p.2.length p.1 s) p.2) ((det p.2.length (mAt (colL p.2.length p.1 s))).natAbs : Nat) = poRes p (s : Nat) := by
        unfold poRes
        rw [if_pos he, Int.toNat_natCast, if_neg hD]
        refine frAll_tol ?_
        unfold pointL
        rw [List.map_map]
        refine List.map_congr_left fun x _ => ?_
        simp only [Function.comp]
        exact frac_scale hD
      rw [e] at f ⊢
      exact hQ _ _ ((h.add f).ret (i := 0) rfl)

theorem fn7 {H0 : Heap} {Q : Post} {cs : List Value} {p : Prob} {s : Int} (hr : Has RProblem H0 cs p) (hQ : ∀ H' u, Fresh RFS H0 [u] (poRes p s).1 H' → Q (.tuple #[u, .int .i64 (poRes p s).2]) H') : Runs Tryz.prog 7 #[.agg cs.toArray, .int .i64 s] H0 Q := by
  obtain ⟨u1, u2, rfl, r1, r2⟩ := hasProb hr
  have hz : ∀ H c, H0.Le H → poRes p s = ([], c) → Q (.tuple #[.slice none 0 0, .int .i64 c]) H := fun H c l e => by
    have := hQ H (.slice none 0 0) (by rw [e]; exact fresh_nil l)
    rw [e] at this
    exact this
  refine f7.enter ?_
  unfold f7.w
  have h := ((Loc.start H0).lent r2).lent hr
  refine Wl.box h fun H b h => Wl.getA h rfl (Wi.call (fn38 (h.rd (cs := [u1, u2])) fun H l => ?_))
  have h := h.to l
  refine Wi.neqC (fun hne => Wi.tru (hz _ _ h.le (by unfold poRes; rw [if_neg hne]))) fun he => Wi.fls ?_
  obtain ⟨s, rfl, hs0, hs1, hpb⟩ := setC_nat he
  have hn := hpb.n5
  refine Wl.getA h rfl (Wi.call (fn39 (h.rd (cs := [u1, u2])) hpb (by omega) (fun hD H l => ?_) fun hD H u f => ?_))
  · simp only [gw]
    exact hz _ _ (h.to l).le (by unfold poRes; rw [if_pos he, Int.toNat_natCast, if_pos hD])
  · simp only [gw]
    have h := h.add f
    have hpo : poRes p (s : Nat) = tolF (pointF p.2.length (colL p.2.length p.1 s) p.2) := by
      unfold poRes pointF
      rw [if_pos he, Int.toNat_natCast, if_neg hD]
    have hlen : (pointF p.2.length (colL p.2.length p.1 s) p.2).length = p.2.length := by simp [pointF, solveL]
    generalize hF : pointF p.2.length (colL p.2.length p.1 s) p.2 = F at *
    have hlF : F.length ≤ 5 := by omega
    refine W.for_rule F.length (fun i st H => st = (.int .i64 (i : Nat), ()) ∧ Ab.Loc H0 [.data RFS [u] F, .box b [u1, u2], .lent RProblem [u1, u2] p, .lent RS [u2] p.2] H ∧ ∀ j (hj : j < F.length), j < i → isFr 1000000000 F[j] = true) ⟨rfl, h, fun j _ hj => by omega⟩ ?_
    rintro i st H J hi ⟨rfl, h, hok⟩ hJ
    refine Wl.len h (Wi.lssC (fun hlt => Wi.tru ?_) fun hge => Wi.fls ?_)
    · have hil : i < F.length := by omega
      refine Wl.atFr h hil fun _ _ => Wi.call (fn40 fun H l => ?_)
      have h := h.to l
      cases hf : isFr 1000000000 F[i] with
      | false =>
        simp only [gw]
        refine hz _ _ h.le (hpo.trans ?_)
        unfold tolF
        rw [if_neg (fun g => by have := List.all_eq_true.1 g _ (List.getElem_mem hil); rw [hf] at this; cases this)]
      | true =>
        simp only [gw]
        refine Wi.add (by unfold I64; omega) (hJ _ _ hil ⟨rfl, h, fun j hj hji => ?_⟩)
        by_cases e : j = i
        · subst e; exact hf
        · exact hok j hj (by omega)
    · have ea : F.all (isFr 1000000000) = true := List.all_eq_true.2 fun x hx => by
        obtain ⟨j, hj, rfl⟩ := List.getElem_of_mem hx
        exact hok j hj (by omega)
      have et : tolF F = (F, 0) := by unfold tolF; rw [if_pos ea]
      have := hQ H u (by rw [hpo, et]; exact h.ret (i := 0) rfl)
      rw [hpo, et] at this
      exact this

theorem fn8 {H0 : Heap} {Q : Post} {cs : List Value} {p : Prob} {s : Int} (hr : Has RProblem H0 cs p) (hQ : ∀ H', H0.Le H' → Q (.tuple #[.int .i64 (deRes p s).1, .int .i64 (deRes p s).2]) H') : Runs Tryz.prog 8 #[.agg cs.toArray, .int .i64 s] H0 Q := by
  obtain ⟨u1, u2, rfl, r1, r2⟩ := hasProb hr
  have hz : ∀ H a c, H0.Le H → deRes p s = (a, c) → Q (.tuple #[.int .i64 a, .int .i64 c]) H := fun H a c l e => by
    have := hQ H l
    rw [e] at this
    exact this
  refine f8.enter ?_
  unfold f8.w
  have h := ((Loc.start H0).lent r2).lent hr
  refine Wl.box h fun H b h => Wl.getA h rfl (Wi.call (fn35 (h.rd (cs := [u1, u2])) fun H l => ?_))
  have h := h.to l
  refine Wi.neqC (fun hne => Wi.tru (hz _ _ _ h.le (by unfold deRes; rw [if_neg hne]))) fun he => Wi.fls ?_
  obtain ⟨s, rfl, hs0, hs1, hpb⟩ := setC_nat he
  have hn := hpb.n5
  have hcr := colL_rows (m := p.1) s hn fun r c _ _ => hpb.m r c
  refine Wl.getA h rfl (Wi.call (fn42 (h.rd (cs := [u1, u2])) hpb (by omega) fun H v f => ?_))
  have h := h.add f
  refine Wi.call (fn41 (h.rd (cs := [v])) (colL_sq p.2.length p.1 s) hn hcr fun H l => ?_)
  exact hz _ _ _ (h.to l).le (by unfold deRes; rw [if_pos he, Int.toNat_natCast])

theorem fn9 {H0 : Heap} {Q : Post} {cs : List Value} {p : Prob} {s : Int} (hr : Has RProblem H0 cs p) (hQ : ∀ H', H0.Le H' → Q (.tuple #[.int .i64 (deRes p s).1, .int .i64 (deRes p s).2]) H') : Runs Tryz.prog 9 #[.agg cs.toArray, .int .i64 s] H0 Q := by
  obtain ⟨u1, u2, rfl, r1, r2⟩ := hasProb hr
  have hz : ∀ H a c, H0.Le H → deRes p s = (a, c) → Q (.tuple #[.int .i64 a, .int .i64 c]) H := fun H a c l e => by
    have := hQ H l
    rw [e] at this
    exact this
  refine f9.enter ?_
  unfold f9.w
  have h := (((Loc.start H0).lent r2).lent r1).lent hr
  refine Wl.box h fun H b h => Wl.getA h rfl (Wi.call (fn38 (h.rd (cs := [u1, u2])) fun H l => ?_))
  have h := h.to l
  refine Wi.neqC (fun hne => Wi.tru (hz _ _ _ h.le (by unfold deRes; rw [if_neg hne]))) fun he => Wi.fls ?_
  obtain ⟨s, rfl, hs0, hs1, hpb⟩ := setC_nat he
  have hn := hpb.n5
  have hcr := colL_rows (m := p.1) s hn fun r c _ _ => hpb.m r c
  refine Wi.fieldAddr0 (Wl.get h rfl (Wi.call (fn44 (h.rd (cs := [u1])) hpb.sq hn hpb.m (by omega) fun H v g => ?_)))
  have h := (h.addG g).asData (i := 0) rfl
  refine Wi.call (fn43 (h.rd (cs := [v])) (colL_sq p.2.length p.1 s) hn hcr fun H l => ?_)
  exact hz _ _ _ (h.to l).le (by unfold deRes; rw [if_pos he, Int.toNat_natCast])

theorem Fresh.ofG {α : Type} {r : Rd α} {ty : TypeId} {H H' : Heap} {cs : List Value} {xs : List (List α)} (f : Fresh (Rd.slice (Rd.gslice r ty)) H cs xs H') : Fresh (Rd.slice (Rd.slice r)) H cs xs H' := by
  obtain ⟨bs, h, h2⟩ := f.has
  refine ⟨f.le, bs, ?_, h2⟩
  rcases h with h | ⟨b, o, e, kb, fs, h1, h3, s⟩
  · exact .inl h
  · exact .inr ⟨b, o, e, kb, fs, h1, h3, SlAt.imp (r := Rd.gslice r ty) (s := Rd.slice r) rfl (fun h => gslice_slice h) s⟩

theorem fn29 {H0 : Heap} {Q : Post} {cs : List Value} {p : Prob} {s : Int} (hr : Has RProblem H0 cs p) (hQ : ∀ H' u, Fresh RSS H0 [u] (coRes p s).1 H' → Q (.tuple #[u, .int .i64 (coRes p s).2]) H') : Runs Tryz.prog 29 #[.agg cs.toArray, .int .i64 s] H0 Q := by
  obtain ⟨u1, u2, rfl, r1, r2⟩ := hasProb hr
  have hz : ∀ H u l c, Fresh RSS H0 [u] l H → coRes p s = (l, c) → Q (.tuple #[u, .int .i64 c]) H := fun H u l c g e => by
    have := hQ H u (by rw [e]; exact g)
    rw [e] at this
    exact this
  refine f29.enter ?_
  unfold f29.w
  have h := ((Loc.start H0).lent r2).lent hr
  refine Wl.box h fun H b h => Wl.getA h rfl (Wi.call (fn35 (h.rd (cs := [u1, u2])) fun H l => ?_))
  have h := h.to l
  refine Wi.neqC (fun hne => Wi.tru (hz _ _ _ _ (fresh_nil h.le) (by unfold coRes; rw [if_neg hne]))) fun he => Wi.fls ?_
  obtain ⟨s, rfl, hs0, hs1, hpb⟩ := setC_nat he
  refine Wl.getA h rfl (Wi.call (fn42 (h.rd (cs := [u1, u2])) hpb (by omega) fun H v f => ?_))
  have h := h.add f
  exact hz _ _ _ _ (h.ret (i := 0) rfl) (by unfold coRes; rw [if_pos he, Int.toNat_natCast])

theorem fn30 {H0 : Heap} {Q : Post} {cs : List Value} {p : Prob} {s : Int} (hr : Has RProblem H0 cs p) (hQ : ∀ H' u, Fresh RSS H0 [u] (coRes p s).1 H' → Q (.tuple #[u, .int .i64 (coRes p s).2]) H') : Runs Tryz.prog 30 #[.agg cs.toArray, .int .i64 s] H0 Q := by
  obtain ⟨u1, u2, rfl, r1, r2⟩ := hasProb hr
  have hz : ∀ H u l c, Fresh RSS H0 [u] l H → coRes p s = (l, c) → Q (.tuple #[u, .int .i64 c]) H := fun H u l c g e => by
    have := hQ H u (by rw [e]; exact g)
    rw [e] at this
    exact this
  refine f30.enter ?_
  unfold f30.w
  have h := (((Loc.start H0).lent r2).lent r1).lent hr
  refine Wl.box h fun H b h => Wl.getA h rfl (Wi.call (fn38 (h.rd (cs := [u1, u2])) fun H l => ?_))
  have h := h.to l
  refine Wi.neqC (fun hne => Wi.tru (hz _ _ _ _ (fresh_nil h.le) (by unfold coRes; rw [if_neg hne]))) fun he => Wi.fls ?_
  obtain ⟨s, rfl, hs0, hs1, hpb⟩ := setC_nat he
  have hn := hpb.n5
  refine Wi.fieldAddr0 (Wl.get h rfl (Wi.call (fn44 (h.rd (cs := [u1])) hpb.sq hn hpb.m (by omega) fun H v g => ?_)))
  have h := (h.addG g).asData (i := 0) rfl
  exact hz _ _ _ _ (Fresh.ofG (h.ret (i := 0) rfl)) (by unfold coRes; rw [if_pos he, Int.toNat_natCast])

theorem fn12 {H : Heap} {Q : Post} {bs : List Nat} {cs : List Value} {p : Prob} (hr : RProblem.rel H bs cs p) (h : ∀ H', H.Le H' → Q (.bool (isProb p)) H') : Runs Tryz.prog 12 #[.agg cs.toArray] H Q := by
  obtain ⟨u1, u2, rfl, r1, r2⟩ := hasProb ⟨_, hr⟩
  refine f12.enter ?_
  unfold f12.w
  have g := (Loc.start H).lent ⟨bs, hr⟩
  refine Wl.box g fun H b g => Wl.getA g rfl ?_
  obtain ⟨_, q⟩ := g.rd (cs := [u1, u2])
  exact Wi.call (fn47 q fun H l => h _ (g.to l).le)

end Go.Proofs.YtgdiebnokgnniaaGreatDoor
