/- Fractions with a common denominator, as plain values. No condition. -/
import Derived.Test.YtbcfknboheghkaaGreatGAA
import Derived.Test.YtbcfknboheghkaaGreatZabG5
import Derived.Test.YtbcfknboheghkaaGreatGBB
namespace Go.Proofs.YtbcfknboheghkaaGreat
open Go.Ab

/-- One more denominator. -/
def comStep (d e : Int) : Int := d.tdiv (Int.gcd d e) * e
def comTo (xs : List Frac) : Nat → Int
  | 0 => 1
  | i + 1 => comStep (comTo xs i) (xs.getD i (0, 1)).2

def comNum (d : Int) (a : Frac) : Int := a.1 * d.tdiv a.2

def okDen (m : Int) (xs : List Frac) : Prop := ∀ i, i < xs.length → comTo xs (i + 1) ≤ m
def okNum (m : Int) (d : Int) (xs : List Frac) : Prop := ∀ a ∈ xs, -m ≤ comNum d a ∧ comNum d a ≤ m

/-- The numerators by the least common denominator, and this, if all are within the limits. -/
noncomputable def tog (m n : Int) (xs : List Frac) : Option (List Int × Int) := open Classical in
  if okDen m xs ∧ okNum n (comTo xs xs.length) xs then some (xs.map (comNum (comTo xs xs.length)), comTo xs xs.length) else none

def Frs (xs : List Frac) : Prop := ∀ a ∈ xs, isFr 1000000000 a = true

theorem fr_at {xs : List Frac} {i : Nat} (hi : i < xs.length) (d : Frac) : xs.getD i d = xs[i] := by simp [List.getD_eq_getElem?_getD, List.getElem?_eq_getElem hi]

theorem comStep_pos {d e : Int} (hd : 1 ≤ d) (he : 1 ≤ e) : 1 ≤ comStep d e ∧ d ≤ comStep d e := by
  unfold comStep
  obtain ⟨k, hk⟩ := Int.gcd_dvd_left d e
  obtain ⟨j, hj⟩ := Int.gcd_dvd_right d e
  have hg : 0 < Int.gcd d e := Int.gcd_pos_of_ne_zero_left e (by omega)
  have hgi : (0 : Int) < Int.gcd d e := by omega
  have e1 : d.tdiv (Int.gcd d e) = k := by
    rw [Int.tdiv_eq_ediv_of_dvd (Int.gcd_dvd_left d e)]
    conv => lhs; lhs; rw [hk]
    rw [Int.mul_ediv_cancel_left _ (by omega)]
  rw [e1]
  have hk0 : 0 < k := by
    rcases Int.lt_or_le 0 k with h | h
    · exact h
    · have := Int.mul_nonpos_of_nonneg_of_nonpos (Int.le_of_lt hgi) h
      omega
  have hj0 : 0 < j := by
    rcases Int.lt_or_le 0 j with h | h
    · exact h
    · have := Int.mul_nonpos_of_nonneg_of_nonpos (Int.le_of_lt hgi) h
      omega
  have hge : (Int.gcd d e : Int) ≤ e := by
    have := Int.mul_le_mul_of_nonneg_left (show (1 : Int) ≤ j by omega) (Int.le_of_lt hgi)
    rw [← hj, Int.mul_one] at this
    exact this
  have h1 : k * (Int.gcd d e : Int) ≤ k * e := Int.mul_le_mul_of_nonneg_left hge (by omega)
  rw [Int.mul_comm, ← hk] at h1
  omega

theorem comStep_le {d e M : Int} (hd : 1 ≤ d) (he : 1 ≤ e) (hM : d ≤ M) : comStep d e ≤ M * e := by
  unfold comStep
  have hg : 0 < Int.gcd d e := Int.gcd_pos_of_ne_zero_left e (by omega)
  have : d.tdiv (Int.gcd d e) ≤ d := by
    rw [Int.tdiv_eq_ediv_of_nonneg (by omega)]
    exact Int.ediv_le_self _ (by omega)
  exact Int.mul_le_mul_of_nonneg_right (by omega) (by omega)

theorem fr_den {xs : List Frac} (h : Frs xs) {i : Nat} (hi : i < xs.length) : 1 ≤ xs[i].2 ∧ xs[i].2 ≤ 1000000000 ∧ -1000000000 ≤ xs[i].1 ∧ xs[i].1 ≤ 1000000000 := by
  have := isFr_iff.1 (h _ (List.getElem_mem hi))
  omega

theorem comTo_pos {xs : List Frac} (h : Frs xs) : ∀ {i : Nat}, i ≤ xs.length → 1 ≤ comTo xs i
  | 0, _ => by simp [comTo]
  | i + 1, hi => by
    have h1 := comTo_pos h (i := i) (by omega)
    simp only [comTo]
    rw [fr_at (by omega)]
    exact (comStep_pos h1 (fr_den h (by omega)).1).1

end Go.Proofs.YtbcfknboheghkaaGreat
/-! Contracts of areFracs, together and l01Common. No condition. -/
namespace Go.Proofs.YtbcfknboheghkaaGreat
open Go.Ab

/- slices.ContainsFunc[[]loop.example/g01343/impl.Frac,loop.example/g01343/impl.Frac] -/
def f143.w (Q : Post) (s_0 : Value) (f_1 : Value) (H : Heap) : Prop :=
  W.call Tryz.prog (.func (.func 160) #[] #[]) #[s_0, f_1] H fun v1 H =>
  W.bin .geq v1 (.int .i64 0) H fun v2 H =>
  Q v2 H
theorem f143.enter {Q : Post} {s_0 : Value} {f_1 : Value} {H : Heap} (h : f143.w Q s_0 f_1 H) : Runs Tryz.prog 143 #[s_0, f_1] H Q :=
  fn_enter (ann := []) (by kernel_rfl) Tryz.func143 rfl (by kernel_rfl) h (by kernel_rfl)

/- slices.IndexFunc[[]loop.example/g01343/impl.Frac,loop.example/g01343/impl.Frac] -/
def f160.l1 (Q : Post) (v1 : Value) (s_0 : Value) (f_1 : Value) (I1 : St [8] → Heap → Prop) (x_8 : Value) (H : Heap) : Prop :=
  W.bin .lss x_8 v1 H fun v2 H =>
  W.cond v2 H
  (fun H => W.indexAddr 2 s_0 x_8 H fun v3 H =>
   W.getN 2 v3 H fun v4 H =>
   W.call Tryz.prog f_1 #[v4] H fun v5 H =>
   W.cond v5 H
   (fun H => Q x_8 H)
   (fun H => W.bin .add x_8 (.int .i64 1) H fun v6 H =>
    I1 (v6, ()) H))
  (fun H => Q (.int .i64 (-1)) H)
def f160.w (Q : Post) (s_0 : Value) (f_1 : Value) (H : Heap) : Prop :=
  W.len s_0 H fun v1 H =>
  W.loop (S := St [8]) (fun I1 s H => f160.l1 Q v1 s_0 f_1 I1 s.1 H) ((.int .i64 0), ()) H
theorem f160.enter {Q : Post} {s_0 : Value} {f_1 : Value} {H : Heap} (h : f160.w Q s_0 f_1 H) : Runs Tryz.prog 160 #[s_0, f_1] H Q :=
  fn_enter (ann := [(2, [8])]) (by kernel_rfl) Tryz.func160 rfl (by kernel_rfl) h (by kernel_rfl)

/- loop.example/g01343/impl.areFracs -/
def f116.w (Q : Post) (list_0 : Value) (H : Heap) : Prop :=
  W.call Tryz.prog (.func (.func 143) #[] #[]) #[list_0, (.func (.func 144) #[] #[])] H fun v1 H =>
  W.un .not v1 H fun v2 H =>
  Q v2 H
theorem f116.enter {Q : Post} {list_0 : Value} {H : Heap} (h : f116.w Q list_0 H) : Runs Tryz.prog 116 #[list_0] H Q :=
  fn_enter (ann := []) (by kernel_rfl) Tryz.func116 rfl (by kernel_rfl) h (by kernel_rfl)

/- loop.example/g01343/impl.areFracs$1 -/
def f144.w (Q : Post) (a_0 : Value) (H : Heap) : Prop :=
  W.box a_0 39 H fun v1 H =>
  W.getN 2 v1 H fun v2 H =>
  W.call Tryz.prog (.func (.func 134) #[] #[]) #[v2] H fun v3 H =>
  W.un .not v3 H fun v4 H =>
  Q v4 H
theorem f144.enter {Q : Post} {a_0 : Value} {H : Heap} (h : f144.w Q a_0 H) : Runs Tryz.prog 144 #[a_0] H Q :=
  fn_enter (ann := []) (by kernel_rfl) Tryz.func144 rfl (by kernel_rfl) h (by kernel_rfl)

/- loop.example/g01343/impl.together -/
def f75.l2 (Q : Post) (v15 : Value) (list_0 : Value) (den_9 : Value) (parts_2 : Value) (I2 : St [12, 37] → Heap → Prop) (out_12 : Value) (x_37 : Value) (H : Heap) : Prop :=
  W.bin .lss x_37 v15 H fun v16 H =>
  W.cond v16 H
  (fun H => W.indexAddr 2 list_0 x_37 H fun v17 H =>
   W.getN 2 v17 H fun v18 H =>
   W.new [(.int .i64 0), (.int .i64 0)] 39 H fun v19 H =>
   W.putN 2 v19 v18 H fun _ H =>
   W.fieldAddr 0 v19 H fun v20 H =>
   W.get v20 H fun v21 H =>
   W.fieldAddr 1 v19 H fun v22 H =>
   W.get v22 H fun v23 H =>
   W.bin .quo den_9 v23 H fun v24 H =>
   W.bin .mul v21 v24 H fun v25 H =>
   W.call Tryz.prog (.func (.func 124) #[] #[]) #[v25, parts_2] H fun v26 H =>
   W.un .not v26 H fun v27 H =>
   W.cond v27 H
   (fun H => Q (.tuple #[(.slice none 0 0), (.int .i64 0), (.bool false)]) H)
   (fun H => W.lit 1 [(.int .i64 0)] 2 [(0, 1, v25)] H fun v28 H =>
    W.append 1 2 out_12 v28 H fun v29 H =>
    W.bin .add x_37 (.int .i64 1) H fun v30 H =>
    I2 (v29, v30, ()) H))
  (fun H => Q (.tuple #[out_12, den_9, (.bool true)]) H)
def f75.l1 (Q : Post) (v1 : Value) (list_0 : Value) (most_1 : Value) (parts_2 : Value) (I1 : St [9, 18] → Heap → Prop) (den_9 : Value) (x_18 : Value) (H : Heap) : Prop :=
  W.bin .lss x_18 v1 H fun v2 H =>
  W.cond v2 H
  (fun H => W.indexAddr 2 list_0 x_18 H fun v3 H =>
   W.getN 2 v3 H fun v4 H =>
   W.new [(.int .i64 0), (.int .i64 0)] 39 H fun v5 H =>
   W.putN 2 v5 v4 H fun _ H =>
   W.fieldAddr 1 v5 H fun v6 H =>
   W.get v6 H fun v7 H =>
   W.callQ Tryz.prog (.func (.func 123) #[] #[]) #[den_9, v7] H fun v8 H =>
   W.bin .quo den_9 v8 H fun v9 H =>
   W.fieldAddr 1 v5 H fun v10 H =>
   W.get v10 H fun v11 H =>
   W.bin .mul v9 v11 H fun v12 H =>
   W.bin .gtr v12 most_1 H fun v13 H =>
   W.cond v13 H
   (fun H => Q (.tuple #[(.slice none 0 0), (.int .i64 0), (.bool false)]) H)
   (fun H => W.bin .add x_18 (.int .i64 1) H fun v14 H =>
    I1 (v12, v14, ()) H))
  (fun H => W.len list_0 H fun v15 H =>
   W.loop (S := St [12, 37]) (fun I2 s H => f75.l2 Q v15 list_0 den_9 parts_2 I2 s.1 s.2.1 H) ((.slice none 0 0), (.int .i64 0), ()) H)
def f75.w (Q : Post) (list_0 : Value) (most_1 : Value) (parts_2 : Value) (H : Heap) : Prop :=
  W.len list_0 H fun v1 H =>
  W.loop (S := St [9, 18]) (fun I1 s H => f75.l1 Q v1 list_0 most_1 parts_2 I1 s.1 s.2.1 H) ((.int .i64 1), (.int .i64 0), ()) H
theorem f75.enter {Q : Post} {list_0 : Value} {most_1 : Value} {parts_2 : Value} {H : Heap} (h : f75.w Q list_0 most_1 parts_2 H) : Runs Tryz.prog 75 #[list_0, most_1, parts_2] H Q :=
  fn_enter (ann := [(3, [9, 18]), (11, [12, 37])]) (by kernel_rfl) Tryz.func75 rfl (by kernel_rfl) h (by kernel_rfl)

/- loop.example/g01343/spec.IsFrac -/
def f138.w (Q : Post) (a_0 : Value) (H : Heap) : Prop :=
  W.box a_0 39 H fun v1 H =>
  W.getN 2 v1 H fun v2 H =>
  W.call Tryz.prog (.func (.func 135) #[] #[]) #[v2, (.int .i64 1000000000)] H fun v3 H =>
  Q v3 H
theorem f138.enter {Q : Post} {a_0 : Value} {H : Heap} (h : f138.w Q a_0 H) : Runs Tryz.prog 138 #[a_0] H Q :=
  fn_enter (ann := []) (by kernel_rfl) Tryz.func138 rfl (by kernel_rfl) h (by kernel_rfl)

/- loop.example/g01343/spec.l01Common -/
def f139.l2 (Q : Post) (z_0 : Value) (den_5 : Value) (I2 : St [7, 8] → Heap → Prop) (out_7 : Value) (i_8 : Value) (H : Heap) : Prop :=
  W.len z_0 H fun v15 H =>
  W.bin .lss i_8 v15 H fun v16 H =>
  W.cond v16 H
  (fun H => W.indexAddr 2 z_0 i_8 H fun v17 H =>
   W.fieldAddr 0 v17 H fun v18 H =>
   W.get v18 H fun v19 H =>
   W.indexAddr 2 z_0 i_8 H fun v20 H =>
   W.fieldAddr 1 v20 H fun v21 H =>
   W.get v21 H fun v22 H =>
   W.bin .quo den_5 v22 H fun v23 H =>
   W.bin .mul v19 v23 H fun v24 H =>
   W.call Tryz.prog (.func (.func 59) #[] #[]) #[v24, (.int .i64 (-1000000000000)), (.int .i64 1000000000000)] H fun v25 H =>
   W.un .not v25 H fun v26 H =>
   W.cond v26 H
   (fun H => Q (.tuple #[(.slice none 0 0), (.int .i64 0), (.bool false)]) H)
   (fun H => W.lit 1 [(.int .i64 0)] 2 [(0, 1, v24)] H fun v27 H =>
    W.append 1 2 out_7 v27 H fun v28 H =>
    W.bin .add i_8 (.int .i64 1) H fun v29 H =>
    I2 (v28, v29, ()) H))
  (fun H => Q (.tuple #[out_7, den_5, (.bool true)]) H)
def f139.l1 (Q : Post) (z_0 : Value) (I1 : St [5, 6] → Heap → Prop) (den_5 : Value) (i_6 : Value) (H : Heap) : Prop :=
  W.len z_0 H fun v1 H =>
  W.bin .lss i_6 v1 H fun v2 H =>
  W.cond v2 H
  (fun H => W.indexAddr 2 z_0 i_6 H fun v3 H =>
   W.fieldAddr 1 v3 H fun v4 H =>
   W.get v4 H fun v5 H =>
   W.callQ Tryz.prog (.func (.func 136) #[] #[]) #[den_5, v5] H fun v6 H =>
   W.bin .quo den_5 v6 H fun v7 H =>
   W.indexAddr 2 z_0 i_6 H fun v8 H =>
   W.fieldAddr 1 v8 H fun v9 H =>
   W.get v9 H fun v10 H =>
   W.bin .mul v7 v10 H fun v11 H =>
   W.bin .gtr v11 (.int .i64 1000000000) H fun v12 H =>
   W.cond v12 H
   (fun H => Q (.tuple #[(.slice none 0 0), (.int .i64 0), (.bool false)]) H)
   (fun H => W.bin .add i_6 (.int .i64 1) H fun v13 H =>
    I1 (v11, v13, ()) H))
  (fun H => W.lit 0 [(.int .i64 0)] 2 [] H fun v14 H =>
   W.loop (S := St [7, 8]) (fun I2 s H => f139.l2 Q z_0 den_5 I2 s.1 s.2.1 H) (v14, (.int .i64 0), ()) H)
def f139.w (Q : Post) (z_0 : Value) (H : Heap) : Prop :=
  W.loop (S := St [5, 6]) (fun I1 s H => f139.l1 Q z_0 I1 s.1 s.2.1 H) ((.int .i64 1), (.int .i64 0), ()) H
theorem f139.enter {Q : Post} {z_0 : Value} {H : Heap} (h : f139.w Q z_0 H) : Runs Tryz.prog 139 #[z_0] H Q :=
  fn_enter (ann := [(3, [5, 6]), (10, [7, 8])]) (by kernel_rfl) Tryz.func139 rfl (by kernel_rfl) h (by kernel_rfl)


theorem fn116 {H0 : Heap} {Q : Post} {v : Value} {xs : List Frac} (hr : Has RFS H0 [v] xs) (hQ : ∀ H' t, H0.Le H' → (t = true ↔ Frs xs) → Q (.bool t) H') : Runs Tryz.prog 116 #[v] H0 Q := by
  have hs := hr.small
  refine f116.enter (Wi.call (f143.enter (Wi.call (f160.enter ?_))))
  refine Wl.lenH hr (W.all_rule xs.length (fun i => isFr 1000000000 (xs.getD i (0, 0))) (fun i H1 J hi _ l hJ => ?_) fun H1 J hall l => ?_)
  · refine Wi.lssC (fun _ => Wi.tru ?_) fun h => by omega
    have e1 := fr_at hi (0, 0)
    refine Wl.atFrH (hr.le l) hi fun _ _ => Wi.callV (f144.enter (Wl.box (Loc.start _) fun H2 b h => Wl.getA h rfl (Wi.call (fn134 fun H3 l3 => Wi.not ?_))))
    cases hf : isFr 1000000000 xs[i] with
    | false =>
      refine Wi.tru (Wi.geq ?_)
      rw [show decide ((0 : Int) ≤ (i : Nat)) = true by simp]
      refine Wi.not (hQ _ _ ((l.trans h.le).trans l3) ⟨fun e => Bool.noConfusion e, fun g => ?_⟩)
      rw [g _ (List.getElem_mem hi)] at hf
      cases hf
    | true => exact Wi.fls (Wi.add (by unfold I64; omega) (hJ (by rw [e1]; exact hf) H3 (h.le.trans l3)))
  · refine Wi.lssC (fun h => by omega) fun _ => Wi.fls (Wi.geq ?_)
    rw [show decide ((0 : Int) ≤ -1) = false by decide]
    refine Wi.not (hQ _ _ l ⟨fun _ a ha => ?_, fun _ => rfl⟩)
    obtain ⟨i, hi, rfl⟩ := List.mem_iff_getElem.1 ha
    have := hall i hi
    rw [fr_at hi] at this
    exact this

theorem fn138 {H0 : Heap} {Q : Post} {a : Frac} (hQ : ∀ H', H0.Le H' → Q (.bool (isFr 1000000000 a)) H') : Runs Tryz.prog 138 #[.agg (frC a).toArray] H0 Q := by
  refine f138.enter ?_
  unfold f138.w
  exact Wl.box (Loc.start H0) fun H b h => Wl.getA h rfl (Wi.call (fn135 fun H2 l2 => hQ _ (h.le.trans l2)))

theorem tog_none1 {m n : Int} {xs : List Frac} {i : Nat} (hi : i < xs.length) (h : m < comTo xs (i + 1)) : tog m n xs = none := by
  unfold tog
  rw [if_neg]
  rintro ⟨g, _⟩
  have := g i hi
  omega

theorem tog_none2 {m n : Int} {xs : List Frac} {i : Nat} (hi : i < xs.length) (h : inR (-n) n (comNum (comTo xs xs.length) xs[i]) = false) : tog m n xs = none := by
  unfold tog
  rw [if_neg]
  rintro ⟨_, g⟩
  rw [inR_iff.2 (g _ (List.getElem_mem hi))] at h
  cases h

theorem tog_some {m n : Int} {xs : List Frac} (h1 : okDen m xs) (h2 : ∀ i (hi : i < xs.length), inR (-n) n (comNum (comTo xs xs.length) xs[i]) = true) : tog m n xs = some (xs.map (comNum (comTo xs xs.length)), comTo xs xs.length) := by
  unfold tog
  rw [if_pos]
  refine ⟨h1, fun a ha => ?_⟩
  obtain ⟨i, hi, rfl⟩ := List.mem_iff_getElem.1 ha
  exact inR_iff.1 (h2 i hi)

theorem comNum_i64 {d : Int} {a : Frac} (hd : 1 ≤ d ∧ d ≤ 1000000000) (h2 : 1 ≤ a.2) (h1 : -1000000000 ≤ a.1 ∧ a.1 ≤ 1000000000) : I64 (d.tdiv a.2) ∧ I64 (a.1 * d.tdiv a.2) := by
  have e1 : (d.tdiv a.2).natAbs ≤ 1000000000 := by
    have := Int.natAbs_tdiv_le_natAbs d a.2
    omega
  have e2 : (a.1 * d.tdiv a.2).natAbs ≤ 1000000000 * 1000000000 := by
    rw [Int.natAbs_mul]
    exact Nat.mul_le_mul (by omega) e1
  exact ⟨by unfold I64; omega, by unfold I64; omega⟩

theorem comTo_step {xs : List Frac} {i : Nat} (hi : i < xs.length) : comTo xs (i + 1) = (comTo xs i).tdiv (Int.gcd (comTo xs i) xs[i].2) * xs[i].2 := by
  simp only [comTo]
  rw [fr_at hi]
  rfl

/-- What one round of the denominators needs. -/
theorem comTo_fit {xs : List Frac} (hf : Frs xs) {i : Nat} (hi : i < xs.length) {m : Int} (hm : m ≤ 1000000000) (hd : comTo xs i ≤ m) :
    B64 (comTo xs i) ∧ B64 xs[i].2 ∧ (Int.gcd (comTo xs i) xs[i].2 : Int) ≠ 0 ∧ I64 ((comTo xs i).tdiv (Int.gcd (comTo xs i) xs[i].2)) ∧ I64 ((comTo xs i).tdiv (Int.gcd (comTo xs i) xs[i].2) * xs[i].2) := by
  have h1 := comTo_pos hf (i := i) (by omega)
  obtain ⟨h2, h3, _, _⟩ := fr_den hf hi
  have hB : B64 (comTo xs i) := by unfold B64; omega
  have hg : 0 < Int.gcd (comTo xs i) xs[i].2 := Int.gcd_pos_of_ne_zero_left _ (by omega)
  have h4 := comStep_le h1 h2 (Int.le_refl _)
  have h5 := (comStep_pos h1 h2).1
  unfold comStep at h4 h5
  have h6 : comTo xs i * xs[i].2 ≤ 1000000000 * 1000000000 := Int.mul_le_mul (by omega) h3 (by omega) (by omega)
  refine ⟨hB, by unfold B64; omega, by omega, (tdiv_B hB).i64, ?_⟩
  unfold I64
  omega

theorem fn75 {H0 : Heap} {Q : Post} {v : Value} {xs : List Frac} {m n : Int} (hr : Has RFS H0 [v] xs) (hf : Frs xs) (hl : xs.length ≤ 1048576) (hm : 1 ≤ m ∧ m ≤ 1000000000) (hn : 0 ≤ n ∧ n ≤ 1000000000000)
    (h1 : tog m n xs = none → ∀ H', H0.Le H' → Q (.tuple #[.slice none 0 0, .int .i64 0, .bool false]) H')
    (h2 : ∀ l d, tog m n xs = some (l, d) → ∀ H' u, FreshG Rd.int 2 H0 u l H' → Q (.tuple #[u, .int .i64 d, .bool true]) H') : Runs Tryz.prog 75 #[v, .int .i64 m, .int .i64 n] H0 Q := by
  refine f75.enter (Wl.lenH hr ?_)
  refine W.for_rule xs.length (fun i s H => s = (.int .i64 (comTo xs i), .int .i64 (i : Nat), ()) ∧ Ab.Loc H0 [.lent RFS [v] xs] H ∧ comTo xs i ≤ m ∧ ∀ j, j < i → comTo xs (j + 1) ≤ m) ⟨rfl, (Loc.start H0).lent hr, by simp [comTo]; omega, fun j hj => by omega⟩ ?_
  rintro i s H J hi ⟨rfl, h, hd, hall⟩ hJ
  refine Wi.lssC (fun hlt => Wi.tru ?_) fun hge => Wi.fls ?_
  · have hix : i < xs.length := by omega
    obtain ⟨f1, f2, f3, f4, f5⟩ := comTo_fit hf hix hm.2 hd
    refine Wl.atFr h hix fun _ _ => Wl.new h fun H b h => Wl.putA (vs := frC xs[i]) h rfl rfl rfl fun H h => Wi.fieldAddr0 (Wl.get h rfl (Wi.callQ (fn123 f1 f2 ⟨.refl _, Wi.quo f3 f4 (Wi.fieldAddr0 (Wl.get h rfl (Wi.mul f5 ?_)))⟩)))
    rw [← comTo_step hix]
    refine Wi.gtrC (fun hgt => Wi.tru (h1 (tog_none1 hix hgt) _ h.le)) fun hle => Wi.fls (Wi.add (by unfold I64; omega) (hJ _ _ hix ⟨rfl, h.tl, by omega, fun j hj => ?_⟩))
    by_cases e : j = i
    · subst e; omega
    · exact hall j (by omega)
  have : i = xs.length := by omega
  subst this
  have hp := comTo_pos hf (Nat.le_refl xs.length)
  refine Wl.len h ?_
  refine W.for_rule xs.length (fun i s H => ∃ u, s = (u, .int .i64 (i : Nat), ()) ∧ Ab.Loc H0 [.grow Rd.int 2 u ((xs.take i).map (comNum (comTo xs xs.length))), .lent RFS [v] xs] H ∧ ∀ j (hj : j < xs.length), j < i → inR (-n) n (comNum (comTo xs xs.length) xs[j]) = true) ⟨_, rfl, h.nilG Rd.int 2, fun j _ hj => by omega⟩ ?_
  rintro i s H J2 hi ⟨u, rfl, h, hok⟩ hJ2
  refine Wi.lssC (fun hlt => Wi.tru ?_) fun hge => Wi.fls ?_
  · have hix : i < xs.length := by omega
    obtain ⟨k1, k2, k3, k4⟩ := fr_den hf hix
    obtain ⟨o1, o2⟩ := comNum_i64 (a := xs[i]) ⟨hp, by omega⟩ k1 ⟨k3, k4⟩
    refine Wl.atFr h hix fun _ _ => Wl.new h fun H b h => Wl.putA (vs := frC xs[i]) h rfl rfl rfl fun H h => Wi.fieldAddr0 (Wl.get h rfl (Wi.fieldAddr0 (Wl.get h rfl (Wi.quo (by omega) o1 (Wi.mul o2 (Wi.call (fn124 (by unfold I64; omega) (Wi.not ?_))))))))
    have h := h.tl
    have en : xs[i].1 * (comTo xs xs.length).tdiv xs[i].2 = comNum (comTo xs xs.length) xs[i] := rfl
    rw [en] at o2 ⊢
    cases hin : inR (-n) n (comNum (comTo xs xs.length) xs[i]) with
    | false => exact Wi.tru (h1 (tog_none2 hix hin) _ h.le)
    | true =>
      refine Wi.fls (Wl.pushP (r := Rd.int) (x := comNum (comTo xs xs.length) xs[i]) rfl rfl rfl (fun _ => ⟨rfl, rfl, o2⟩) h (by simp; omega) fun H u' h => Wi.add (by unfold I64; omega) (hJ2 _ _ hix ⟨u', rfl, ?_, fun j hj hji => ?_⟩))
      · rw [List.take_succ_eq_append_getElem hix, List.map_append]
        exact h
      · by_cases e : j = i
        · subst e; exact hin
        · exact hok j hj (by omega)
  · have : i = xs.length := by omega
    subst this
    rw [List.take_length] at h
    exact h2 _ _ (tog_some hall fun j hj => hok j hj hj) _ _ (h.retGG (i := 0) rfl)

theorem fn139 {H0 : Heap} {Q : Post} {v : Value} {xs : List Frac} (hr : Has RFS H0 [v] xs) (hf : Frs xs) (hl : xs.length ≤ 1048576)
    (h1 : tog 1000000000 1000000000000 xs = none → ∀ H', H0.Le H' → Q (.tuple #[.slice none 0 0, .int .i64 0, .bool false]) H')
    (h2 : ∀ l d, tog 1000000000 1000000000000 xs = some (l, d) → ∀ H' u, FreshG Rd.int 2 H0 u l H' → Q (.tuple #[u, .int .i64 d, .bool true]) H') : Runs Tryz.prog 139 #[v] H0 Q := by
  refine f139.enter ?_
  unfold f139.w
  refine W.for_rule xs.length (fun i s H => s = (.int .i64 (comTo xs i), .int .i64 (i : Nat), ()) ∧ Ab.Loc H0 [.lent RFS [v] xs] H ∧ comTo xs i ≤ 1000000000 ∧ ∀ j, j < i → comTo xs (j + 1) ≤ 1000000000) ⟨rfl, (Loc.start H0).lent hr, by simp [comTo], fun j hj => by omega⟩ ?_
  rintro i s H J hi ⟨rfl, h, hd, hall⟩ hJ
  refine Wl.len h (Wi.lssC (fun hlt => Wi.tru ?_) fun hge => Wi.fls ?_)
  · have hix : i < xs.length := by omega
    obtain ⟨f1, f2, f3, f4, f5⟩ := comTo_fit hf hix (Int.le_refl _) hd
    refine Wl.denFr h hix fun _ => Wi.callQ (fn136 f1 f2 ⟨.refl _, Wi.quo f3 f4 (Wl.denFr h hix fun _ => Wi.mul f5 ?_)⟩)
    rw [← comTo_step hix]
    refine Wi.gtrC (fun hgt => Wi.tru (h1 (tog_none1 hix hgt) _ h.le)) fun hle => Wi.fls (Wi.add (by unfold I64; omega) (hJ _ _ hix ⟨rfl, h, by omega, fun j hj => ?_⟩))
    by_cases e : j = i
    · subst e; omega
    · exact hall j (by omega)
  have : i = xs.length := by omega
  subst this
  have hp := comTo_pos hf (Nat.le_refl xs.length)
  refine Wl.lit0 Rd.int rfl h fun H u h => ?_
  refine W.for_rule xs.length (fun i s H => ∃ u, s = (u, .int .i64 (i : Nat), ()) ∧ Ab.Loc H0 [.grow Rd.int 2 u ((xs.take i).map (comNum (comTo xs xs.length))), .lent RFS [v] xs] H ∧ ∀ j (hj : j < xs.length), j < i → inR (-1000000000000) 1000000000000 (comNum (comTo xs xs.length) xs[j]) = true) ⟨_, rfl, h, fun j _ hj => by omega⟩ ?_
  rintro i s H J2 hi ⟨u, rfl, h, hok⟩ hJ2
  refine Wl.len h (Wi.lssC (fun hlt => Wi.tru ?_) fun hge => Wi.fls ?_)
  · have hix : i < xs.length := by omega
    obtain ⟨k1, k2, k3, k4⟩ := fr_den hf hix
    obtain ⟨o1, o2⟩ := comNum_i64 (a := xs[i]) ⟨hp, by omega⟩ k1 ⟨k3, k4⟩
    refine Wl.numFr h hix fun _ => Wl.denFr h hix fun _ => Wi.quo (by omega) o1 (Wi.mul o2 (Wi.call (fn59 (Wi.not ?_))))
    have en : xs[i].1 * (comTo xs xs.length).tdiv xs[i].2 = comNum (comTo xs xs.length) xs[i] := rfl
    rw [en] at o2 ⊢
    cases hin : inR (-1000000000000) 1000000000000 (comNum (comTo xs xs.length) xs[i]) with
    | false => exact Wi.tru (h1 (tog_none2 hix hin) _ h.le)
    | true =>
      refine Wi.fls (Wl.pushP (r := Rd.int) (x := comNum (comTo xs xs.length) xs[i]) rfl rfl rfl (fun _ => ⟨rfl, rfl, o2⟩) h (by simp; omega) fun H u' h => Wi.add (by unfold I64; omega) (hJ2 _ _ hix ⟨u', rfl, ?_, fun j hj hji => ?_⟩))
      · rw [List.take_succ_eq_append_getElem hix, List.map_append]
        exact h
      · by_cases e : j = i
        · subst e; exact hin
        · exact hok j hj (by omega)
  · have : i = xs.length := by omega
    subst this
    rw [List.take_length] at h
    exact h2 _ _ (tog_some hall fun j hj => hok j hj hj) _ _ (h.retGG (i := 0) rfl)

end Go.Proofs.YtbcfknboheghkaaGreat

/-! The contract of isFeasible. No condition. -/
namespace Go.Proofs.YtbcfknboheghkaaGreat
open Go.Ab

/- loop.example/g01343/impl.isFeasible -/
def f82.w (Q : Post) (point_0 : Value) (H : Heap) : Prop :=
  W.call Tryz.prog (.func (.func 118) #[] #[]) #[point_0, (.func (.func 126) #[] #[])] H fun v1 H =>
  W.un .not v1 H fun v2 H =>
  Q v2 H
theorem f82.enter {Q : Post} {point_0 : Value} {H : Heap} (h : f82.w Q point_0 H) : Runs Tryz.prog 82 #[point_0] H Q :=
  fn_enter (ann := []) (by kernel_rfl) Tryz.func82 rfl (by kernel_rfl) h (by kernel_rfl)

/- loop.example/g01343/impl.isFeasible$1 -/
def f126.w (Q : Post) (n_0 : Value) (H : Heap) : Prop :=
  W.bin .lss n_0 (.int .i64 0) H fun v1 H =>
  Q v1 H
theorem f126.enter {Q : Post} {n_0 : Value} {H : Heap} (h : f126.w Q n_0 H) : Runs Tryz.prog 126 #[n_0] H Q :=
  fn_enter (ann := []) (by kernel_rfl) Tryz.func126 rfl (by kernel_rfl) h (by kernel_rfl)


theorem fn82 {H0 : Heap} {Q : Post} {v : Value} {l : List Int} (hr : Has RS H0 [v] l) (hQ : ∀ H' t, H0.Le H' → (t = true ↔ ∀ a ∈ l, 0 ≤ a) → Q (.bool t) H') : Runs Tryz.prog 82 #[v] H0 Q := by
  obtain ⟨bs, hr⟩ := hr
  refine f82.enter (Wi.call (contains118 _ _ _ _ _ (fun x => decide (x < 0)) _ hr ?_ fun H2 l2 => Wi.not (hQ _ _ l2 ?_)))
  · intro H' bs u x K l hr hK
    obtain ⟨_, hu, _⟩ := hr
    simp only [List.cons.injEq, and_true] at hu
    subst hu
    exact Wi.callV (f126.enter (Wi.lss (hK _ (.refl _))))
  · simp only [Bool.not_eq_true', List.any_eq_false, decide_eq_true_eq, Int.not_lt]

end Go.Proofs.YtbcfknboheghkaaGreat

/-! Contracts of slices.Grow and slices.Concat, rows. No condition. -/
namespace Go.Proofs.YtbcfknboheghkaaGreat
open Go.Ab




end Go.Proofs.YtbcfknboheghkaaGreat

/-! The contract of the program's allPlaces. No condition. -/
namespace Go.Proofs.YtbcfknboheghkaaGreat
open Go.Ab



/-- A function value of two numbers that tells whether something holds. -/
def Pred2F (fv : Value) (H : Heap) (n : Nat) (p : Nat → Nat → Bool) : Prop :=
  ∀ (H' : Heap) (i k : Nat) (K : Post), H.Le H' → i < n → k < n → (∀ H2, H'.Le H2 → K (.bool (p i k)) H2) → W.call Tryz.prog fv #[.int .i64 i, .int .i64 k] H' K


end Go.Proofs.YtbcfknboheghkaaGreat

/-! What a program is; the contract of the program's IsProgram. No condition. -/
namespace Go.Proofs.YtbcfknboheghkaaGreat
open Go.Ab



/-- A quadratic program. -/
structure IsPrg (p : Prg) : Prop where
  n1 : 1 ≤ p.2.1.length
  nm : p.2.1.length + p.2.2.2.length ≤ 5
  dl : p.1.length = p.2.1.length
  al : p.2.2.1.length = p.2.2.2.length
  d : ∀ r ∈ p.1, r.length = p.2.1.length ∧ ∀ x ∈ r, -20 ≤ x ∧ x ≤ 20
  c : ∀ x ∈ p.2.1, -100 ≤ x ∧ x ≤ 100
  b : ∀ x ∈ p.2.2.2, -100 ≤ x ∧ x ≤ 100
  a : ∀ r ∈ p.2.2.1, r.length = p.2.1.length ∧ ∀ x ∈ r, -20 ≤ x ∧ x ≤ 20
  sym : ∀ i k (hi : i < p.1.length) (hk : k < p.1.length) (h1 : k < p.1[i].length) (h2 : i < p.1[k].length), p.1[i][k] = p.1[k][i]

end Go.Proofs.YtbcfknboheghkaaGreat

/-! Sums of products: sum, form, slopes; what LeastAlong comes to. No condition. -/
namespace Go.Proofs.YtbcfknboheghkaaGreat
open Go.Ab

/- loop.example/g01343/impl.sum -/
def f117.l1 (Q : Post) (v1 : Value) (a_0 : Value) (b_1 : Value) (I1 : St [5, 10] → Heap → Prop) (total_5 : Value) (x_10 : Value) (H : Heap) : Prop :=
  W.bin .lss x_10 v1 H fun v2 H =>
  W.cond v2 H
  (fun H => W.indexAddr 1 a_0 x_10 H fun v3 H =>
   W.get v3 H fun v4 H =>
   W.indexAddr 1 b_1 x_10 H fun v5 H =>
   W.get v5 H fun v6 H =>
   W.bin .mul v4 v6 H fun v7 H =>
   W.bin .add total_5 v7 H fun v8 H =>
   W.bin .add x_10 (.int .i64 1) H fun v9 H =>
   I1 (v8, v9, ()) H)
  (fun H => Q total_5 H)
def f117.w (Q : Post) (a_0 : Value) (b_1 : Value) (H : Heap) : Prop :=
  W.len a_0 H fun v1 H =>
  W.loop (S := St [5, 10]) (fun I1 s H => f117.l1 Q v1 a_0 b_1 I1 s.1 s.2.1 H) ((.int .i64 0), (.int .i64 0), ()) H
theorem f117.enter {Q : Post} {a_0 : Value} {b_1 : Value} {H : Heap} (h : f117.w Q a_0 b_1 H) : Runs Tryz.prog 117 #[a_0, b_1] H Q :=
  fn_enter (ann := [(3, [5, 10])]) (by kernel_rfl) Tryz.func117 rfl (by kernel_rfl) h (by kernel_rfl)

/- loop.example/g01343/impl.form -/
def f100.l1 (Q : Post) (v1 : Value) (m_0 : Value) (x_1 : Value) (y_2 : Value) (I1 : St [7, 12] → Heap → Prop) (total_7 : Value) (x_12 : Value) (H : Heap) : Prop :=
  W.bin .lss x_12 v1 H fun v2 H =>
  W.cond v2 H
  (fun H => W.indexAddr 1 m_0 x_12 H fun v3 H =>
   W.get v3 H fun v4 H =>
   W.indexAddr 1 x_1 x_12 H fun v5 H =>
   W.get v5 H fun v6 H =>
   W.callQ Tryz.prog (.func (.func 117) #[] #[]) #[v4, y_2] H fun v7 H =>
   W.bin .mul v6 v7 H fun v8 H =>
   W.bin .add total_7 v8 H fun v9 H =>
   W.bin .add x_12 (.int .i64 1) H fun v10 H =>
   I1 (v9, v10, ()) H)
  (fun H => Q total_7 H)
def f100.w (Q : Post) (m_0 : Value) (x_1 : Value) (y_2 : Value) (H : Heap) : Prop :=
  W.len m_0 H fun v1 H =>
  W.loop (S := St [7, 12]) (fun I1 s H => f100.l1 Q v1 m_0 x_1 y_2 I1 s.1 s.2.1 H) ((.int .i64 0), (.int .i64 0), ()) H
theorem f100.enter {Q : Post} {m_0 : Value} {x_1 : Value} {y_2 : Value} {H : Heap} (h : f100.w Q m_0 x_1 y_2 H) : Runs Tryz.prog 100 #[m_0, x_1, y_2] H Q :=
  fn_enter (ann := [(3, [7, 12])]) (by kernel_rfl) Tryz.func100 rfl (by kernel_rfl) h (by kernel_rfl)


def sumTo (f : Nat → Int) : Nat → Int
  | 0 => 0
  | n + 1 => sumTo f n + f n

theorem sumTo_congr {f g : Nat → Int} : ∀ {n : Nat}, (∀ i, i < n → f i = g i) → sumTo f n = sumTo g n
  | 0, _ => rfl
  | n + 1, h => by simp only [sumTo]; rw [sumTo_congr fun i hi => h i (by omega), h n (by omega)]

theorem sumTo_mul (c : Int) (f : Nat → Int) : ∀ n, sumTo (fun i => c * f i) n = c * sumTo f n
  | 0 => by simp [sumTo]
  | n + 1 => by simp only [sumTo]; rw [sumTo_mul c f n, Int.mul_add]

theorem sumTo_add (f g : Nat → Int) : ∀ n, sumTo (fun i => f i + g i) n = sumTo f n + sumTo g n
  | 0 => by simp [sumTo]
  | n + 1 => by simp only [sumTo]; rw [sumTo_add f g n]; omega

theorem sumTo_abs {f : Nat → Int} {B : Nat} : ∀ {n : Nat}, (∀ i, i < n → (f i).natAbs ≤ B) → (sumTo f n).natAbs ≤ n * B
  | 0, _ => by simp [sumTo]
  | n + 1, h => by
    have h1 := sumTo_abs fun i hi => h i (Nat.lt_succ_of_lt hi)
    have h2 := h n (Nat.lt_succ_self n)
    simp only [sumTo]
    rw [Nat.succ_mul]
    omega

theorem mul_abs {x y : Int} {A B : Nat} (h1 : x.natAbs ≤ A) (h2 : y.natAbs ≤ B) : (x * y).natAbs ≤ A * B := by
  rw [Int.natAbs_mul]
  exact Nat.mul_le_mul h1 h2

theorem getD_abs {a : List Int} {A : Nat} (h : ∀ x ∈ a, x.natAbs ≤ A) (i : Nat) : (a.getD i 0).natAbs ≤ A := by
  by_cases hi : i < a.length
  · simpa [List.getD_eq_getElem?_getD, List.getElem?_eq_getElem hi] using h _ (List.getElem_mem hi)
  · simp [List.getD_eq_getElem?_getD, List.getElem?_eq_none (show a.length ≤ i by omega)]

theorem getD_at {a : List Int} {i : Nat} (hi : i < a.length) : a.getD i 0 = a[i] := by simp [List.getD_eq_getElem?_getD, List.getElem?_eq_getElem hi]
theorem getD_row {m : List (List Int)} {i : Nat} (hi : i < m.length) : m.getD i [] = m[i] := by simp [List.getD_eq_getElem?_getD, List.getElem?_eq_getElem hi]

abbrev dotF (a b : List Int) : Nat → Int := fun j => a.getD j 0 * b.getD j 0
def dot (a b : List Int) : Int := sumTo (dotF a b) a.length

theorem dot_abs {a b : List Int} {A B : Nat} (hA : ∀ x ∈ a, x.natAbs ≤ A) (hB : ∀ x ∈ b, x.natAbs ≤ B) : (dot a b).natAbs ≤ a.length * (A * B) :=
  sumTo_abs fun i _ => mul_abs (getD_abs hA i) (getD_abs hB i)

theorem abs_i64 {x : Int} {B : Nat} (h : x.natAbs ≤ B) (hB : B < 9223372036854775808) : I64 x := by unfold I64; omega

theorem le_small {a i n : Nat} (h : i ≤ n) (hs : n * a < 9223372036854775808) : i * a < 9223372036854775808 := Nat.lt_of_le_of_lt (Nat.mul_le_mul_right a h) hs

theorem fn117 {H0 : Heap} {Q : Post} {va vb : Value} {a b : List Int} (ha : Has RS H0 [va] a) (hb : Has RS H0 [vb] b) (hl : a.length ≤ b.length) {A B : Nat} (hA : ∀ x ∈ a, x.natAbs ≤ A) (hB : ∀ x ∈ b, x.natAbs ≤ B)
    (hs : a.length * (A * B) < 9223372036854775808) (hQ : Q (.int .i64 (dot a b)) H0) : Runs Tryz.prog 117 #[va, vb] H0 Q := by
  have hsm := ha.small
  have hP : ∀ i, i < a.length → (dotF a b i).natAbs ≤ A * B := fun i _ => mul_abs (getD_abs hA i) (getD_abs hB i)
  refine f117.enter (Wl.lenH ha (W.for_rule a.length (fun i s H => H = H0 ∧ s = (.int .i64 (sumTo (dotF a b) i), .int .i64 (i : Nat), ())) ⟨rfl, rfl⟩ ?_))
  rintro i s H J hi ⟨rfl, rfl⟩ hJ
  refine Wi.lssC (fun hlt => Wi.tru ?_) fun hge => Wi.fls ?_
  · have hix : i < a.length := by omega
    have hib : i < b.length := by omega
    have e : dotF a b i = a[i] * b[i] := by simp only [dotF]; rw [getD_at hix, getD_at hib]
    have h1 := hP i hix
    have h2 : (sumTo (dotF a b) (i + 1)).natAbs ≤ (i + 1) * (A * B) := sumTo_abs fun j hj => hP j (by omega)
    have h3 := abs_i64 h2 (le_small (show i + 1 ≤ a.length by omega) hs)
    have h4 := abs_i64 h1 (by have := le_small (show 1 ≤ a.length by omega) hs; omega)
    simp only [sumTo] at h3
    rw [e] at h3 h4
    refine Wl.atIntH ha hix fun _ => Wl.atIntH hb hib fun _ => Wi.mul h4 (Wi.add h3 (Wi.add (by unfold I64; omega) (hJ _ _ hix ⟨rfl, ?_⟩)))
    simp only [sumTo]
    rw [e]
    rfl
  · have : i = a.length := by omega
    subst this
    exact hQ

def formV (m : List (List Int)) (x y : List Int) : Int := sumTo (fun i => x.getD i 0 * dot (m.getD i []) y) m.length

theorem row_dot {m : List (List Int)} {y : List Int} {N M Y : Nat} (hm : ∀ r ∈ m, r.length ≤ N ∧ ∀ e ∈ r, e.natAbs ≤ M) (hY : ∀ e ∈ y, e.natAbs ≤ Y) (i : Nat) : (dot (m.getD i []) y).natAbs ≤ N * (M * Y) := by
  by_cases hi : i < m.length
  · rw [getD_row hi]
    have := hm _ (List.getElem_mem hi)
    exact Nat.le_trans (dot_abs this.2 hY) (Nat.mul_le_mul_right _ this.1)
  · simp [List.getD_eq_getElem?_getD, List.getElem?_eq_none (show m.length ≤ i by omega), dot, sumTo]

theorem fn100 {H0 : Heap} {Q : Post} {vm vx vy : Value} {m : List (List Int)} {x y : List Int} (hm : Has RSS H0 [vm] m) (hx : Has RS H0 [vx] x) (hy : Has RS H0 [vy] y) (hl : m.length ≤ x.length) {N M X Y : Nat} (hM : ∀ r ∈ m, (r.length ≤ N ∧ ∀ e ∈ r, e.natAbs ≤ M) ∧ r.length ≤ y.length)
    (hX : ∀ e ∈ x, e.natAbs ≤ X) (hY : ∀ e ∈ y, e.natAbs ≤ Y) (hs : m.length * (X * (N * (M * Y))) < 9223372036854775808) (hs2 : N * (M * Y) < 9223372036854775808) (hQ : Q (.int .i64 (formV m x y)) H0) : Runs Tryz.prog 100 #[vm, vx, vy] H0 Q := by
  have hsm := hm.small
  have hP : ∀ i, (x.getD i 0 * dot (m.getD i []) y).natAbs ≤ X * (N * (M * Y)) := fun i => mul_abs (getD_abs hX i) (row_dot (fun r hr => (hM r hr).1) hY i)
  refine f100.enter (Wl.lenH hm (W.for_rule m.length (fun i s H => H = H0 ∧ s = (.int .i64 (sumTo (fun i => x.getD i 0 * dot (m.getD i []) y) i), .int .i64 (i : Nat), ())) ⟨rfl, rfl⟩ ?_))
  rintro i s H J hi ⟨rfl, rfl⟩ hJ
  refine Wi.lssC (fun hlt => Wi.tru ?_) fun hge => Wi.fls ?_
  · have hix : i < m.length := by omega
    have hixx : i < x.length := by omega
    have hr := hM _ (List.getElem_mem hix)
    have h1 := hP i
    have h2 : (sumTo (fun i => x.getD i 0 * dot (m.getD i []) y) (i + 1)).natAbs ≤ (i + 1) * (X * (N * (M * Y))) := sumTo_abs fun j _ => hP j
    have h3 := abs_i64 h2 (le_small (show i + 1 ≤ m.length by omega) hs)
    have h4 := abs_i64 h1 (by have := le_small (show 1 ≤ m.length by omega) hs; omega)
    simp only [sumTo] at h3
    have e : x.getD i 0 * dot (m.getD i []) y = x[i] * dot m[i] y := by rw [getD_at hixx, getD_row hix]
    rw [e] at h3 h4
    have hs3 : m[i].length * (M * Y) < 9223372036854775808 := Nat.lt_of_le_of_lt (Nat.mul_le_mul_right _ hr.1.1) hs2
    refine Wl.at1H rfl hm hix fun w hw => Wl.atIntH hx hixx fun _ => Wi.callQ (fn117 hw hy hr.2 hr.1.2 hY hs3 ⟨.refl _, Wi.mul h4 (Wi.add h3 (Wi.add (by unfold I64; omega) (hJ _ _ hix ⟨rfl, ?_⟩)))⟩)
    simp only [sumTo]
    rw [e]
    rfl
  · have : i = m.length := by omega
    subst this
    exact hQ

/-- The slopes of a program at a point. -/
def slopesV (p : Prg) (x : List Int) : List Int := (List.range p.1.length).map fun i => p.2.1.getD i 0 * 1 + dot (p.1.getD i []) x


abbrev zFr : Frac := (0, 0)
def bendV (p : Prg) (u : List Int) : Int := formV p.1 u u
def slopeV (p : Prg) (x u : List Int) : Int := dot u (slopesV p x)
def twiceV (p : Prg) (x : List Int) : Int := formV p.1 x x + 2 * dot p.2.1 x

/-- The places of LeastAlong are told. -/
def laOK (p : Prg) (x u : List Int) : Prop := x.length = p.2.1.length ∧ u.length = p.2.1.length ∧ allUp 100 x = true ∧ allUp 100 u = true

noncomputable def laRes (p : Prg) (x u : List Int) : Frac × Frac × Int := open Classical in
  if IsPrg p then (if laOK p x u then (if 0 < bendV p u then
    (if (fracT (-slopeV p x u) (bendV p u)).2 = 0 ∧ (fracT (twiceV p x * bendV p u - slopeV p x u * slopeV p x u) (2 * bendV p u)).2 = 0 then
      ((fracT (-slopeV p x u) (bendV p u)).1, (fracT (twiceV p x * bendV p u - slopeV p x u * slopeV p x u) (2 * bendV p u)).1, 0) else (zFr, zFr, 3)) else (zFr, zFr, 5)) else (zFr, zFr, 2)) else (zFr, zFr, 1)

end Go.Proofs.YtbcfknboheghkaaGreat
