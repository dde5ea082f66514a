/- Fractions with a common denominator, as plain values. No condition. -/
import Derived.Test.YtdchibdcfdbcpaaGreatGAA
import Derived.Test.YtdchibdcfdbcpaaGreatZabG5
import Derived.Test.YtdchibdcfdbcpaaGreatM1
namespace Go.Proofs.YtdchibdcfdbcpaaGreat
open Go.Ab

/-- One more denominator. -/
def comStep (d e : Int) : Int := d.tdiv (Int.gcd d e) * e
def comTo (xs : List Frac) : Nat → Int
  | 0 => 1
  | i + 1 => comStep (comTo xs i) (xs.getD i (0, 1)).2

def comNum (d : Int) (a : Frac) : Int := a.1 * d.tdiv a.2

def okDen (m : Int) (xs : List Frac) : Prop := ∀ i, i < xs.length → comTo xs (i + 1) ≤ m
def okNum (m : Int) (d : Int) (xs : List Frac) : Prop := ∀ a ∈ xs, -m ≤ comNum d a ∧ comNum d a ≤ m

/-- The numerators by the least common denominator, and this, if all are within the limits. -/
noncomputable def tog (m n : Int) (xs : List Frac) : Option (List Int × Int) := open Classical in
  if okDen m xs ∧ okNum n (comTo xs xs.length) xs then some (xs.map (comNum (comTo xs xs.length)), comTo xs xs.length) else none

def Frs (xs : List Frac) : Prop := ∀ a ∈ xs, isFr 1000000000 a = true

theorem fr_at {xs : List Frac} {i : Nat} (hi : i < xs.length) (d : Frac) : xs.getD i d = xs[i] := by simp [List.getD_eq_getElem?_getD, List.getElem?_eq_getElem hi]

theorem comStep_pos {d e : Int} (hd : 1 ≤ d) (he : 1 ≤ e) : 1 ≤ comStep d e ∧ d ≤ comStep d e := by
  unfold comStep
  obtain ⟨k, hk⟩ := Int.gcd_dvd_left d e
  obtain ⟨j, hj⟩ := Int.gcd_dvd_right d e
  have hg : 0 < Int.gcd d e := Int.gcd_pos_of_ne_zero_left e (by omega)
  have hgi : (0 : Int) < Int.gcd d e := by omega
  have e1 : d.tdiv (Int.gcd d e) = k := by
    rw [Int.tdiv_eq_ediv_of_dvd (Int.gcd_dvd_left d e)]
    conv => lhs; lhs; rw [hk]
    rw [Int.mul_ediv_cancel_left _ (by omega)]
  rw [e1]
  have hk0 : 0 < k := by
    rcases Int.lt_or_le 0 k with h | h
    · exact h
    · have := Int.mul_nonpos_of_nonneg_of_nonpos (Int.le_of_lt hgi) h
      omega
  have hj0 : 0 < j := by
    rcases Int.lt_or_le 0 j with h | h
    · exact h
    · have := Int.mul_nonpos_of_nonneg_of_nonpos (Int.le_of_lt hgi) h
      omega
  have hge : (Int.gcd d e : Int) ≤ e := by
    have := Int.mul_le_mul_of_nonneg_left (show (1 : Int) ≤ j by omega) (Int.le_of_lt hgi)
    rw [← hj, Int.mul_one] at this
    exact this
  have h1 : k * (Int.gcd d e : Int) ≤ k * e := Int.mul_le_mul_of_nonneg_left hge (by omega)
  rw [Int.mul_comm, ← hk] at h1
  omega

theorem comStep_le {d e M : Int} (hd : 1 ≤ d) (he : 1 ≤ e) (hM : d ≤ M) : comStep d e ≤ M * e := by
  unfold comStep
  have hg : 0 < Int.gcd d e := Int.gcd_pos_of_ne_zero_left e (by omega)
  have : d.tdiv (Int.gcd d e) ≤ d := by
    rw [Int.tdiv_eq_ediv_of_nonneg (by omega)]
    exact Int.ediv_le_self _ (by omega)
  exact Int.mul_le_mul_of_nonneg_right (by omega) (by omega)

theorem fr_den {xs : List Frac} (h : Frs xs) {i : Nat} (hi : i < xs.length) : 1 ≤ xs[i].2 ∧ xs[i].2 ≤ 1000000000 ∧ -1000000000 ≤ xs[i].1 ∧ xs[i].1 ≤ 1000000000 := by
  have := isFr_iff.1 (h _ (List.getElem_mem hi))
  omega

theorem comTo_pos {xs : List Frac} (h : Frs xs) : ∀ {i : Nat}, i ≤ xs.length → 1 ≤ comTo xs i
  | 0, _ => by simp [comTo]
  | i + 1, hi => by
    have h1 := comTo_pos h (i := i) (by omega)
    simp only [comTo]
    rw [fr_at (by omega)]
    exact (comStep_pos h1 (fr_den h (by omega)).1).1

theorem comTo_mono {xs : List Frac} (h : Frs xs) : ∀ {d i : Nat}, i + d ≤ xs.length → comTo xs i ≤ comTo xs (i + d)
  | 0, i, _ => Int.le_refl _
  | d + 1, i, hd => by
    have h1 := comTo_mono h (d := d) (i := i) (by omega)
    have h2 := comTo_pos h (i := i + d) (by omega)
    have h3 := (comStep_pos h2 (fr_den h (i := i + d) (by omega)).1).2
    show comTo xs i ≤ comStep (comTo xs (i + d)) (xs.getD (i + d) (0, 1)).2
    rw [fr_at (by omega)]
    omega

end Go.Proofs.YtdchibdcfdbcpaaGreat
/-! Contracts of areFracs, together and l01Common. No condition. -/
namespace Go.Proofs.YtdchibdcfdbcpaaGreat
open Go.Ab

/- slices.ContainsFunc[[]loop.example/g01343/impl.Frac,loop.example/g01343/impl.Frac] -/
def f113.w (Q : Post) (s_0 : Value) (f_1 : Value) (H : Heap) : Prop :=
  W.call Tryz.prog (.func (.func 148) #[] #[]) #[s_0, f_1] H fun v1 H =>
  W.bin .geq v1 (.int .i64 0) H fun v2 H =>
  Q v2 H
theorem f113.enter {Q : Post} {s_0 : Value} {f_1 : Value} {H : Heap} (h : f113.w Q s_0 f_1 H) : Runs Tryz.prog 113 #[s_0, f_1] H Q :=
  fn_enter (ann := []) (by kernel_rfl) Tryz.func113 rfl (by kernel_rfl) h (by kernel_rfl)

/- slices.IndexFunc[[]loop.example/g01343/impl.Frac,loop.example/g01343/impl.Frac] -/
def f148.l1 (Q : Post) (v1 : Value) (s_0 : Value) (f_1 : Value) (I1 : St [8] → Heap → Prop) (x_8 : Value) (H : Heap) : Prop :=
  W.bin .lss x_8 v1 H fun v2 H =>
  W.cond v2 H
  (fun H => W.indexAddr 2 s_0 x_8 H fun v3 H =>
   W.getN 2 v3 H fun v4 H =>
   W.call Tryz.prog f_1 #[v4] H fun v5 H =>
   W.cond v5 H
   (fun H => Q x_8 H)
   (fun H => W.bin .add x_8 (.int .i64 1) H fun v6 H =>
    I1 (v6, ()) H))
  (fun H => Q (.int .i64 (-1)) H)
def f148.w (Q : Post) (s_0 : Value) (f_1 : Value) (H : Heap) : Prop :=
  W.len s_0 H fun v1 H =>
  W.loop (S := St [8]) (fun I1 s H => f148.l1 Q v1 s_0 f_1 I1 s.1 H) ((.int .i64 0), ()) H
theorem f148.enter {Q : Post} {s_0 : Value} {f_1 : Value} {H : Heap} (h : f148.w Q s_0 f_1 H) : Runs Tryz.prog 148 #[s_0, f_1] H Q :=
  fn_enter (ann := [(2, [8])]) (by kernel_rfl) Tryz.func148 rfl (by kernel_rfl) h (by kernel_rfl)

/- loop.example/g01343/impl.areFracs -/
def f80.w (Q : Post) (list_0 : Value) (H : Heap) : Prop :=
  W.call Tryz.prog (.func (.func 113) #[] #[]) #[list_0, (.func (.func 114) #[] #[])] H fun v1 H =>
  W.un .not v1 H fun v2 H =>
  Q v2 H
theorem f80.enter {Q : Post} {list_0 : Value} {H : Heap} (h : f80.w Q list_0 H) : Runs Tryz.prog 80 #[list_0] H Q :=
  fn_enter (ann := []) (by kernel_rfl) Tryz.func80 rfl (by kernel_rfl) h (by kernel_rfl)

/- loop.example/g01343/impl.areFracs$1 -/
def f114.w (Q : Post) (a_0 : Value) (H : Heap) : Prop :=
  W.box a_0 34 H fun v1 H =>
  W.getN 2 v1 H fun v2 H =>
  W.call Tryz.prog (.func (.func 112) #[] #[]) #[v2] H fun v3 H =>
  W.un .not v3 H fun v4 H =>
  Q v4 H
theorem f114.enter {Q : Post} {a_0 : Value} {H : Heap} (h : f114.w Q a_0 H) : Runs Tryz.prog 114 #[a_0] H Q :=
  fn_enter (ann := []) (by kernel_rfl) Tryz.func114 rfl (by kernel_rfl) h (by kernel_rfl)

/- loop.example/g01343/impl.together -/
def f121.l2 (Q : Post) (v15 : Value) (list_0 : Value) (den_9 : Value) (parts_2 : Value) (I2 : St [12, 37] → Heap → Prop) (out_12 : Value) (x_37 : Value) (H : Heap) : Prop :=
  W.bin .lss x_37 v15 H fun v16 H =>
  W.cond v16 H
  (fun H => W.indexAddr 2 list_0 x_37 H fun v17 H =>
   W.getN 2 v17 H fun v18 H =>
   W.new [(.int .i64 0), (.int .i64 0)] 34 H fun v19 H =>
   W.putN 2 v19 v18 H fun _ H =>
   W.fieldAddr 0 v19 H fun v20 H =>
   W.get v20 H fun v21 H =>
   W.fieldAddr 1 v19 H fun v22 H =>
   W.get v22 H fun v23 H =>
   W.bin .quo den_9 v23 H fun v24 H =>
   W.bin .mul v21 v24 H fun v25 H =>
   W.call Tryz.prog (.func (.func 118) #[] #[]) #[v25, parts_2] H fun v26 H =>
   W.un .not v26 H fun v27 H =>
   W.cond v27 H
   (fun H => Q (.tuple #[(.slice none 0 0), (.int .i64 0), (.bool false)]) H)
   (fun H => W.lit 1 [(.int .i64 0)] 2 [(0, 1, v25)] H fun v28 H =>
    W.append 1 2 out_12 v28 H fun v29 H =>
    W.bin .add x_37 (.int .i64 1) H fun v30 H =>
    I2 (v29, v30, ()) H))
  (fun H => Q (.tuple #[out_12, den_9, (.bool true)]) H)
def f121.l1 (Q : Post) (v1 : Value) (list_0 : Value) (most_1 : Value) (parts_2 : Value) (I1 : St [9, 18] → Heap → Prop) (den_9 : Value) (x_18 : Value) (H : Heap) : Prop :=
  W.bin .lss x_18 v1 H fun v2 H =>
  W.cond v2 H
  (fun H => W.indexAddr 2 list_0 x_18 H fun v3 H =>
   W.getN 2 v3 H fun v4 H =>
   W.new [(.int .i64 0), (.int .i64 0)] 34 H fun v5 H =>
   W.putN 2 v5 v4 H fun _ H =>
   W.fieldAddr 1 v5 H fun v6 H =>
   W.get v6 H fun v7 H =>
   W.callQ Tryz.prog (.func (.func 111) #[] #[]) #[den_9, v7] H fun v8 H =>
   W.bin .quo den_9 v8 H fun v9 H =>
   W.fieldAddr 1 v5 H fun v10 H =>
   W.get v10 H fun v11 H =>
   W.bin .mul v9 v11 H fun v12 H =>
   W.bin .gtr v12 most_1 H fun v13 H =>
   W.cond v13 H
   (fun H => Q (.tuple #[(.slice none 0 0), (.int .i64 0), (.bool false)]) H)
   (fun H => W.bin .add x_18 (.int .i64 1) H fun v14 H =>
    I1 (v12, v14, ()) H))
  (fun H => W.len list_0 H fun v15 H =>
   W.loop (S := St [12, 37]) (fun I2 s H => f121.l2 Q v15 list_0 den_9 parts_2 I2 s.1 s.2.1 H) ((.slice none 0 0), (.int .i64 0), ()) H)
def f121.w (Q : Post) (list_0 : Value) (most_1 : Value) (parts_2 : Value) (H : Heap) : Prop :=
  W.len list_0 H fun v1 H =>
  W.loop (S := St [9, 18]) (fun I1 s H => f121.l1 Q v1 list_0 most_1 parts_2 I1 s.1 s.2.1 H) ((.int .i64 1), (.int .i64 0), ()) H
theorem f121.enter {Q : Post} {list_0 : Value} {most_1 : Value} {parts_2 : Value} {H : Heap} (h : f121.w Q list_0 most_1 parts_2 H) : Runs Tryz.prog 121 #[list_0, most_1, parts_2] H Q :=
  fn_enter (ann := [(3, [9, 18]), (11, [12, 37])]) (by kernel_rfl) Tryz.func121 rfl (by kernel_rfl) h (by kernel_rfl)

/- loop.example/g01343/spec.IsFrac -/
def f131.w (Q : Post) (a_0 : Value) (H : Heap) : Prop :=
  W.box a_0 34 H fun v1 H =>
  W.getN 2 v1 H fun v2 H =>
  W.call Tryz.prog (.func (.func 119) #[] #[]) #[v2, (.int .i64 1000000000)] H fun v3 H =>
  Q v3 H
theorem f131.enter {Q : Post} {a_0 : Value} {H : Heap} (h : f131.w Q a_0 H) : Runs Tryz.prog 131 #[a_0] H Q :=
  fn_enter (ann := []) (by kernel_rfl) Tryz.func131 rfl (by kernel_rfl) h (by kernel_rfl)

/- loop.example/g01343/spec.l01Common -/
def f103.l2 (Q : Post) (z_0 : Value) (den_5 : Value) (I2 : St [7, 8] → Heap → Prop) (out_7 : Value) (i_8 : Value) (H : Heap) : Prop :=
  W.len z_0 H fun v15 H =>
  W.bin .lss i_8 v15 H fun v16 H =>
  W.cond v16 H
  (fun H => W.indexAddr 2 z_0 i_8 H fun v17 H =>
   W.fieldAddr 0 v17 H fun v18 H =>
   W.get v18 H fun v19 H =>
   W.indexAddr 2 z_0 i_8 H fun v20 H =>
   W.fieldAddr 1 v20 H fun v21 H =>
   W.get v21 H fun v22 H =>
   W.bin .quo den_5 v22 H fun v23 H =>
   W.bin .mul v19 v23 H fun v24 H =>
   W.call Tryz.prog (.func (.func 77) #[] #[]) #[v24, (.int .i64 (-1000000000000)), (.int .i64 1000000000000)] H fun v25 H =>
   W.un .not v25 H fun v26 H =>
   W.cond v26 H
   (fun H => Q (.tuple #[(.slice none 0 0), (.int .i64 0), (.bool false)]) H)
   (fun H => W.lit 1 [(.int .i64 0)] 2 [(0, 1, v24)] H fun v27 H =>
    W.append 1 2 out_7 v27 H fun v28 H =>
    W.bin .add i_8 (.int .i64 1) H fun v29 H =>
    I2 (v28, v29, ()) H))
  (fun H => Q (.tuple #[out_7, den_5, (.bool true)]) H)
def f103.l1 (Q : Post) (z_0 : Value) (I1 : St [5, 6] → Heap → Prop) (den_5 : Value) (i_6 : Value) (H : Heap) : Prop :=
  W.len z_0 H fun v1 H =>
  W.bin .lss i_6 v1 H fun v2 H =>
  W.cond v2 H
  (fun H => W.indexAddr 2 z_0 i_6 H fun v3 H =>
   W.fieldAddr 1 v3 H fun v4 H =>
   W.get v4 H fun v5 H =>
   W.callQ Tryz.prog (.func (.func 120) #[] #[]) #[den_5, v5] H fun v6 H =>
   W.bin .quo den_5 v6 H fun v7 H =>
   W.indexAddr 2 z_0 i_6 H fun v8 H =>
   W.fieldAddr 1 v8 H fun v9 H =>
   W.get v9 H fun v10 H =>
   W.bin .mul v7 v10 H fun v11 H =>
   W.bin .gtr v11 (.int .i64 1000000000) H fun v12 H =>
   W.cond v12 H
   (fun H => Q (.tuple #[(.slice none 0 0), (.int .i64 0), (.bool false)]) H)
   (fun H => W.bin .add i_6 (.int .i64 1) H fun v13 H =>
    I1 (v11, v13, ()) H))
  (fun H => W.lit 0 [(.int .i64 0)] 2 [] H fun v14 H =>
   W.loop (S := St [7, 8]) (fun I2 s H => f103.l2 Q z_0 den_5 I2 s.1 s.2.1 H) (v14, (.int .i64 0), ()) H)
def f103.w (Q : Post) (z_0 : Value) (H : Heap) : Prop :=
  W.loop (S := St [5, 6]) (fun I1 s H => f103.l1 Q z_0 I1 s.1 s.2.1 H) ((.int .i64 1), (.int .i64 0), ()) H
theorem f103.enter {Q : Post} {z_0 : Value} {H : Heap} (h : f103.w Q z_0 H) : Runs Tryz.prog 103 #[z_0] H Q :=
  fn_enter (ann := [(3, [5, 6]), (10, [7, 8])]) (by kernel_rfl) Tryz.func103 rfl (by kernel_rfl) h (by kernel_rfl)


theorem fn80 {H0 : Heap} {Q : Post} {v : Value} {xs : List Frac} (hr : Has RFS H0 [v] xs) (hQ : ∀ H' t, H0.Le H' → (t = true ↔ Frs xs) → Q (.bool t) H') : Runs Tryz.prog 80 #[v] H0 Q := by
  have hs := hr.small
  refine f80.enter (Wi.call (f113.enter (Wi.call (f148.enter ?_))))
  refine Wl.lenH hr (W.all_rule xs.length (fun i => isFr 1000000000 (xs.getD i (0, 0))) (fun i H1 J hi _ l hJ => ?_) fun H1 J hall l => ?_)
  · refine Wi.lssC (fun _ => Wi.tru ?_) fun h => by omega
    have e1 := fr_at hi (0, 0)
    refine Wl.atFrH (hr.le l) hi fun _ _ => Wi.callV (f114.enter (Wl.box (Loc.start _) fun H2 b h => Wl.getA h rfl (Wi.call (fn112 fun H3 l3 => Wi.not ?_))))
    cases hf : isFr 1000000000 xs[i] with
    | false =>
      refine Wi.tru (Wi.geq ?_)
      rw [show decide ((0 : Int) ≤ (i : Nat)) = true by simp]
      refine Wi.not (hQ _ _ ((l.trans h.le).trans l3) ⟨fun e => Bool.noConfusion e, fun g => ?_⟩)
      rw [g _ (List.getElem_mem hi)] at hf
      cases hf
    | true => exact Wi.fls (Wi.add (by unfold I64; omega) (hJ (by rw [e1]; exact hf) H3 (h.le.trans l3)))
  · refine Wi.lssC (fun h => by omega) fun _ => Wi.fls (Wi.geq ?_)
    rw [show decide ((0 : Int) ≤ -1) = false by decide]
    refine Wi.not (hQ _ _ l ⟨fun _ a ha => ?_, fun _ => rfl⟩)
    obtain ⟨i, hi, rfl⟩ := List.mem_iff_getElem.1 ha
    have := hall i hi
    rw [fr_at hi] at this
    exact this

theorem fn131 {H0 : Heap} {Q : Post} {a : Frac} (hQ : ∀ H', H0.Le H' → Q (.bool (isFr 1000000000 a)) H') : Runs Tryz.prog 131 #[.agg (frC a).toArray] H0 Q := by
  refine f131.enter ?_
  unfold f131.w
  exact Wl.box (Loc.start H0) fun H b h => Wl.getA h rfl (Wi.call (fn119 fun H2 l2 => hQ _ (h.le.trans l2)))

theorem tog_none1 {m n : Int} {xs : List Frac} {i : Nat} (hi : i < xs.length) (h : m < comTo xs (i + 1)) : tog m n xs = none := by
  unfold tog
  rw [if_neg]
  rintro ⟨g, _⟩
  have := g i hi
  omega

theorem tog_none2 {m n : Int} {xs : List Frac} {i : Nat} (hi : i < xs.length) (h : inR (-n) n (comNum (comTo xs xs.length) xs[i]) = false) : tog m n xs = none := by
  unfold tog
  rw [if_neg]
  rintro ⟨_, g⟩
  rw [inR_iff.2 (g _ (List.getElem_mem hi))] at h
  cases h

theorem tog_some {m n : Int} {xs : List Frac} (h1 : okDen m xs) (h2 : ∀ i (hi : i < xs.length), inR (-n) n (comNum (comTo xs xs.length) xs[i]) = true) : tog m n xs = some (xs.map (comNum (comTo xs xs.length)), comTo xs xs.length) := by
  unfold tog
  rw [if_pos]
  refine ⟨h1, fun a ha => ?_⟩
  obtain ⟨i, hi, rfl⟩ := List.mem_iff_getElem.1 ha
  exact inR_iff.1 (h2 i hi)

theorem comNum_i64 {d : Int} {a : Frac} (hd : 1 ≤ d ∧ d ≤ 1000000000) (h2 : 1 ≤ a.2) (h1 : -1000000000 ≤ a.1 ∧ a.1 ≤ 1000000000) : I64 (d.tdiv a.2) ∧ I64 (a.1 * d.tdiv a.2) := by
  have e1 : (d.tdiv a.2).natAbs ≤ 1000000000 := by
    have := Int.natAbs_tdiv_le_natAbs d a.2
    omega
  have e2 : (a.1 * d.tdiv a.2).natAbs ≤ 1000000000 * 1000000000 := by
    rw [Int.natAbs_mul]
    exact Nat.mul_le_mul (by omega) e1
  exact ⟨by unfold I64; omega, by unfold I64; omega⟩

theorem comTo_step {xs : List Frac} {i : Nat} (hi : i < xs.length) : comTo xs (i + 1) = (comTo xs i).tdiv (Int.gcd (comTo xs i) xs[i].2) * xs[i].2 := by
  simp only [comTo]
  rw [fr_at hi]
  rfl

/-- What one round of the denominators needs. -/
theorem comTo_fit {xs : List Frac} (hf : Frs xs) {i : Nat} (hi : i < xs.length) {m : Int} (hm : m ≤ 1000000000) (hd : comTo xs i ≤ m) :
    B64 (comTo xs i) ∧ B64 xs[i].2 ∧ (Int.gcd (comTo xs i) xs[i].2 : Int) ≠ 0 ∧ I64 ((comTo xs i).tdiv (Int.gcd (comTo xs i) xs[i].2)) ∧ I64 ((comTo xs i).tdiv (Int.gcd (comTo xs i) xs[i].2) * xs[i].2) := by
  have h1 := comTo_pos hf (i := i) (by omega)
  obtain ⟨h2, h3, _, _⟩ := fr_den hf hi
  have hB : B64 (comTo xs i) := by unfold B64; omega
  have hg : 0 < Int.gcd (comTo xs i) xs[i].2 := Int.gcd_pos_of_ne_zero_left _ (by omega)
  have h4 := comStep_le h1 h2 (Int.le_refl _)
  have h5 := (comStep_pos h1 h2).1
  unfold comStep at h4 h5
  have h6 : comTo xs i * xs[i].2 ≤ 1000000000 * 1000000000 := Int.mul_le_mul (by omega) h3 (by omega) (by omega)
  refine ⟨hB, by unfold B64; omega, by omega, (tdiv_B hB).i64, ?_⟩
  unfold I64
  omega

theorem fn121 {H0 : Heap} {Q : Post} {v : Value} {xs : List Frac} {m n : Int} (hr : Has RFS H0 [v] xs) (hf : Frs xs) (hl : xs.length ≤ 1048576) (hm : 1 ≤ m ∧ m ≤ 1000000000) (hn : 0 ≤ n ∧ n ≤ 1000000000000)
    (h1 : tog m n xs = none → ∀ H', H0.Le H' → Q (.tuple #[.slice none 0 0, .int .i64 0, .bool false]) H')
    (h2 : ∀ l d, tog m n xs = some (l, d) → ∀ H' u, FreshG Rd.int 2 H0 u l H' → Q (.tuple #[u, .int .i64 d, .bool true]) H') : Runs Tryz.prog 121 #[v, .int .i64 m, .int .i64 n] H0 Q := by
  refine f121.enter (Wl.lenH hr ?_)
  refine W.for_rule xs.length (fun i s H => s = (.int .i64 (comTo xs i), .int .i64 (i : Nat), ()) ∧ Ab.Loc H0 [.lent RFS [v] xs] H ∧ comTo xs i ≤ m ∧ ∀ j, j < i → comTo xs (j + 1) ≤ m) ⟨rfl, (Loc.start H0).lent hr, by simp [comTo]; omega, fun j hj => by omega⟩ ?_
  rintro i s H J hi ⟨rfl, h, hd, hall⟩ hJ
  refine Wi.lssC (fun hlt => Wi.tru ?_) fun hge => Wi.fls ?_
  · have hix : i < xs.length := by omega
    obtain ⟨f1, f2, f3, f4, f5⟩ := comTo_fit hf hix hm.2 hd
    refine Wl.atFr h hix fun _ _ => Wl.new h fun H b h => Wl.putA (vs := frC xs[i]) h rfl rfl rfl fun H h => Wi.fieldAddr0 (Wl.get h rfl (Wi.callQ (fn111 f1 f2 ⟨.refl _, Wi.quo f3 f4 (Wi.fieldAddr0 (Wl.get h rfl (Wi.mul f5 ?_)))⟩)))
    rw [← comTo_step hix]
    refine Wi.gtrC (fun hgt => Wi.tru (h1 (tog_none1 hix hgt) _ h.le)) fun hle => Wi.fls (Wi.add (by unfold I64; omega) (hJ _ _ hix ⟨rfl, h.tl, by omega, fun j hj => ?_⟩))
    by_cases e : j = i
    · subst e; omega
    · exact hall j (by omega)
  have : i = xs.length := by omega
  subst this
  have hp := comTo_pos hf (Nat.le_refl xs.length)
  refine Wl.len h ?_
  refine W.for_rule xs.length (fun i s H => ∃ u, s = (u, .int .i64 (i : Nat), ()) ∧ Ab.Loc H0 [.grow Rd.int 2 u ((xs.take i).map (comNum (comTo xs xs.length))), .lent RFS [v] xs] H ∧ ∀ j (hj : j < xs.length), j < i → inR (-n) n (comNum (comTo xs xs.length) xs[j]) = true) ⟨_, rfl, h.nilG Rd.int 2, fun j _ hj => by omega⟩ ?_
  rintro i s H J2 hi ⟨u, rfl, h, hok⟩ hJ2
  refine Wi.lssC (fun hlt => Wi.tru ?_) fun hge => Wi.fls ?_
  · have hix : i < xs.length := by omega
    obtain ⟨k1, k2, k3, k4⟩ := fr_den hf hix
    obtain ⟨o1, o2⟩ := comNum_i64 (a := xs[i]) ⟨hp, by omega⟩ k1 ⟨k3, k4⟩
    refine Wl.atFr h hix fun _ _ => Wl.new h fun H b h => Wl.putA (vs := frC xs[i]) h rfl rfl rfl fun H h => Wi.fieldAddr0 (Wl.get h rfl (Wi.fieldAddr0 (Wl.get h rfl (Wi.quo (by omega) o1 (Wi.mul o2 (Wi.call (fn118 (by unfold I64; omega) (Wi.not ?_))))))))
    have h := h.tl
    have en : xs[i].1 * (comTo xs xs.length).tdiv xs[i].2 = comNum (comTo xs xs.length) xs[i] := rfl
    rw [en] at o2 ⊢
    cases hin : inR (-n) n (comNum (comTo xs xs.length) xs[i]) with
    | false => exact Wi.tru (h1 (tog_none2 hix hin) _ h.le)
    | true =>
      refine Wi.fls (Wl.pushP (r := Rd.int) (x := comNum (comTo xs xs.length) xs[i]) rfl rfl rfl (fun _ => ⟨rfl, rfl, o2⟩) h (by simp; omega) fun H u' h => Wi.add (by unfold I64; omega) (hJ2 _ _ hix ⟨u', rfl, ?_, fun j hj hji => ?_⟩))
      · rw [List.take_succ_eq_append_getElem hix, List.map_append]
        exact h
      · by_cases e : j = i
        · subst e; exact hin
        · exact hok j hj (by omega)
  · have : i = xs.length := by omega
    subst this
    rw [List.take_length] at h
    exact h2 _ _ (tog_some hall fun j hj => hok j hj hj) _ _ (h.retGG (i := 0) rfl)

theorem fn103 {H0 : Heap} {Q : Post} {v : Value} {xs : List Frac} (hr : Has RFS H0 [v] xs) (hf : Frs xs) (hl : xs.length ≤ 1048576)
    (h1 : tog 1000000000 1000000000000 xs = none → ∀ H', H0.Le H' → Q (.tuple #[.slice none 0 0, .int .i64 0, .bool false]) H')
    (h2 : ∀ l d, tog 1000000000 1000000000000 xs = some (l, d) → ∀ H' u, FreshG Rd.int 2 H0 u l H' → Q (.tuple #[u, .int .i64 d, .bool true]) H') : Runs Tryz.prog 103 #[v] H0 Q := by
  refine f103.enter ?_
  unfold f103.w
  refine W.for_rule xs.length (fun i s H => s = (.int .i64 (comTo xs i), .int .i64 (i : Nat), ()) ∧ Ab.Loc H0 [.lent RFS [v] xs] H ∧ comTo xs i ≤ 1000000000 ∧ ∀ j, j < i → comTo xs (j + 1) ≤ 1000000000) ⟨rfl, (Loc.start H0).lent hr, by simp [comTo], fun j hj => by omega⟩ ?_
  rintro i s H J hi ⟨rfl, h, hd, hall⟩ hJ
  refine Wl.len h (Wi.lssC (fun hlt => Wi.tru ?_) fun hge => Wi.fls ?_)
  · have hix : i < xs.length := by omega
    obtain ⟨f1, f2, f3, f4, f5⟩ := comTo_fit hf hix (Int.le_refl _) hd
    refine Wl.denFr h hix fun _ => Wi.callQ (fn120 f1 f2 ⟨.refl _, Wi.quo f3 f4 (Wl.denFr h hix fun _ => Wi.mul f5 ?_)⟩)
    rw [← comTo_step hix]
    refine Wi.gtrC (fun hgt => Wi.tru (h1 (tog_none1 hix hgt) _ h.le)) fun hle => Wi.fls (Wi.add (by unfold I64; omega) (hJ _ _ hix ⟨rfl, h, by omega, fun j hj => ?_⟩))
    by_cases e : j = i
    · subst e; omega
    · exact hall j (by omega)
  have : i = xs.length := by omega
  subst this
  have hp := comTo_pos hf (Nat.le_refl xs.length)
  refine Wl.lit0 Rd.int rfl h fun H u h => ?_
  refine W.for_rule xs.length (fun i s H => ∃ u, s = (u, .int .i64 (i : Nat), ()) ∧ Ab.Loc H0 [.grow Rd.int 2 u ((xs.take i).map (comNum (comTo xs xs.length))), .lent RFS [v] xs] H ∧ ∀ j (hj : j < xs.length), j < i → inR (-1000000000000) 1000000000000 (comNum (comTo xs xs.length) xs[j]) = true) ⟨_, rfl, h, fun j _ hj => by omega⟩ ?_
  rintro i s H J2 hi ⟨u, rfl, h, hok⟩ hJ2
  refine Wl.len h (Wi.lssC (fun hlt => Wi.tru ?_) fun hge => Wi.fls ?_)
  · have hix : i < xs.length := by omega
    obtain ⟨k1, k2, k3, k4⟩ := fr_den hf hix
    obtain ⟨o1, o2⟩ := comNum_i64 (a := xs[i]) ⟨hp, by omega⟩ k1 ⟨k3, k4⟩
    refine Wl.numFr h hix fun _ => Wl.denFr h hix fun _ => Wi.quo (by omega) o1 (Wi.mul o2 (Wi.call (fn77 (Wi.not ?_))))
    have en : xs[i].1 * (comTo xs xs.length).tdiv xs[i].2 = comNum (comTo xs xs.length) xs[i] := rfl
    rw [en] at o2 ⊢
    cases hin : inR (-1000000000000) 1000000000000 (comNum (comTo xs xs.length) xs[i]) with
    | false => exact Wi.tru (h1 (tog_none2 hix hin) _ h.le)
    | true =>
      refine Wi.fls (Wl.pushP (r := Rd.int) (x := comNum (comTo xs xs.length) xs[i]) rfl rfl rfl (fun _ => ⟨rfl, rfl, o2⟩) h (by simp; omega) fun H u' h => Wi.add (by unfold I64; omega) (hJ2 _ _ hix ⟨u', rfl, ?_, fun j hj hji => ?_⟩))
      · rw [List.take_succ_eq_append_getElem hix, List.map_append]
        exact h
      · by_cases e : j = i
        · subst e; exact hin
        · exact hok j hj (by omega)
  · have : i = xs.length := by omega
    subst this
    rw [List.take_length] at h
    exact h2 _ _ (tog_some hall fun j hj => hok j hj hj) _ _ (h.retGG (i := 0) rfl)

end Go.Proofs.YtdchibdcfdbcpaaGreat

/-! The contract of isFeasible. No condition. -/
namespace Go.Proofs.YtdchibdcfdbcpaaGreat
open Go.Ab

/- loop.example/g01343/impl.isFeasible -/
def f63.w (Q : Post) (point_0 : Value) (H : Heap) : Prop :=
  W.call Tryz.prog (.func (.func 108) #[] #[]) #[point_0, (.func (.func 109) #[] #[])] H fun v1 H =>
  W.un .not v1 H fun v2 H =>
  Q v2 H
theorem f63.enter {Q : Post} {point_0 : Value} {H : Heap} (h : f63.w Q point_0 H) : Runs Tryz.prog 63 #[point_0] H Q :=
  fn_enter (ann := []) (by kernel_rfl) Tryz.func63 rfl (by kernel_rfl) h (by kernel_rfl)

/- loop.example/g01343/impl.isFeasible$1 -/
def f109.w (Q : Post) (n_0 : Value) (H : Heap) : Prop :=
  W.bin .lss n_0 (.int .i64 0) H fun v1 H =>
  Q v1 H
theorem f109.enter {Q : Post} {n_0 : Value} {H : Heap} (h : f109.w Q n_0 H) : Runs Tryz.prog 109 #[n_0] H Q :=
  fn_enter (ann := []) (by kernel_rfl) Tryz.func109 rfl (by kernel_rfl) h (by kernel_rfl)


theorem fn63 {H0 : Heap} {Q : Post} {v : Value} {l : List Int} (hr : Has RS H0 [v] l) (hQ : ∀ H' t, H0.Le H' → (t = true ↔ ∀ a ∈ l, 0 ≤ a) → Q (.bool t) H') : Runs Tryz.prog 63 #[v] H0 Q := by
  obtain ⟨bs, hr⟩ := hr
  refine f63.enter (Wi.call (contains108 _ _ _ _ _ (fun x => decide (x < 0)) _ hr ?_ fun H2 l2 => Wi.not (hQ _ _ l2 ?_)))
  · intro H' bs u x K l hr hK
    obtain ⟨_, hu, _⟩ := hr
    simp only [List.cons.injEq, and_true] at hu
    subst hu
    exact Wi.callV (f109.enter (Wi.lss (hK _ (.refl _))))
  · simp only [Bool.not_eq_true', List.any_eq_false, decide_eq_true_eq, Int.not_lt]

end Go.Proofs.YtdchibdcfdbcpaaGreat

/-! The contract of the program's IsPlace. No condition. -/
namespace Go.Proofs.YtdchibdcfdbcpaaGreat
open Go.Ab

/- (loop.example/g01343/impl.Program).at -/
def f90.w (Q : Post) (p_0 : Value) (x_1 : Value) (most_2 : Value) (parts_3 : Value) (H : Heap) : Prop :=
  W.box p_0 27 H fun v1 H =>
  W.getN 4 v1 H fun v2 H =>
  W.call Tryz.prog (.func (.func 28) #[] #[]) #[v2] H fun v3 H =>
  W.un .not v3 H fun v4 H =>
  W.guarded v4 false (fun H k => k x_1 H) H fun v5 H =>
  W.guarded v4 false (fun H k => W.call Tryz.prog (.func (.func 80) #[] #[]) #[v5] H k) H fun v6 H =>
  W.guarded v4 false (fun H k => W.un .not v6 H k) H fun v7 H =>
  W.pick v4 (.bool true) v7 H fun v8 H =>
  W.cond v8 H
  (fun H => Q (.tuple #[(.slice none 0 0), (.int .i64 0), (.int .i64 1)]) H)
  (fun H => W.len x_1 H fun v9 H =>
   W.fieldAddr 1 v1 H fun v10 H =>
   W.get v10 H fun v11 H =>
   W.len v11 H fun v12 H =>
   W.bin .neq v9 v12 H fun v13 H =>
   W.cond v13 H
   (fun H => Q (.tuple #[(.slice none 0 0), (.int .i64 0), (.int .i64 2)]) H)
   (fun H => W.call Tryz.prog (.func (.func 121) #[] #[]) #[x_1, most_2, parts_3] H fun v14 H =>
    W.extract 0 v14 H fun v15 H =>
    W.extract 1 v14 H fun v16 H =>
    W.extract 2 v14 H fun v17 H =>
    W.un .not v17 H fun v18 H =>
    W.cond v18 H
    (fun H => Q (.tuple #[(.slice none 0 0), (.int .i64 0), (.int .i64 3)]) H)
    (fun H => Q (.tuple #[v15, v16, (.int .i64 0)]) H)))
theorem f90.enter {Q : Post} {p_0 : Value} {x_1 : Value} {most_2 : Value} {parts_3 : Value} {H : Heap} (h : f90.w Q p_0 x_1 most_2 parts_3 H) : Runs Tryz.prog 90 #[p_0, x_1, most_2, parts_3] H Q :=
  fn_enter (ann := []) (by kernel_rfl) Tryz.func90 rfl (by kernel_rfl) h (by kernel_rfl)

/- loop.example/g01343/impl.IsPlace -/
def f30.l1 (Q : Post) (v10 : Value) (v9 : Value) (v4 : Value) (v1 : Value) (v5 : Value) (I1 : St [24] → Heap → Prop) (x_24 : Value) (H : Heap) : Prop :=
  W.bin .lss x_24 v10 H fun v11 H =>
  W.cond v11 H
  (fun H => W.indexAddr 1 v9 x_24 H fun v12 H =>
   W.get v12 H fun v13 H =>
   W.callQ Tryz.prog (.func (.func 67) #[] #[]) #[v13, v4] H fun v14 H =>
   W.fieldAddr 3 v1 H fun v15 H =>
   W.get v15 H fun v16 H =>
   W.indexAddr 1 v16 x_24 H fun v17 H =>
   W.get v17 H fun v18 H =>
   W.bin .mul v18 v5 H fun v19 H =>
   W.bin .lss v14 v19 H fun v20 H =>
   W.cond v20 H
   (fun H => Q (.tuple #[(.bool false), (.int .i64 0)]) H)
   (fun H => W.bin .add x_24 (.int .i64 1) H fun v21 H =>
    I1 (v21, ()) H))
  (fun H => W.call Tryz.prog (.func (.func 63) #[] #[]) #[v4] H fun v22 H =>
   Q (.tuple #[v22, (.int .i64 0)]) H)
def f30.w (Q : Post) (p_0 : Value) (x_1 : Value) (H : Heap) : Prop :=
  W.box p_0 27 H fun v1 H =>
  W.getN 4 v1 H fun v2 H =>
  W.call Tryz.prog (.func (.func 90) #[] #[]) #[v2, x_1, (.int .i64 1000000000), (.int .i64 1000000000000)] H fun v3 H =>
  W.extract 0 v3 H fun v4 H =>
  W.extract 1 v3 H fun v5 H =>
  W.extract 2 v3 H fun v6 H =>
  W.bin .neq v6 (.int .i64 0) H fun v7 H =>
  W.cond v7 H
  (fun H => Q (.tuple #[(.bool false), v6]) H)
  (fun H => W.fieldAddr 2 v1 H fun v8 H =>
   W.get v8 H fun v9 H =>
   W.len v9 H fun v10 H =>
   W.loop (S := St [24]) (fun I1 s H => f30.l1 Q v10 v9 v4 v1 v5 I1 s.1 H) ((.int .i64 0), ()) H)
theorem f30.enter {Q : Post} {p_0 : Value} {x_1 : Value} {H : Heap} (h : f30.w Q p_0 x_1 H) : Runs Tryz.prog 30 #[p_0, x_1] H Q :=
  fn_enter (ann := [(5, [24])]) (by kernel_rfl) Tryz.func30 rfl (by kernel_rfl) h (by kernel_rfl)


theorem tog_facts {m n : Int} {xs : List Frac} (hf : Frs xs) (hm : 1 ≤ m) {l : List Int} {d : Int} (h : tog m n xs = some (l, d)) : l.length = xs.length ∧ 1 ≤ d ∧ d ≤ m ∧ ∀ a ∈ l, -n ≤ a ∧ a ≤ n := by
  unfold tog at h
  split at h
  · rename_i g
    simp only [Option.some.injEq, Prod.mk.injEq] at h
    obtain ⟨rfl, rfl⟩ := h
    refine ⟨by simp, comTo_pos hf (Nat.le_refl _), ?_, fun a ha => ?_⟩
    · cases hx : xs.length with
      | zero => simp [comTo]; omega
      | succ k =>
        have := g.1 k (by omega)
        exact this
    · obtain ⟨b, hb, rfl⟩ := List.mem_map.1 ha
      exact g.2 b hb
  · cases h

/-- The numbers make a place. -/
def plOK (p : Prg) (l : List Int) (d : Int) : Prop := (∀ j, j < p.2.2.1.length → p.2.2.2.getD j 0 * d ≤ dot (p.2.2.1.getD j []) l) ∧ ∀ a ∈ l, 0 ≤ a

noncomputable def plRes (p : Prg) (xs : List Frac) : Bool × Int := open Classical in
  if IsPrg p ∧ Frs xs then (if xs.length = p.2.1.length then (match tog 1000000000 1000000000000 xs with | none => (false, 3) | some (l, d) => (decide (plOK p l d), 0)) else (false, 2)) else (false, 1)

theorem abs12 {n : Int} {k : Nat} {l : List Int} (h : ∀ a ∈ l, -n ≤ a ∧ a ≤ n) (hk : n = k) : ∀ a ∈ l, a.natAbs ≤ k := fun a ha => by have := h a ha; omega

theorem fn90 {H0 : Heap} {Q : Post} {cs : List Value} {vx : Value} {p : Prg} {xs : List Frac} {m n : Int} (hr : Has RPrg H0 cs p) (hx : Has RFS H0 [vx] xs) (hw : wPrg p ≤ 1048576) (hl : xs.length ≤ 1048576) (hm : 1 ≤ m ∧ m ≤ 1000000000) (hn : 0 ≤ n ∧ n ≤ 1000000000000)
    (e1 : ¬ (IsPrg p ∧ Frs xs) → ∀ H', H0.Le H' → Q (.tuple #[.slice none 0 0, .int .i64 0, .int .i64 1]) H')
    (e2 : IsPrg p → Frs xs → xs.length ≠ p.2.1.length → ∀ H', H0.Le H' → Q (.tuple #[.slice none 0 0, .int .i64 0, .int .i64 2]) H')
    (e3 : IsPrg p → Frs xs → xs.length = p.2.1.length → tog m n xs = none → ∀ H', H0.Le H' → Q (.tuple #[.slice none 0 0, .int .i64 0, .int .i64 3]) H')
    (e4 : IsPrg p → Frs xs → xs.length = p.2.1.length → ∀ l d, tog m n xs = some (l, d) → ∀ H' u, Fresh RS H0 [u] l H' → Q (.tuple #[u, .int .i64 d, .int .i64 0]) H') :
    Runs Tryz.prog 90 #[.agg cs.toArray, vx, .int .i64 m, .int .i64 n] H0 Q := by
  obtain ⟨u1, u2, u3, u4, rfl, r1, r2, r3, r4⟩ := hasPrg hr
  refine f90.enter ?_
  unfold f90.w
  have h := (((Loc.start H0).lent hx).lent r2).lent hr
  refine Wl.box h fun H b h => Wl.getA h rfl (Wi.call (fn28 (h.rd (cs := [u1, u2, u3, u4])) hw fun H t l ht => ?_))
  have h := h.to l
  cases t with
  | false =>
    simp only [gw]
    exact e1 (fun g => Bool.noConfusion (ht.2 g.1)) _ h.le
  | true =>
  have hp := ht.1 rfl
  simp only [gw]
  refine Wi.call (fn80 (h.rd (cs := [vx])) fun H t l hf => ?_)
  have h := h.to l
  cases t with
  | false =>
    simp only [gw]
    exact e1 (fun g => Bool.noConfusion (hf.2 g.2)) _ h.le
  | true =>
  have hf := hf.1 rfl
  simp only [gw]
  refine Wl.len h (Wi.fieldAddr0 (Wl.get h rfl (Wl.len h (Wi.neqC (fun hne => Wi.tru (e2 hp hf (fun g => hne (by rw [g])) _ h.le)) fun he => Wi.fls ?_))))
  have he : xs.length = p.2.1.length := by omega
  refine Wi.call (fn121 (h.rd (cs := [vx])) hf hl hm hn (fun g H l => ?_) fun l d g H u f => ?_)
  · have h := h.to l
    simp only [gw]
    exact e3 hp hf he g _ h.le
  · have h := h.add f.fresh
    simp only [gw]
    exact e4 hp hf he _ _ g _ _ (h.ret (i := 0) rfl)

theorem fn30 {H0 : Heap} {Q : Post} {cs : List Value} {vx : Value} {p : Prg} {xs : List Frac} (hr : Has RPrg H0 cs p) (hx : Has RFS H0 [vx] xs) (hw : wPrg p ≤ 1048576) (hl : xs.length ≤ 1048576)
    (hQ : ∀ H', H0.Le H' → Q (.tuple #[.bool (plRes p xs).1, .int .i64 (plRes p xs).2]) H') : Runs Tryz.prog 30 #[.agg cs.toArray, vx] H0 Q := by
  obtain ⟨u1, u2, u3, u4, rfl, r1, r2, r3, r4⟩ := hasPrg hr
  refine f30.enter ?_
  unfold f30.w
  have hz : ∀ H t c, H0.Le H → plRes p xs = (t, c) → Q (.tuple #[.bool t, .int .i64 c]) H := fun H t c l e => by
    have := hQ H l
    rw [e] at this
    exact this
  have h := ((((Loc.start H0).lent hx).lent r4).lent r3).lent hr
  refine Wl.box h fun H b h => Wl.getA h rfl (Wi.call (fn90 (h.rd (cs := [u1, u2, u3, u4])) (h.rd (cs := [vx])) hw hl (by omega) (by omega) (fun g H l => ?_) (fun hp hf g H l => ?_) (fun hp hf he g H l => ?_) fun hp hf he l d g H u f => ?_))
  · have h := h.to l
    simp only [gw]
    exact Wi.neqC (fun _ => Wi.tru (hz _ _ _ h.le (by simp only [plRes, if_neg g]))) fun e => absurd e (by decide)
  · have h := h.to l
    simp only [gw]
    exact Wi.neqC (fun _ => Wi.tru (hz _ _ _ h.le (by simp only [plRes, if_pos (And.intro hp hf), if_neg g]))) fun e => absurd e (by decide)
  · have h := h.to l
    simp only [gw]
    exact Wi.neqC (fun _ => Wi.tru (hz _ _ _ h.le (by simp only [plRes, if_pos (And.intro hp hf), if_pos he, g]))) fun e => absurd e (by decide)
  have h := h.add f
  have hres : ∀ t : Bool, (t = true ↔ plOK p l d) → plRes p xs = (t, 0) := fun t ht => by
    simp only [plRes, if_pos (And.intro hp hf), if_pos he, g]
    congr 1
    rw [Bool.eq_iff_iff, ht]
    simp
  obtain ⟨f1, f2, f3, f4⟩ := tog_facts hf (by omega) g
  have fa := abs12 (k := 1000000000000) f4 rfl
  have n1 := hp.n1; have nm := hp.nm; have dl := hp.dl; have al := hp.al
  simp only [gw]
  refine Wi.neqC (fun e => absurd rfl e) fun _ => Wi.fls (Wi.fieldAddr0 (Wl.get h rfl (Wl.len h ?_)))
  refine W.all_rule p.2.2.1.length (fun j => decide (p.2.2.2.getD j 0 * d ≤ dot (p.2.2.1.getD j []) l)) (fun j H1 J hj _ l1 hJ => ?_) fun H1 J hall l1 => ?_
  · have h := h.to l1
    have hjb : j < p.2.2.2.length := by omega
    have ha := hp.a _ (List.getElem_mem hj)
    have hb := hp.b _ (List.getElem_mem hjb)
    have haa : ∀ e ∈ p.2.2.1[j], e.natAbs ≤ 20 := fun e he => by have := ha.2 e he; omega
    have h5 := mul5 (n := p.2.2.1[j].length) (N := 20 * 1000000000000) (by omega)
    have hbd : (p.2.2.2[j] * d).natAbs ≤ 100 * 1000000000 := mul_abs (by omega) (by omega)
    refine Wi.lssC (fun _ => Wi.tru ?_) fun h => by omega
    refine Wl.at1 rfl h hj fun w hw => Wi.callQ (fn67 hw (h.rd (cs := [u])) (by omega) haa fa (by omega) ⟨.refl _, ?_⟩)
    refine Wi.fieldAddr0 (Wl.get h rfl (Wl.atInt h hjb fun _ => Wi.mul (by unfold I64; omega) (Wi.lssC (fun hlt => Wi.tru ?_) fun hge => Wi.fls (Wi.add (by unfold I64; omega) (hJ ?_ _ (.refl _))))))
    · refine hz _ _ _ h.le (hres false ⟨fun e => Bool.noConfusion e, fun g => ?_⟩)
      have := g.1 j hj
      rw [getD_at hjb, getD_row hj] at this
      omega
    · rw [getD_at hjb, getD_row hj]
      exact decide_eq_true (by omega)
  · have h := h.to l1
    refine Wi.lssC (fun h => by omega) fun _ => Wi.fls (Wi.call (fn63 (h.rd (cs := [u])) fun H2 t l2 ht => ?_))
    exact hz _ _ _ (h.le.trans l2) (hres t ⟨fun e => ⟨fun j hj => of_decide_eq_true (hall j hj), ht.1 e⟩, fun g => ht.2 g.2⟩)

end Go.Proofs.YtdchibdcfdbcpaaGreat

/-! The contract of the program's ValueAt. No condition. -/
namespace Go.Proofs.YtdchibdcfdbcpaaGreat
open Go.Ab

theorem tog_small {xs : List Frac} (hf : Frs xs) {l : List Int} {d : Int} : tog 10000 10000000 xs = some (l, d) ↔ tog 1000000000 1000000000000 xs = some (l, d) ∧ d ≤ 10000 ∧ ∀ a ∈ l, -10000000 ≤ a ∧ a ≤ 10000000 := by
  unfold tog
  constructor
  · intro h
    split at h
    · rename_i g
      simp only [Option.some.injEq, Prod.mk.injEq] at h
      obtain ⟨rfl, rfl⟩ := h
      refine ⟨?_, ?_, fun a ha => ?_⟩
      · rw [if_pos ⟨fun i hi => by have := g.1 i hi; omega, fun a ha => by have := g.2 a ha; omega⟩]
      · cases hx : xs.length with
        | zero => simp [comTo]
        | succ k => exact g.1 k (by omega)
      · obtain ⟨b, hb, rfl⟩ := List.mem_map.1 ha
        exact g.2 b hb
    · cases h
  · rintro ⟨h, hd, hl⟩
    split at h
    · rename_i g
      simp only [Option.some.injEq, Prod.mk.injEq] at h
      obtain ⟨rfl, rfl⟩ := h
      have g1 : okDen 10000 xs := fun i hi => by
        have := comTo_mono hf (i := i + 1) (d := xs.length - (i + 1)) (by omega)
        rw [show i + 1 + (xs.length - (i + 1)) = xs.length by omega] at this
        exact Int.le_trans this hd
      rw [if_pos ⟨g1, fun a ha => hl _ (List.mem_map.2 ⟨a, ha, rfl⟩)⟩]
    · cases h


/- loop.example/g01343/impl.ValueAt -/
def f21.w (Q : Post) (p_0 : Value) (x_1 : Value) (H : Heap) : Prop :=
  W.box p_0 27 H fun v1 H =>
  W.new [(.int .i64 0), (.int .i64 0)] 34 H fun v2 H =>
  W.getN 4 v1 H fun v3 H =>
  W.call Tryz.prog (.func (.func 90) #[] #[]) #[v3, x_1, (.int .i64 10000), (.int .i64 10000000)] H fun v4 H =>
  W.extract 0 v4 H fun v5 H =>
  W.extract 1 v4 H fun v6 H =>
  W.extract 2 v4 H fun v7 H =>
  W.bin .neq v7 (.int .i64 0) H fun v8 H =>
  W.cond v8 H
  (fun H => W.build [(.int .i64 0), (.int .i64 0)] [] H fun v9 H =>
   W.putN 2 v2 v9 H fun _ H =>
   W.getN 2 v2 H fun v10 H => Q (.tuple #[v10, v7]) H)
  (fun H => W.fieldAddr 0 v1 H fun v11 H =>
   W.get v11 H fun v12 H =>
   W.callQ Tryz.prog (.func (.func 86) #[] #[]) #[v12, v5, v5] H fun v13 H =>
   W.bin .mul (.int .i64 2) v6 H fun v14 H =>
   W.fieldAddr 1 v1 H fun v15 H =>
   W.get v15 H fun v16 H =>
   W.callQ Tryz.prog (.func (.func 67) #[] #[]) #[v16, v5] H fun v17 H =>
   W.bin .mul v14 v17 H fun v18 H =>
   W.bin .add v13 v18 H fun v19 H =>
   W.bin .mul (.int .i64 2) v6 H fun v20 H =>
   W.bin .mul v20 v6 H fun v21 H =>
   W.callQ Tryz.prog (.func (.func 66) #[] #[]) #[v19, v21] H fun v22 H =>
   W.extract 0 v22 H fun v23 H =>
   W.extract 1 v22 H fun v24 H =>
   W.putN 2 v2 v23 H fun _ H =>
   W.getN 2 v2 H fun v25 H => Q (.tuple #[v25, v24]) H)
theorem f21.enter {Q : Post} {p_0 : Value} {x_1 : Value} {H : Heap} (h : f21.w Q p_0 x_1 H) : Runs Tryz.prog 21 #[p_0, x_1] H Q :=
  fn_enter (ann := []) (by kernel_rfl) Tryz.func21 rfl (by kernel_rfl) h (by kernel_rfl)


/-- Twice the value times the denominator twice. -/
def vaNum (p : Prg) (l : List Int) (d : Int) : Int := formV p.1 l l + 2 * d * dot p.2.1 l

noncomputable def vaRes (p : Prg) (xs : List Frac) : Frac × Int := open Classical in
  if IsPrg p ∧ Frs xs then (if xs.length = p.2.1.length then (match tog 10000 10000000 xs with | none => ((0, 0), 3) | some (l, d) => fracT (vaNum p l d) (2 * d * d)) else ((0, 0), 2)) else ((0, 0), 1)

theorem abs7 {l : List Int} (h : ∀ a ∈ l, -10000000 ≤ a ∧ a ≤ 10000000) : ∀ a ∈ l, a.natAbs ≤ 10000000 := fun a ha => by have := h a ha; omega

theorem va_bounds {p : Prg} (hp : IsPrg p) {l : List Int} {d : Int} (hl : l.length = p.2.1.length) (hd : 1 ≤ d ∧ d ≤ 10000) (ha : ∀ a ∈ l, a.natAbs ≤ 10000000) :
    (formV p.1 l l).natAbs ≤ 50000000000000000 ∧ (dot p.2.1 l).natAbs ≤ 5000000000 ∧ (2 * d * dot p.2.1 l).natAbs ≤ 20000 * 5000000000 ∧ (2 * d * d).natAbs ≤ 20000 * 10000 := by
  have n1 := hp.n1; have nm := hp.nm; have dl := hp.dl
  have hr : ∀ r ∈ p.1, r.length ≤ 5 ∧ ∀ e ∈ r, e.natAbs ≤ 20 := fun r hr => ⟨by have := (hp.d r hr).1; omega, fun e he => by have := (hp.d r hr).2 e he; omega⟩
  have hc : ∀ e ∈ p.2.1, e.natAbs ≤ 100 := fun e he => by have := hp.c e he; omega
  have h1 : (formV p.1 l l).natAbs ≤ p.1.length * (10000000 * (5 * (20 * 10000000))) := sumTo_abs fun i _ => mul_abs (getD_abs ha i) (row_dot hr ha i)
  have h2 := dot_abs hc ha
  have h3 := mul5 (n := p.1.length) (N := 10000000 * (5 * (20 * 10000000))) (by omega)
  have h4 := mul5 (n := p.2.1.length) (N := 100 * 10000000) (by omega)
  have h5 : (dot p.2.1 l).natAbs ≤ 5000000000 := by omega
  exact ⟨by omega, h5, mul_abs (by omega) h5, mul_abs (by omega) (by omega)⟩

theorem fn21 {H0 : Heap} {Q : Post} {cs : List Value} {vx : Value} {p : Prg} {xs : List Frac} (hr : Has RPrg H0 cs p) (hx : Has RFS H0 [vx] xs) (hw : wPrg p ≤ 1048576) (hl : xs.length ≤ 1048576)
    (hQ : ∀ H', H0.Le H' → Q (.tuple #[.agg (frC (vaRes p xs).1).toArray, .int .i64 (vaRes p xs).2]) H') : Runs Tryz.prog 21 #[.agg cs.toArray, vx] H0 Q := by
  obtain ⟨u1, u2, u3, u4, rfl, r1, r2, r3, r4⟩ := hasPrg hr
  refine f21.enter ?_
  unfold f21.w
  have hz : ∀ H (a : Frac) c, H0.Le H → vaRes p xs = (a, c) → Q (.tuple #[.agg (frC a).toArray, .int .i64 c]) H := fun H a c l e => by
    have := hQ H l
    rw [e] at this
    exact this
  have h := ((((Loc.start H0).lent hx).lent r2).lent r1).lent hr
  refine Wl.box h fun H b h => Wl.new h fun H b2 h => Wl.getA h rfl (Wi.call (fn90 (h.rd (cs := [u1, u2, u3, u4])) (h.rd (cs := [vx])) hw hl (by omega) (by omega) (fun g H l => ?_) (fun hp hf g H l => ?_) (fun hp hf he g H l => ?_) fun hp hf he l d g H u f => ?_))
  · have h := h.to l
    simp only [gw]
    exact Wi.neqC (fun _ => Wi.tru (Wi.build (cells := frC (0, 0)) rfl (Wl.putA h rfl rfl rfl fun H h => Wl.getA h rfl (hz _ _ _ h.le (by simp only [vaRes, if_neg g]))))) fun e => absurd e (by decide)
  · have h := h.to l
    simp only [gw]
    exact Wi.neqC (fun _ => Wi.tru (Wi.build (cells := frC (0, 0)) rfl (Wl.putA h rfl rfl rfl fun H h => Wl.getA h rfl (hz _ _ _ h.le (by simp only [vaRes, if_pos (And.intro hp hf), if_neg g]))))) fun e => absurd e (by decide)
  · have h := h.to l
    simp only [gw]
    exact Wi.neqC (fun _ => Wi.tru (Wi.build (cells := frC (0, 0)) rfl (Wl.putA h rfl rfl rfl fun H h => Wl.getA h rfl (hz _ _ _ h.le (by simp only [vaRes, if_pos (And.intro hp hf), if_pos he, g]))))) fun e => absurd e (by decide)
  have h := h.add f
  obtain ⟨f1, f2, f3, f4⟩ := tog_facts hf (by omega) g
  have fa := abs7 f4
  have n1 := hp.n1; have nm := hp.nm; have dl := hp.dl
  obtain ⟨b1, b2', b3, b4⟩ := va_bounds hp (f1.trans he) ⟨f2, f3⟩ fa
  have hres : vaRes p xs = fracT (vaNum p l d) (2 * d * d) := by simp only [vaRes, if_pos (And.intro hp hf), if_pos he, g]
  have hM : ∀ r ∈ p.1, (r.length ≤ 5 ∧ ∀ e ∈ r, e.natAbs ≤ 20) ∧ r.length ≤ l.length := fun r hr => by
    have := hp.d r hr
    exact ⟨⟨by omega, fun e he => by have := this.2 e he; omega⟩, by omega⟩
  have hca : ∀ e ∈ p.2.1, e.natAbs ≤ 100 := fun e he => by have := hp.c e he; omega
  have h5 := mul5 (n := p.1.length) (N := 10000000 * (5 * (20 * 10000000))) (by omega)
  have h6 := mul5 (n := p.2.1.length) (N := 100 * 10000000) (by omega)
  have hd0 : 2 * d * d ≠ 0 := by
    have : 0 < 2 * d * d := Int.mul_pos (by omega) (by omega)
    omega
  simp only [gw]
  refine Wi.neqC (fun e => absurd rfl e) fun _ => Wi.fls (Wi.fieldAddr0 (Wl.get h rfl (Wi.callQ (fn86 (N := 5) (M := 20) (X := 10000000) (Y := 10000000) (h.rd (cs := [u1])) (h.rd (cs := [u])) (h.rd (cs := [u])) (by omega) hM fa fa (by omega) (by omega) ⟨.refl _, ?_⟩))))
  refine Wi.mul (by unfold I64; omega) (Wi.fieldAddr0 (Wl.get h rfl (Wi.callQ (fn67 (h.rd (cs := [u2])) (h.rd (cs := [u])) (by omega) hca fa (by omega) ⟨.refl _, ?_⟩))))
  refine Wi.mul (by unfold I64; omega) (Wi.add (by unfold I64; omega) (Wi.mul (by unfold I64; omega) (Wi.mul (by unfold I64; omega) ?_)))
  refine Wi.callQ (fn66 (by unfold B64; omega) (by unfold B64; omega) hd0 fun H l2 => ⟨l2, ?_⟩)
  have h := h.to l2
  simp only [g11, g12]
  refine Wl.putA (vs := frC _) h rfl rfl rfl fun H h => Wl.getA h rfl ?_
  have := hQ _ h.le
  rw [hres] at this
  exact this

end Go.Proofs.YtdchibdcfdbcpaaGreat
