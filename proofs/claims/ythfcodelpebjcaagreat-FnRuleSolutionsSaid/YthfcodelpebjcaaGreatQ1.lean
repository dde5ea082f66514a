/- Contracts of areFracs, together and l01Common. No condition. -/
import Derived.Test.YthfcodelpebjcaaGreatQ0
import Derived.Test.YthfcodelpebjcaaGreatGAB
namespace Go.Proofs.YthfcodelpebjcaaGreat
open Go.Ab

/- slices.ContainsFunc[[]loop.example/g01343/impl.Frac,loop.example/g01343/impl.Frac] -/
def f144.w (Q : Post) (s_0 : Value) (f_1 : Value) (H : Heap) : Prop :=
  W.call Tryz.prog (.func (.func 148) #[] #[]) #[s_0, f_1] H fun v1 H =>
  W.bin .geq v1 (.int .i64 0) H fun v2 H =>
  Q v2 H
theorem f144.enter {Q : Post} {s_0 : Value} {f_1 : Value} {H : Heap} (h : f144.w Q s_0 f_1 H) : Runs Tryz.prog 144 #[s_0, f_1] H Q :=
  fn_enter (ann := []) (by kernel_rfl) Tryz.func144 rfl (by kernel_rfl) h (by kernel_rfl)

/- slices.IndexFunc[[]loop.example/g01343/impl.Frac,loop.example/g01343/impl.Frac] -/
def f148.l1 (Q : Post) (v1 : Value) (s_0 : Value) (f_1 : Value) (I1 : St [8] → Heap → Prop) (x_8 : Value) (H : Heap) : Prop :=
  W.bin .lss x_8 v1 H fun v2 H =>
  W.cond v2 H
  (fun H => W.indexAddr 2 s_0 x_8 H fun v3 H =>
   W.getN 2 v3 H fun v4 H =>
   W.call Tryz.prog f_1 #[v4] H fun v5 H =>
   W.cond v5 H
   (fun H => Q x_8 H)
   (fun H => W.bin .add x_8 (.int .i64 1) H fun v6 H =>
    I1 (v6, ()) H))
  (fun H => Q (.int .i64 (-1)) H)
def f148.w (Q : Post) (s_0 : Value) (f_1 : Value) (H : Heap) : Prop :=
  W.len s_0 H fun v1 H =>
  W.loop (S := St [8]) (fun I1 s H => f148.l1 Q v1 s_0 f_1 I1 s.1 H) ((.int .i64 0), ()) H
theorem f148.enter {Q : Post} {s_0 : Value} {f_1 : Value} {H : Heap} (h : f148.w Q s_0 f_1 H) : Runs Tryz.prog 148 #[s_0, f_1] H Q :=
  fn_enter (ann := [(2, [8])]) (by kernel_rfl) Tryz.func148 rfl (by kernel_rfl) h (by kernel_rfl)

/- loop.example/g01343/impl.areFracs -/
def f118.w (Q : Post) (list_0 : Value) (H : Heap) : Prop :=
  W.call Tryz.prog (.func (.func 144) #[] #[]) #[list_0, (.func (.func 145) #[] #[])] H fun v1 H =>
  W.un .not v1 H fun v2 H =>
  Q v2 H
theorem f118.enter {Q : Post} {list_0 : Value} {H : Heap} (h : f118.w Q list_0 H) : Runs Tryz.prog 118 #[list_0] H Q :=
  fn_enter (ann := []) (by kernel_rfl) Tryz.func118 rfl (by kernel_rfl) h (by kernel_rfl)

/- loop.example/g01343/impl.areFracs$1 -/
def f145.w (Q : Post) (a_0 : Value) (H : Heap) : Prop :=
  W.box a_0 92 H fun v1 H =>
  W.getN 2 v1 H fun v2 H =>
  W.call Tryz.prog (.func (.func 146) #[] #[]) #[v2] H fun v3 H =>
  W.un .not v3 H fun v4 H =>
  Q v4 H
theorem f145.enter {Q : Post} {a_0 : Value} {H : Heap} (h : f145.w Q a_0 H) : Runs Tryz.prog 145 #[a_0] H Q :=
  fn_enter (ann := []) (by kernel_rfl) Tryz.func145 rfl (by kernel_rfl) h (by kernel_rfl)

/- loop.example/g01343/impl.together -/
def f78.l2 (Q : Post) (v15 : Value) (list_0 : Value) (den_9 : Value) (parts_2 : Value) (I2 : St [12, 37] → Heap → Prop) (out_12 : Value) (x_37 : Value) (H : Heap) : Prop :=
  W.bin .lss x_37 v15 H fun v16 H =>
  W.cond v16 H
  (fun H => W.indexAddr 2 list_0 x_37 H fun v17 H =>
   W.getN 2 v17 H fun v18 H =>
   W.new [(.int .i64 0), (.int .i64 0)] 92 H fun v19 H =>
   W.putN 2 v19 v18 H fun _ H =>
   W.fieldAddr 0 v19 H fun v20 H =>
   W.get v20 H fun v21 H =>
   W.fieldAddr 1 v19 H fun v22 H =>
   W.get v22 H fun v23 H =>
   W.bin .quo den_9 v23 H fun v24 H =>
   W.bin .mul v21 v24 H fun v25 H =>
   W.call Tryz.prog (.func (.func 120) #[] #[]) #[v25, parts_2] H fun v26 H =>
   W.un .not v26 H fun v27 H =>
   W.cond v27 H
   (fun H => Q (.tuple #[(.slice none 0 0), (.int .i64 0), (.bool false)]) H)
   (fun H => W.lit 1 [(.int .i64 0)] 2 [(0, 1, v25)] H fun v28 H =>
    W.append 1 2 out_12 v28 H fun v29 H =>
    W.bin .add x_37 (.int .i64 1) H fun v30 H =>
    I2 (v29, v30, ()) H))
  (fun H => Q (.tuple #[out_12, den_9, (.bool true)]) H)
def f78.l1 (Q : Post) (v1 : Value) (list_0 : Value) (most_1 : Value) (parts_2 : Value) (I1 : St [9, 18] → Heap → Prop) (den_9 : Value) (x_18 : Value) (H : Heap) : Prop :=
  W.bin .lss x_18 v1 H fun v2 H =>
  W.cond v2 H
  (fun H => W.indexAddr 2 list_0 x_18 H fun v3 H =>
   W.getN 2 v3 H fun v4 H =>
   W.new [(.int .i64 0), (.int .i64 0)] 92 H fun v5 H =>
   W.putN 2 v5 v4 H fun _ H =>
   W.fieldAddr 1 v5 H fun v6 H =>
   W.get v6 H fun v7 H =>
   W.callQ Tryz.prog (.func (.func 119) #[] #[]) #[den_9, v7] H fun v8 H =>
   W.bin .quo den_9 v8 H fun v9 H =>
   W.fieldAddr 1 v5 H fun v10 H =>
   W.get v10 H fun v11 H =>
   W.bin .mul v9 v11 H fun v12 H =>
   W.bin .gtr v12 most_1 H fun v13 H =>
   W.cond v13 H
   (fun H => Q (.tuple #[(.slice none 0 0), (.int .i64 0), (.bool false)]) H)
   (fun H => W.bin .add x_18 (.int .i64 1) H fun v14 H =>
    I1 (v12, v14, ()) H))
  (fun H => W.len list_0 H fun v15 H =>
   W.loop (S := St [12, 37]) (fun I2 s H => f78.l2 Q v15 list_0 den_9 parts_2 I2 s.1 s.2.1 H) ((.slice none 0 0), (.int .i64 0), ()) H)
def f78.w (Q : Post) (list_0 : Value) (most_1 : Value) (parts_2 : Value) (H : Heap) : Prop :=
  W.len list_0 H fun v1 H =>
  W.loop (S := St [9, 18]) (fun I1 s H => f78.l1 Q v1 list_0 most_1 parts_2 I1 s.1 s.2.1 H) ((.int .i64 1), (.int .i64 0), ()) H
theorem f78.enter {Q : Post} {list_0 : Value} {most_1 : Value} {parts_2 : Value} {H : Heap} (h : f78.w Q list_0 most_1 parts_2 H) : Runs Tryz.prog 78 #[list_0, most_1, parts_2] H Q :=
  fn_enter (ann := [(3, [9, 18]), (11, [12, 37])]) (by kernel_rfl) Tryz.func78 rfl (by kernel_rfl) h (by kernel_rfl)


theorem fn118 {H0 : Heap} {Q : Post} {v : Value} {xs : List Frac} (hr : Has RFS H0 [v] xs) (hQ : ∀ H' t, H0.Le H' → (t = true ↔ Frs xs) → Q (.bool t) H') : Runs Tryz.prog 118 #[v] H0 Q := by
  have hs := hr.small
  refine f118.enter (Wi.call (f144.enter (Wi.call (f148.enter ?_))))
  refine Wl.lenH hr (W.all_rule xs.length (fun i => isFr 1000000000 (xs.getD i (0, 0))) (fun i H1 J hi _ l hJ => ?_) fun H1 J hall l => ?_)
  · refine Wi.lssC (fun _ => Wi.tru ?_) fun h => by omega
    have e1 := fr_at hi (0, 0)
    refine Wl.atFrH (hr.le l) hi fun _ _ => Wi.callV (f145.enter (Wl.box (Loc.start _) fun H2 b h => Wl.getA h rfl (Wi.call (fn146 fun H3 l3 => Wi.not ?_))))
    cases hf : isFr 1000000000 xs[i] with
    | false =>
      refine Wi.tru (Wi.geq ?_)
      rw [show decide ((0 : Int) ≤ (i : Nat)) = true by simp]
      refine Wi.not (hQ _ _ ((l.trans h.le).trans l3) ⟨fun e => Bool.noConfusion e, fun g => ?_⟩)
      rw [g _ (List.getElem_mem hi)] at hf
      cases hf
    | true => exact Wi.fls (Wi.add (by unfold I64; omega) (hJ (by rw [e1]; exact hf) H3 (h.le.trans l3)))
  · refine Wi.lssC (fun h => by omega) fun _ => Wi.fls (Wi.geq ?_)
    rw [show decide ((0 : Int) ≤ -1) = false by decide]
    refine Wi.not (hQ _ _ l ⟨fun _ a ha => ?_, fun _ => rfl⟩)
    obtain ⟨i, hi, rfl⟩ := List.mem_iff_getElem.1 ha
    have := hall i hi
    rw [fr_at hi] at this
    exact this


theorem tog_none1 {m n : Int} {xs : List Frac} {i : Nat} (hi : i < xs.length) (h : m < comTo xs (i + 1)) : tog m n xs = none := by
  unfold tog
  rw [if_neg]
  rintro ⟨g, _⟩
  have := g i hi
  omega

theorem tog_none2 {m n : Int} {xs : List Frac} {i : Nat} (hi : i < xs.length) (h : inR (-n) n (comNum (comTo xs xs.length) xs[i]) = false) : tog m n xs = none := by
  unfold tog
  rw [if_neg]
  rintro ⟨_, g⟩
  rw [inR_iff.2 (g _ (List.getElem_mem hi))] at h
  cases h

theorem tog_some {m n : Int} {xs : List Frac} (h1 : okDen m xs) (h2 : ∀ i (hi : i < xs.length), inR (-n) n (comNum (comTo xs xs.length) xs[i]) = true) : tog m n xs = some (xs.map (comNum (comTo xs xs.length)), comTo xs xs.length) := by
  unfold tog
  rw [if_pos]
  refine ⟨h1, fun a ha => ?_⟩
  obtain ⟨i, hi, rfl⟩ := List.mem_iff_getElem.1 ha
  exact inR_iff.1 (h2 i hi)

theorem comNum_i64 {d : Int} {a : Frac} (hd : 1 ≤ d ∧ d ≤ 1000000000) (h2 : 1 ≤ a.2) (h1 : -1000000000 ≤ a.1 ∧ a.1 ≤ 1000000000) : I64 (d.tdiv a.2) ∧ I64 (a.1 * d.tdiv a.2) := by
  have e1 : (d.tdiv a.2).natAbs ≤ 1000000000 := by
    have := Int.natAbs_tdiv_le_natAbs d a.2
    omega
  have e2 : (a.1 * d.tdiv a.2).natAbs ≤ 1000000000 * 1000000000 := by
    rw [Int.natAbs_mul]
    exact Nat.mul_le_mul (by omega) e1
  exact ⟨by unfold I64; omega, by unfold I64; omega⟩

theorem comTo_step {xs : List Frac} {i : Nat} (hi : i < xs.length) : comTo xs (i + 1) = (comTo xs i).tdiv (Int.gcd (comTo xs i) xs[i].2) * xs[i].2 := by
  simp only [comTo]
  rw [fr_at hi]
  rfl

/-- What one round of the denominators needs. -/
theorem comTo_fit {xs : List Frac} (hf : Frs xs) {i : Nat} (hi : i < xs.length) {m : Int} (hm : m ≤ 1000000000) (hd : comTo xs i ≤ m) :
    B64 (comTo xs i) ∧ B64 xs[i].2 ∧ (Int.gcd (comTo xs i) xs[i].2 : Int) ≠ 0 ∧ I64 ((comTo xs i).tdiv (Int.gcd (comTo xs i) xs[i].2)) ∧ I64 ((comTo xs i).tdiv (Int.gcd (comTo xs i) xs[i].2) * xs[i].2) := by
  have h1 := comTo_pos hf (i := i) (by omega)
  obtain ⟨h2, h3, _, _⟩ := fr_den hf hi
  have hB : B64 (comTo xs i) := by unfold B64; omega
  have hg : 0 < Int.gcd (comTo xs i) xs[i].2 := Int.gcd_pos_of_ne_zero_left _ (by omega)
  have h4 := comStep_le h1 h2 (Int.le_refl _)
  have h5 := (comStep_pos h1 h2).1
  unfold comStep at h4 h5
  have h6 : comTo xs i * xs[i].2 ≤ 1000000000 * 1000000000 := Int.mul_le_mul (by omega) h3 (by omega) (by omega)
  refine ⟨hB, by unfold B64; omega, by omega, (tdiv_B hB).i64, ?_⟩
  unfold I64
  omega

theorem fn78 {H0 : Heap} {Q : Post} {v : Value} {xs : List Frac} {m n : Int} (hr : Has RFS H0 [v] xs) (hf : Frs xs) (hl : xs.length ≤ 1048576) (hm : 1 ≤ m ∧ m ≤ 1000000000) (hn : 0 ≤ n ∧ n ≤ 1000000000000)
    (h1 : tog m n xs = none → ∀ H', H0.Le H' → Q (.tuple #[.slice none 0 0, .int .i64 0, .bool false]) H')
    (h2 : ∀ l d, tog m n xs = some (l, d) → ∀ H' u, FreshG Rd.int 2 H0 u l H' → Q (.tuple #[u, .int .i64 d, .bool true]) H') : Runs Tryz.prog 78 #[v, .int .i64 m, .int .i64 n] H0 Q := by
  refine f78.enter (Wl.lenH hr ?_)
  refine W.for_rule xs.length (fun i s H => s = (.int .i64 (comTo xs i), .int .i64 (i : Nat), ()) ∧ Ab.Loc H0 [.lent RFS [v] xs] H ∧ comTo xs i ≤ m ∧ ∀ j, j < i → comTo xs (j + 1) ≤ m) ⟨rfl, (Loc.start H0).lent hr, by simp [comTo]; omega, fun j hj => by omega⟩ ?_
  rintro i s H J hi ⟨rfl, h, hd, hall⟩ hJ
  refine Wi.lssC (fun hlt => Wi.tru ?_) fun hge => Wi.fls ?_
  · have hix : i < xs.length := by omega
    obtain ⟨f1, f2, f3, f4, f5⟩ := comTo_fit hf hix hm.2 hd
    refine Wl.atFr h hix fun _ _ => Wl.new h fun H b h => Wl.putA (vs := frC xs[i]) h rfl rfl rfl fun H h => Wi.fieldAddr0 (Wl.get h rfl (Wi.callQ (fn119 f1 f2 ⟨.refl _, Wi.quo f3 f4 (Wi.fieldAddr0 (Wl.get h rfl (Wi.mul f5 ?_)))⟩)))
    rw [← comTo_step hix]
    refine Wi.gtrC (fun hgt => Wi.tru (h1 (tog_none1 hix hgt) _ h.le)) fun hle => Wi.fls (Wi.add (by unfold I64; omega) (hJ _ _ hix ⟨rfl, h.tl, by omega, fun j hj => ?_⟩))
    by_cases e : j = i
    · subst e; omega
    · exact hall j (by omega)
  have : i = xs.length := by omega
  subst this
  have hp := comTo_pos hf (Nat.le_refl xs.length)
  refine Wl.len h ?_
  refine W.for_rule xs.length (fun i s H => ∃ u, s = (u, .int .i64 (i : Nat), ()) ∧ Ab.Loc H0 [.grow Rd.int 2 u ((xs.take i).map (comNum (comTo xs xs.length))), .lent RFS [v] xs] H ∧ ∀ j (hj : j < xs.length), j < i → inR (-n) n (comNum (comTo xs xs.length) xs[j]) = true) ⟨_, rfl, h.nilG Rd.int 2, fun j _ hj => by omega⟩ ?_
  rintro i s H J2 hi ⟨u, rfl, h, hok⟩ hJ2
  refine Wi.lssC (fun hlt => Wi.tru ?_) fun hge => Wi.fls ?_
  · have hix : i < xs.length := by omega
    obtain ⟨k1, k2, k3, k4⟩ := fr_den hf hix
    obtain ⟨o1, o2⟩ := comNum_i64 (a := xs[i]) ⟨hp, by omega⟩ k1 ⟨k3, k4⟩
    refine Wl.atFr h hix fun _ _ => Wl.new h fun H b h => Wl.putA (vs := frC xs[i]) h rfl rfl rfl fun H h => Wi.fieldAddr0 (Wl.get h rfl (Wi.fieldAddr0 (Wl.get h rfl (Wi.quo (by omega) o1 (Wi.mul o2 (Wi.call (fn120 (by unfold I64; omega) (Wi.not ?_))))))))
    have h := h.tl
    have en : xs[i].1 * (comTo xs xs.length).tdiv xs[i].2 = comNum (comTo xs xs.length) xs[i] := rfl
    rw [en] at o2 ⊢
    cases hin : inR (-n) n (comNum (comTo xs xs.length) xs[i]) with
    | false => exact Wi.tru (h1 (tog_none2 hix hin) _ h.le)
    | true =>
      refine Wi.fls (Wl.pushP (r := Rd.int) (x := comNum (comTo xs xs.length) xs[i]) rfl rfl rfl (fun _ => ⟨rfl, rfl, o2⟩) h (by simp; omega) fun H u' h => Wi.add (by unfold I64; omega) (hJ2 _ _ hix ⟨u', rfl, ?_, fun j hj hji => ?_⟩))
      · rw [List.take_succ_eq_append_getElem hix, List.map_append]
        exact h
      · by_cases e : j = i
        · subst e; exact hin
        · exact hok j hj (by omega)
  · have : i = xs.length := by omega
    subst this
    rw [List.take_length] at h
    exact h2 _ _ (tog_some hall fun j hj => hok j hj hj) _ _ (h.retGG (i := 0) rfl)


end Go.Proofs.YthfcodelpebjcaaGreat
