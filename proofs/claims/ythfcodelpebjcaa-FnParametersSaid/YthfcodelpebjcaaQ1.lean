/- Contracts of areFracs, together and l01Common. No condition. -/
import Derived.Test.YthfcodelpebjcaaQ0
import Derived.Test.YthfcodelpebjcaaF1
namespace Go.Proofs.Ythfcodelpebjcaa
open Go.Ab

/- slices.ContainsFunc[[]loop.example/g01343/impl.Frac,loop.example/g01343/impl.Frac] -/
def f99.w (Q : Post) (s_0 : Value) (f_1 : Value) (H : Heap) : Prop :=
  W.call Try.prog (.func (.func 118) #[] #[]) #[s_0, f_1] H fun v1 H =>
  W.bin .geq v1 (.int .i64 0) H fun v2 H =>
  Q v2 H
theorem f99.enter {Q : Post} {s_0 : Value} {f_1 : Value} {H : Heap} (h : f99.w Q s_0 f_1 H) : Runs Try.prog 99 #[s_0, f_1] H Q :=
  fn_enter (ann := []) (by kernel_rfl) Try.func99 rfl (by kernel_rfl) h (by kernel_rfl)

/- slices.IndexFunc[[]loop.example/g01343/impl.Frac,loop.example/g01343/impl.Frac] -/
def f118.l1 (Q : Post) (v1 : Value) (s_0 : Value) (f_1 : Value) (I1 : St [8] → Heap → Prop) (x_8 : Value) (H : Heap) : Prop :=
  W.bin .lss x_8 v1 H fun v2 H =>
  W.cond v2 H
  (fun H => W.indexAddr 2 s_0 x_8 H fun v3 H =>
   W.getN 2 v3 H fun v4 H =>
   W.call Try.prog f_1 #[v4] H fun v5 H =>
   W.cond v5 H
   (fun H => Q x_8 H)
   (fun H => W.bin .add x_8 (.int .i64 1) H fun v6 H =>
    I1 (v6, ()) H))
  (fun H => Q (.int .i64 (-1)) H)
def f118.w (Q : Post) (s_0 : Value) (f_1 : Value) (H : Heap) : Prop :=
  W.len s_0 H fun v1 H =>
  W.loop (S := St [8]) (fun I1 s H => f118.l1 Q v1 s_0 f_1 I1 s.1 H) ((.int .i64 0), ()) H
theorem f118.enter {Q : Post} {s_0 : Value} {f_1 : Value} {H : Heap} (h : f118.w Q s_0 f_1 H) : Runs Try.prog 118 #[s_0, f_1] H Q :=
  fn_enter (ann := [(2, [8])]) (by kernel_rfl) Try.func118 rfl (by kernel_rfl) h (by kernel_rfl)

/- loop.example/g01343/impl.areFracs -/
def f67.w (Q : Post) (list_0 : Value) (H : Heap) : Prop :=
  W.call Try.prog (.func (.func 99) #[] #[]) #[list_0, (.func (.func 100) #[] #[])] H fun v1 H =>
  W.un .not v1 H fun v2 H =>
  Q v2 H
theorem f67.enter {Q : Post} {list_0 : Value} {H : Heap} (h : f67.w Q list_0 H) : Runs Try.prog 67 #[list_0] H Q :=
  fn_enter (ann := []) (by kernel_rfl) Try.func67 rfl (by kernel_rfl) h (by kernel_rfl)

/- loop.example/g01343/impl.areFracs$1 -/
def f100.w (Q : Post) (a_0 : Value) (H : Heap) : Prop :=
  W.box a_0 50 H fun v1 H =>
  W.getN 2 v1 H fun v2 H =>
  W.call Try.prog (.func (.func 83) #[] #[]) #[v2] H fun v3 H =>
  W.un .not v3 H fun v4 H =>
  Q v4 H
theorem f100.enter {Q : Post} {a_0 : Value} {H : Heap} (h : f100.w Q a_0 H) : Runs Try.prog 100 #[a_0] H Q :=
  fn_enter (ann := []) (by kernel_rfl) Try.func100 rfl (by kernel_rfl) h (by kernel_rfl)


theorem fn67 {H0 : Heap} {Q : Post} {v : Value} {xs : List Frac} (hr : Has RFS H0 [v] xs) (hQ : ∀ H' t, H0.Le H' → (t = true ↔ Frs xs) → Q (.bool t) H') : Runs Try.prog 67 #[v] H0 Q := by
  have hs := hr.small
  refine f67.enter (Wi.call (f99.enter (Wi.call (f118.enter ?_))))
  refine Wl.lenH hr (W.all_rule xs.length (fun i => isFr 1000000000 (xs.getD i (0, 0))) (fun i H1 J hi _ l hJ => ?_) fun H1 J hall l => ?_)
  · refine Wi.lssC (fun _ => Wi.tru ?_) fun h => by omega
    have e1 := fr_at hi (0, 0)
    refine Wl.atFrH (hr.le l) hi fun _ _ => Wi.callV (f100.enter (Wl.box (Loc.start _) fun H2 b h => Wl.getA h rfl (Wi.call (fn83 fun H3 l3 => Wi.not ?_))))
    cases hf : isFr 1000000000 xs[i] with
    | false =>
      refine Wi.tru (Wi.geq ?_)
      rw [show decide ((0 : Int) ≤ (i : Nat)) = true by simp]
      refine Wi.not (hQ _ _ ((l.trans h.le).trans l3) ⟨fun e => Bool.noConfusion e, fun g => ?_⟩)
      rw [g _ (List.getElem_mem hi)] at hf
      cases hf
    | true => exact Wi.fls (Wi.add (by unfold I64; omega) (hJ (by rw [e1]; exact hf) H3 (h.le.trans l3)))
  · refine Wi.lssC (fun h => by omega) fun _ => Wi.fls (Wi.geq ?_)
    rw [show decide ((0 : Int) ≤ -1) = false by decide]
    refine Wi.not (hQ _ _ l ⟨fun _ a ha => ?_, fun _ => rfl⟩)
    obtain ⟨i, hi, rfl⟩ := List.mem_iff_getElem.1 ha
    have := hall i hi
    rw [fr_at hi] at this
    exact this


theorem tog_none1 {m n : Int} {xs : List Frac} {i : Nat} (hi : i < xs.length) (h : m < comTo xs (i + 1)) : tog m n xs = none := by
  unfold tog
  rw [if_neg]
  rintro ⟨g, _⟩
  have := g i hi
  omega

theorem tog_none2 {m n : Int} {xs : List Frac} {i : Nat} (hi : i < xs.length) (h : inR (-n) n (comNum (comTo xs xs.length) xs[i]) = false) : tog m n xs = none := by
  unfold tog
  rw [if_neg]
  rintro ⟨_, g⟩
  rw [inR_iff.2 (g _ (List.getElem_mem hi))] at h
  cases h

theorem tog_some {m n : Int} {xs : List Frac} (h1 : okDen m xs) (h2 : ∀ i (hi : i < xs.length), inR (-n) n (comNum (comTo xs xs.length) xs[i]) = true) : tog m n xs = some (xs.map (comNum (comTo xs xs.length)), comTo xs xs.length) := by
  unfold tog
  rw [if_pos]
  refine ⟨h1, fun a ha => ?_⟩
  obtain ⟨i, hi, rfl⟩ := List.mem_iff_getElem.1 ha
  exact inR_iff.1 (h2 i hi)

theorem comNum_i64 {d : Int} {a : Frac} (hd : 1 ≤ d ∧ d ≤ 1000000000) (h2 : 1 ≤ a.2) (h1 : -1000000000 ≤ a.1 ∧ a.1 ≤ 1000000000) : I64 (d.tdiv a.2) ∧ I64 (a.1 * d.tdiv a.2) := by
  have e1 : (d.tdiv a.2).natAbs ≤ 1000000000 := by
    have := Int.natAbs_tdiv_le_natAbs d a.2
    omega
  have e2 : (a.1 * d.tdiv a.2).natAbs ≤ 1000000000 * 1000000000 := by
    rw [Int.natAbs_mul]
    exact Nat.mul_le_mul (by omega) e1
  exact ⟨by unfold I64; omega, by unfold I64; omega⟩

theorem comTo_step {xs : List Frac} {i : Nat} (hi : i < xs.length) : comTo xs (i + 1) = (comTo xs i).tdiv (Int.gcd (comTo xs i) xs[i].2) * xs[i].2 := by
  simp only [comTo]
  rw [fr_at hi]
  rfl

/-- What one round of the denominators needs. -/
theorem comTo_fit {xs : List Frac} (hf : Frs xs) {i : Nat} (hi : i < xs.length) {m : Int} (hm : m ≤ 1000000000) (hd : comTo xs i ≤ m) :
    B64 (comTo xs i) ∧ B64 xs[i].2 ∧ (Int.gcd (comTo xs i) xs[i].2 : Int) ≠ 0 ∧ I64 ((comTo xs i).tdiv (Int.gcd (comTo xs i) xs[i].2)) ∧ I64 ((comTo xs i).tdiv (Int.gcd (comTo xs i) xs[i].2) * xs[i].2) := by
  have h1 := comTo_pos hf (i := i) (by omega)
  obtain ⟨h2, h3, _, _⟩ := fr_den hf hi
  have hB : B64 (comTo xs i) := by unfold B64; omega
  have hg : 0 < Int.gcd (comTo xs i) xs[i].2 := Int.gcd_pos_of_ne_zero_left _ (by omega)
  have h4 := comStep_le h1 h2 (Int.le_refl _)
  have h5 := (comStep_pos h1 h2).1
  unfold comStep at h4 h5
  have h6 : comTo xs i * xs[i].2 ≤ 1000000000 * 1000000000 := Int.mul_le_mul (by omega) h3 (by omega) (by omega)
  refine ⟨hB, by unfold B64; omega, by omega, (tdiv_B hB).i64, ?_⟩
  unfold I64
  omega



end Go.Proofs.Ythfcodelpebjcaa
