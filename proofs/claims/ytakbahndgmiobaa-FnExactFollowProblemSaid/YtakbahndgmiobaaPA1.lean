/- The contracts of PointAt, the program's and the reference's. No condition. -/
import Derived.Test.YtakbahndgmiobaaV1
import Derived.Test.YtakbahndgmiobaaV2
import Derived.Test.YtakbahndgmiobaaV3
import Derived.Test.YtakbahndgmiobaaTF
namespace Go.Proofs.Ytakbahndgmiobaa
open Go.Ab

/- loop.example/g01343/impl.isDirection -/
def f35.w (Q : Post) (d_0 : Value) (n_1 : Value) (H : Heap) : Prop :=
  W.len d_0 H fun v1 H =>
  W.bin .eql v1 n_1 H fun v2 H =>
  W.guarded v2 true (fun H k => k d_0 H) H fun v3 H =>
  W.guarded v2 true (fun H k => W.call Try.prog (.func (.func 66) #[] #[]) #[v3, (.int .i64 100)] H k) H fun v4 H =>
  W.pick v2 v4 (.bool false) H fun v5 H =>
  W.guarded v5 true (fun H k => k d_0 H) H fun v6 H =>
  W.guarded v5 true (fun H k => W.call Try.prog (.func (.func 67) #[] #[]) #[v6, (.func (.func 68) #[] #[])] H k) H fun v7 H =>
  W.pick v5 v7 (.bool false) H fun v8 H =>
  Q v8 H
theorem f35.enter {Q : Post} {d_0 : Value} {n_1 : Value} {H : Heap} (h : f35.w Q d_0 n_1 H) : Runs Try.prog 35 #[d_0, n_1] H Q :=
  fn_enter (ann := []) (by kernel_rfl) Try.func35 rfl (by kernel_rfl) h (by kernel_rfl)

/- loop.example/g01343/impl.isDirection$1 -/
def f68.w (Q : Post) (m_0 : Value) (H : Heap) : Prop :=
  W.bin .neq m_0 (.int .i64 0) H fun v1 H =>
  Q v1 H
theorem f68.enter {Q : Post} {m_0 : Value} {H : Heap} (h : f68.w Q m_0 H) : Runs Try.prog 68 #[m_0] H Q :=
  fn_enter (ann := []) (by kernel_rfl) Try.func68 rfl (by kernel_rfl) h (by kernel_rfl)

/- loop.example/g01343/impl.isTime -/
def f36.w (Q : Post) (t_0 : Value) (H : Heap) : Prop :=
  W.box t_0 34 H fun v1 H =>
  W.getN 2 v1 H fun v2 H =>
  W.call Try.prog (.func (.func 69) #[] #[]) #[v2] H fun v3 H =>
  W.guarded v3 true (fun H k => W.fieldAddr 0 v1 H k) H fun v4 H =>
  W.guarded v3 true (fun H k => W.get v4 H k) H fun v5 H =>
  W.guarded v3 true (fun H k => W.call Try.prog (.func (.func 50) #[] #[]) #[v5, (.int .i64 0), (.int .i64 1000)] H k) H fun v6 H =>
  W.pick v3 v6 (.bool false) H fun v7 H =>
  W.guarded v7 true (fun H k => W.fieldAddr 1 v1 H k) H fun v8 H =>
  W.guarded v7 true (fun H k => W.get v8 H k) H fun v9 H =>
  W.guarded v7 true (fun H k => W.bin .leq v9 (.int .i64 1000) H k) H fun v10 H =>
  W.pick v7 v10 (.bool false) H fun v11 H =>
  Q v11 H
theorem f36.enter {Q : Post} {t_0 : Value} {H : Heap} (h : f36.w Q t_0 H) : Runs Try.prog 36 #[t_0] H Q :=
  fn_enter (ann := []) (by kernel_rfl) Try.func36 rfl (by kernel_rfl) h (by kernel_rfl)

/- loop.example/g01343/spec.l10Direction -/
def f63.l1 (Q : Post) (n_1 : Value) (d_0 : Value) (I1 : St [5, 6] → Heap → Prop) (some_5 : Value) (i_6 : Value) (H : Heap) : Prop :=
  W.bin .lss i_6 n_1 H fun v3 H =>
  W.cond v3 H
  (fun H => W.indexAddr 1 d_0 i_6 H fun v4 H =>
   W.get v4 H fun v5 H =>
   W.call Try.prog (.func (.func 42) #[] #[]) #[v5, (.int .i64 (-100)), (.int .i64 100)] H fun v6 H =>
   W.un .not v6 H fun v7 H =>
   W.cond v7 H
   (fun H => Q (.bool false) H)
   (fun H => W.guarded some_5 false (fun H k => k d_0 H) H fun v8 H =>
    W.guarded some_5 false (fun H k => k i_6 H) H fun v9 H =>
    W.guarded some_5 false (fun H k => W.indexAddr 1 v8 v9 H k) H fun v10 H =>
    W.guarded some_5 false (fun H k => W.get v10 H k) H fun v11 H =>
    W.guarded some_5 false (fun H k => W.bin .neq v11 (.int .i64 0) H k) H fun v12 H =>
    W.pick some_5 (.bool true) v12 H fun v13 H =>
    W.bin .add i_6 (.int .i64 1) H fun v14 H =>
    I1 (v13, v14, ()) H))
  (fun H => Q some_5 H)
def f63.w (Q : Post) (d_0 : Value) (n_1 : Value) (H : Heap) : Prop :=
  W.len d_0 H fun v1 H =>
  W.bin .neq v1 n_1 H fun v2 H =>
  W.cond v2 H
  (fun H => Q (.bool false) H)
  (fun H => W.loop (S := St [5, 6]) (fun I1 s H => f63.l1 Q n_1 d_0 I1 s.1 s.2.1 H) ((.bool false), (.int .i64 0), ()) H)
theorem f63.enter {Q : Post} {d_0 : Value} {n_1 : Value} {H : Heap} (h : f63.w Q d_0 n_1 H) : Runs Try.prog 63 #[d_0, n_1] H Q :=
  fn_enter (ann := [(5, [5, 6])]) (by kernel_rfl) Try.func63 rfl (by kernel_rfl) h (by kernel_rfl)

/- loop.example/g01343/spec.l10Given -/
def f30.w (Q : Post) (p_0 : Value) (d_1 : Value) (H : Heap) : Prop :=
  W.box p_0 31 H fun v1 H =>
  W.getN 2 v1 H fun v2 H =>
  W.call Try.prog (.func (.func 62) #[] #[]) #[v2] H fun v3 H =>
  W.un .not v3 H fun v4 H =>
  W.cond v4 H
  (fun H => Q (.int .i64 1) H)
  (fun H => W.fieldAddr 1 v1 H fun v5 H =>
   W.get v5 H fun v6 H =>
   W.len v6 H fun v7 H =>
   W.call Try.prog (.func (.func 63) #[] #[]) #[d_1, v7] H fun v8 H =>
   W.un .not v8 H fun v9 H =>
   W.cond v9 H
   (fun H => Q (.int .i64 2) H)
   (fun H => Q (.int .i64 0) H))
theorem f30.enter {Q : Post} {p_0 : Value} {d_1 : Value} {H : Heap} (h : f30.w Q p_0 d_1 H) : Runs Try.prog 30 #[p_0, d_1] H Q :=
  fn_enter (ann := []) (by kernel_rfl) Try.func30 rfl (by kernel_rfl) h (by kernel_rfl)

/- loop.example/g01343/spec.l10Time -/
def f31.w (Q : Post) (t_0 : Value) (H : Heap) : Prop :=
  W.box t_0 34 H fun v1 H =>
  W.fieldAddr 0 v1 H fun v2 H =>
  W.get v2 H fun v3 H =>
  W.callQ Try.prog (.func (.func 42) #[] #[]) #[v3, (.int .i64 0), (.int .i64 1000)] H fun v4 H =>
  W.guarded v4 true (fun H k => W.fieldAddr 1 v1 H k) H fun v5 H =>
  W.guarded v4 true (fun H k => W.get v5 H k) H fun v6 H =>
  W.guarded v4 true (fun H k => W.callQ Try.prog (.func (.func 42) #[] #[]) #[v6, (.int .i64 1), (.int .i64 1000)] H k) H fun v7 H =>
  W.pick v4 v7 (.bool false) H fun v8 H =>
  W.guarded v8 true (fun H k => W.fieldAddr 0 v1 H k) H fun v9 H =>
  W.guarded v8 true (fun H k => W.get v9 H k) H fun v10 H =>
  W.guarded v8 true (fun H k => W.fieldAddr 1 v1 H k) H fun v11 H =>
  W.guarded v8 true (fun H k => W.get v11 H k) H fun v12 H =>
  W.guarded v8 true (fun H k => W.callQ Try.prog (.func (.func 64) #[] #[]) #[v10, v12] H k) H fun v13 H =>
  W.guarded v8 true (fun H k => W.getN 2 v1 H k) H fun v14 H =>
  W.guarded v8 true (fun H k => W.eqPair .eql v13 v14 H k) H fun v15 H =>
  W.pick v8 v15 (.bool false) H fun v16 H =>
  Q v16 H
theorem f31.enter {Q : Post} {t_0 : Value} {H : Heap} (h : f31.w Q t_0 H) : Runs Try.prog 31 #[t_0] H Q :=
  fn_enter (ann := []) (by kernel_rfl) Try.func31 rfl (by kernel_rfl) h (by kernel_rfl)


def dirOk (n : Nat) (d : List Int) : Bool := (decide (d.length = n) && allUp 100 d) && d.any fun m => decide (m ≠ 0)
def timeOk (t : Frac) : Bool := isFr 1000000000 t && (inR 0 1000 t.1 && decide (t.2 ≤ 1000))

theorem dirOk_iff {n : Nat} {d : List Int} (h : dirOk n d = true) : d.length = n ∧ ∀ e ∈ d, e.natAbs ≤ 100 := by
  unfold dirOk at h
  rw [Bool.and_eq_true, Bool.and_eq_true] at h
  refine ⟨of_decide_eq_true h.1.1, fun e he => ?_⟩
  have := inR_iff.1 (List.all_eq_true.1 h.1.2 e he)
  omega

theorem timeOk_iff {t : Frac} (h : timeOk t = true) : (0 ≤ t.1 ∧ t.1 ≤ 1000) ∧ (1 ≤ t.2 ∧ t.2 ≤ 1000) ∧ Int.gcd t.1 t.2 = 1 := by
  unfold timeOk at h
  rw [Bool.and_eq_true, Bool.and_eq_true] at h
  have h1 := isFr_iff.1 h.1
  have h2 := inR_iff.1 h.2.1
  have h3 := of_decide_eq_true h.2.2
  exact ⟨h2, ⟨h1.1.1, h3⟩, h1.2.2⟩

theorem fn35 {H0 : Heap} {Q : Post} {v : Value} {d : List Int} {n : Nat} (hr : Has RS H0 [v] d) (hn : n ≤ 5) (hQ : ∀ H', H0.Le H' → Q (.bool (dirOk n d)) H') : Runs Try.prog 35 #[v, .int .i64 (n : Nat)] H0 Q := by
  have hs := hr.small
  unfold dirOk at hQ
  refine f35.enter (Wl.lenH hr (Wi.eqlC (fun he => ?_) fun hne => ?_))
  · simp only [gw]
    rw [decide_eq_true (show d.length = n by omega)] at hQ
    obtain ⟨_, q⟩ := hr
    refine Wi.call (fn66 (by unfold I64; omega) q fun H l => ?_)
    cases hu : allUp 100 d with
    | false =>
      simp only [gw]
      have := hQ _ l
      simp only [hu] at this
      exact this
    | true =>
      simp only [gw]
      refine Wi.call (contains67 _ _ _ _ _ (fun m => decide (m ≠ 0)) _ (Rd.le _ q l) ?_ fun H2 l2 => ?_)
      · intro H' bs u x K l hr hK
        obtain ⟨_, hu, _⟩ := hr
        simp only [List.cons.injEq, and_true] at hu
        subst hu
        refine Wi.callV (f68.enter (Wi.neqC (fun h => ?_) fun h => ?_))
        · have : K (.bool (decide (x ≠ 0))) H' := hK _ (.refl _)
          rw [decide_eq_true h] at this
          exact this
        · have : K (.bool (decide (x ≠ 0))) H' := hK _ (.refl _)
          rw [decide_eq_false (fun g => g h)] at this
          exact this
      · have := hQ _ (l.trans l2)
        simp only [hu, Bool.and_self, Bool.true_and] at this
        exact this
  · simp only [gw]
    have := hQ _ (.refl _)
    rw [decide_eq_false (show ¬ d.length = n by omega)] at this
    simp only [Bool.false_and] at this
    exact this

theorem fn36 {H0 : Heap} {Q : Post} {t : Frac} (hQ : ∀ H', H0.Le H' → Q (.bool (timeOk t)) H') : Runs Try.prog 36 #[.agg (frC t).toArray] H0 Q := by
  unfold timeOk at hQ
  refine f36.enter (Wl.box (Loc.start H0) fun H b h => Wl.getA h rfl (Wi.call (fn69 fun H l => ?_)))
  have h := h.to l
  cases hf : isFr 1000000000 t with
  | false =>
    simp only [gw]
    have := hQ _ h.le
    simp only [hf, Bool.false_and] at this
    exact this
  | true =>
    simp only [gw]
    refine Wi.fieldAddr0 (Wl.get h rfl (Wi.call (fn50 ?_)))
    cases hi : inR 0 1000 t.1 with
    | false =>
      simp only [gw]
      have := hQ _ h.le
      simp only [hf, hi, Bool.false_and, Bool.true_and] at this
      exact this
    | true =>
      simp only [gw]
      have := hQ _ h.le
      simp only [hf, hi, Bool.true_and] at this
      exact Wi.fieldAddr0 (Wl.get h rfl (Wi.leq this))

theorem fn63 {H0 : Heap} {Q : Post} {v : Value} {d : List Int} {n : Nat} (hr : Has RS H0 [v] d) (hn : n ≤ 5) (hQ : Q (.bool (dirOk n d)) H0) : Runs Try.prog 63 #[v, .int .i64 (n : Nat)] H0 Q := by
  have hs := hr.small
  unfold dirOk at hQ
  refine f63.enter (Wl.lenH hr (Wi.neqC (fun hne => Wi.tru ?_) fun he => Wi.fls ?_))
  · rw [decide_eq_false (show ¬ d.length = n by omega)] at hQ
    exact hQ
  have hdn : d.length = n := by omega
  rw [decide_eq_true hdn] at hQ
  refine W.for_rule n (fun i st H => H = H0 ∧ st = (.bool ((d.take i).any fun m => decide (m ≠ 0)), .int .i64 (i : Nat), ()) ∧ ∀ j (hj : j < d.length), j < i → inR (-100) 100 d[j] = true) ⟨rfl, rfl, fun j _ hj => by omega⟩ ?_
  rintro i st H J hi ⟨rfl, rfl, hok⟩ hJ
  refine Wi.lssC (fun hlt => Wi.tru ?_) fun hge => Wi.fls ?_
  · have hix : i < d.length := by omega
    refine Wl.atIntH hr hix fun _ => Wi.call (fn42 ?_)
    cases hin : inR (-100) 100 d[i] with
    | false =>
      simp only [gw]
      have : allUp 100 d = false := List.all_eq_false.2 ⟨_, List.getElem_mem hix, by rw [hin]; exact Bool.false_ne_true⟩
      rw [this] at hQ
      exact hQ
    | true =>
      simp only [gw]
      have et : (d.take (i + 1)).any (fun m => decide (m ≠ 0)) = ((d.take i).any (fun m => decide (m ≠ 0)) || decide (d[i] ≠ 0)) := by
        rw [List.take_succ_eq_append_getElem hix, List.any_append]
        simp
      have hok' : ∀ j (hj : j < d.length), j < i + 1 → inR (-100) 100 d[j] = true := fun j hj hji => by
        by_cases e : j = i
        · subst e; exact hin
        · exact hok j hj (by omega)
      have fin : ∀ c, c = (d.take (i + 1)).any (fun m => decide (m ≠ 0)) → W.bin .add (.int .i64 (i : Nat)) (.int .i64 1) H fun v14 H => J (.bool c, v14, ()) H := fun c hc => by
        subst hc
        exact Wi.add (by unfold I64; omega) (hJ _ _ (by omega) ⟨rfl, rfl, hok'⟩)
      generalize e1 : (d.take i).any (fun m => decide (m ≠ 0)) = c at *
      cases c with
      | true =>
        simp only [gw]
        exact fin _ (by rw [et]; rfl)
      | false =>
        simp only [gw]
        refine Wl.atIntH hr hix fun _ => Wi.neqC (fun h => ?_) fun h => ?_
        · exact fin _ (by rw [et, decide_eq_true h]; rfl)
        · exact fin _ (by rw [et, decide_eq_false (fun g => g h)]; rfl)
  · have : i = n := by omega
    subst this
    have : allUp 100 d = true := List.all_eq_true.2 fun x hx => by
      obtain ⟨j, hj, rfl⟩ := List.mem_iff_getElem.1 hx
      exact hok j hj (by omega)
    rw [this] at hQ
    rw [show d.take i = d from List.take_of_length_le (by omega)]
    exact hQ

def givC (p : Prob) (d : List Int) : Int := if isProb p = true then (if dirOk p.2.length d = true then 0 else 2) else 1

theorem fn30 {H0 : Heap} {Q : Post} {cs : List Value} {vd : Value} {p : Prob} {d : List Int} (hr : Has RProblem H0 cs p) (hd : Has RS H0 [vd] d) (hQ : ∀ H', H0.Le H' → Q (.int .i64 (givC p d)) H') : Runs Try.prog 30 #[.agg cs.toArray, vd] H0 Q := by
  obtain ⟨u1, u2, rfl, r1, r2⟩ := hasProb hr
  unfold givC at hQ
  have h := (((Loc.start H0).lent r2).lent hd).lent hr
  refine f30.enter (Wl.box h fun H b h => Wl.getA h rfl ?_)
  obtain ⟨_, q⟩ := h.rd (cs := [u1, u2])
  refine Wi.call (fn62 q fun H l => ?_)
  have h := h.to l
  cases hp : isProb p with
  | false =>
    simp only [gw]
    have := hQ _ h.le
    simp only [hp] at this
    exact this
  | true =>
    simp only [gw]
    refine Wi.fieldAddr (Wl.get h rfl (Wl.len h (Wi.call (fn63 (h.rd (cs := [vd])) (PB.of hp).n5 ?_))))
    cases hdk : dirOk p.2.length d with
    | false =>
      simp only [gw]
      have := hQ _ h.le
      simp only [hp, hdk] at this
      exact this
    | true =>
      simp only [gw]
      have := hQ _ h.le
      simp only [hp, hdk] at this
      exact this

theorem frac_same {n d : Int} (hd : 1 ≤ d) : ((frac n d).1 = n ∧ (frac n d).2 = d) ↔ Int.gcd n d = 1 := by
  rw [frac_pos' (by omega)]
  obtain ⟨e1, e2⟩ := tdiv_gcd (n := n) (d := d) (by omega)
  rw [e1, e2]
  have hg := Int.gcd_pos_of_ne_zero_right n (show d ≠ 0 by omega)
  constructor
  · rintro ⟨_, h2⟩
    have h2 : d / (Int.gcd n d : Int) = d := h2
    obtain ⟨k, hk⟩ := Int.gcd_dvd_right n d
    rw [show d / (Int.gcd n d : Int) = k by
      conv => lhs; lhs; rw [hk]
      rw [Int.mul_ediv_cancel_left _ (by omega)]] at h2
    subst h2
    have h3 : (Int.gcd n k : Int) * k = 1 * k := by rw [Int.one_mul]; exact hk.symm
    have := Int.eq_of_mul_eq_mul_right (show k ≠ 0 by omega) h3
    omega
  · intro h
    rw [h]
    simp

theorem fn31 {H0 : Heap} {Q : Post} {t : Frac} (ht : I64 t.1 ∧ I64 t.2) (hQ : ∀ H', H0.Le H' → Q (.bool (timeOk t)) H') : Runs Try.prog 31 #[.agg (frC t).toArray] H0 Q := by
  refine f31.enter ?_
  unfold f31.w
  refine Wl.box (Loc.start H0) fun H b h => Wi.fieldAddr0 (Wl.get h rfl (Wi.callQ (fn42 ⟨.refl _, ?_⟩)))
  have no : timeOk t = false → Q (.bool false) H := fun e => by
    have := hQ _ h.le
    rw [e] at this
    exact this
  have notb : ¬ timeOk t = true → timeOk t = false := fun e => by cases hb : timeOk t with | false => rfl | true => exact absurd hb e
  cases h1 : inR 0 1000 t.1 with
  | false =>
    simp only [gw]
    exact no (notb fun e => by rw [inR_iff.2 (timeOk_iff e).1] at h1; cases h1)
  | true =>
    simp only [gw]
    refine Wi.fieldAddr (Wl.get h rfl (Wi.callQ (fn42 ⟨.refl _, ?_⟩)))
    cases h2 : inR 1 1000 t.2 with
    | false =>
      simp only [gw]
      exact no (notb fun e => by rw [inR_iff.2 (timeOk_iff e).2.1] at h2; cases h2)
    | true =>
      simp only [gw]
      have g1 := inR_iff.1 h1
      have g2 := inR_iff.1 h2
      refine Wi.fieldAddr0 (Wl.get h rfl (Wi.fieldAddr (Wl.get h rfl (Wi.callQ (fn64 (by unfold B64; omega) (by unfold B64; omega) (by omega) fun H' l => ⟨l, ?_⟩)))))
      have h := h.to l
      have hf := frac_i64 (x := t.1) (d := t.2) (by unfold B64; omega) (by unfold B64; omega) (by omega)
      refine Wl.getA h rfl (Wi.eqPair hf.1 hf.2 ht.1 ht.2 ?_)
      have e : (decide ((frac t.1 t.2).1 = t.1) && decide ((frac t.1 t.2).2 = t.2)) = timeOk t := by
        rw [Bool.eq_iff_iff, Bool.and_eq_true, decide_eq_true_iff, decide_eq_true_iff, frac_same g2.1]
        constructor
        · intro hg
          unfold timeOk
          rw [isFr_iff.2 ⟨⟨g2.1, by omega⟩, ⟨by omega, by omega⟩, hg⟩, h1, decide_eq_true g2.2]
          rfl
        · exact fun e => (timeOk_iff e).2.2
      rw [e]
      exact hQ _ h.le

/-- The numbers of the point for the right side at a parameter. -/
def ptN (n : Nat) (p : Prob) (s : Nat) (d : List Int) (t : Frac) (i : Nat) : Int := (solveL n (colL n p.1 s) p.2).getD i 0 * t.2 + (solveL n (colL n p.1 s) d).getD i 0 * t.1
def ptF (n : Nat) (p : Prob) (s : Nat) (d : List Int) (t : Frac) : List Frac := (List.range n).map fun i => frac (ptN n p s d t i) (det n (mAt (colL n p.1 s)) * t.2)

def paRes (p : Prob) (s : Int) (d : List Int) (t : Frac) : List Frac × Int :=
  if isProb p = true then (if setOk p.2.length s = true ∧ dirOk p.2.length d = true ∧ timeOk t = true then (if det p.2.length (mAt (colL p.2.length p.1 s.toNat)) = 0 then ([], 5) else tolF (ptF p.2.length p s.toNat d t)) else ([], 2)) else ([], 1)

theorem paRes_sz (p : Prob) (s : Int) (d : List Int) (t : Frac) : szFS (paRes p s d t).1 ≤ 1048576 := by
  rw [szFS_len]
  unfold paRes
  split
  · rename_i h
    have hn := (PB.of h).n5
    split
    · split
      · simp
      · unfold tolF
        split
        · simp [ptF]; omega
        · simp
    · simp
  · simp

theorem ptN_abs {n : Nat} {p : Prob} {s : Nat} {d : List Int} {t : Frac} (hp : PB n p) (hd : ∀ e ∈ d, e.natAbs ≤ 100) (ht : (0 ≤ t.1 ∧ t.1 ≤ 1000) ∧ (1 ≤ t.2 ∧ t.2 ≤ 1000)) (i : Nat) :
    ((solveL n (colL n p.1 s) p.2).getD i 0 * t.2).natAbs ≤ 1920000000 * 1000 ∧ ((solveL n (colL n p.1 s) d).getD i 0 * t.1).natAbs ≤ 1920000000 * 1000 := by
  have g : ∀ (l : List Int), (∀ e ∈ l, e.natAbs ≤ 1920000000) → (l.getD i 0).natAbs ≤ 1920000000 := fun l hl => by
    rw [List.getD_eq_getElem?_getD]
    cases e : l[i]? with
    | none => simp
    | some x => exact hl x (List.mem_of_getElem? e)
  exact ⟨mulA (g _ (solve_leib s hp.n5 hp.m hp.q)) (by omega), mulA (g _ (solve_leib s hp.n5 hp.m hd)) (by omega)⟩

theorem sgI_pos {D e : Int} (h : 1 ≤ e) (hD : D ≠ 0) : sgI (D * e) = sgI D ∧ (D * e).natAbs = D.natAbs * e.natAbs ∧ D * e ≠ 0 := by
  refine ⟨?_, Int.natAbs_mul _ _, Int.mul_ne_zero hD (by omega)⟩
  unfold sgI
  rcases Int.lt_trichotomy D 0 with g | g | g
  · have := Int.mul_neg_of_neg_of_pos g (show 0 < e by omega)
    rw [if_pos g, if_pos this]
  · exact absurd g hD
  · have := Int.mul_pos g (show 0 < e by omega)
    rw [if_neg (show ¬ D * e < 0 by omega), if_pos (show D * e > 0 from this), if_neg (show ¬ D < 0 by omega), if_pos (show D > 0 from g)]

theorem ptF_low {n : Nat} {p : Prob} {s : Nat} {d : List Int} {t : Frac} (hD : det n (mAt (colL n p.1 s)) * t.2 ≠ 0) : ∀ a ∈ ptF n p s d t, 1 ≤ a.2 ∧ Int.gcd a.1 a.2 = 1 := fun a ha => by
  obtain ⟨i, _, rfl⟩ := List.mem_map.1 ha
  have h1 := frac_pos (n := ptN n p s d t i) hD
  exact ⟨by omega, frac_gcd hD⟩



end Go.Proofs.Ytakbahndgmiobaa
