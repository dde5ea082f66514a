/- Lists of fractions in lowest terms by one denominator: the contract of allReduced. No condition. -/
import Derived.Test.YtbcfknboheghkaaGreatGAA
import Derived.Test.YtbcfknboheghkaaGreatZabG8
import Derived.Test.YtbcfknboheghkaaGreatZabG5
import Derived.Test.YtbcfknboheghkaaGreatGBB
import Derived.Test.YtbcfknboheghkaaGreatZabG9
namespace Go.Proofs.YtbcfknboheghkaaGreat
open Go.Ab

/- loop.example/g01343/impl.allReduced -/
def f112.l1 (Q : Post) (v1 : Value) (list_0 : Value) (den_1 : Value) (I1 : St [6, 13] → Heap → Prop) (out_6 : Value) (x_13 : Value) (H : Heap) : Prop :=
  W.bin .lss x_13 v1 H fun v2 H =>
  W.cond v2 H
  (fun H => W.indexAddr 1 list_0 x_13 H fun v3 H =>
   W.get v3 H fun v4 H =>
   W.call Tryz.prog (.func (.func 99) #[] #[]) #[v4, den_1] H fun v5 H =>
   W.extract 0 v5 H fun v6 H =>
   W.extract 1 v5 H fun v7 H =>
   W.new [(.int .i64 0), (.int .i64 0)] 39 H fun v8 H =>
   W.putN 2 v8 v6 H fun _ H =>
   W.bin .neq v7 (.int .i64 0) H fun v9 H =>
   W.cond v9 H
   (fun H => Q (.tuple #[(.slice none 0 0), v7]) H)
   (fun H => W.getN 2 v8 H fun v10 H =>
    W.lit 1 [(.int .i64 0), (.int .i64 0)] 39 [(0, 2, v10)] H fun v11 H =>
    W.append 2 39 out_6 v11 H fun v12 H =>
    W.bin .add x_13 (.int .i64 1) H fun v13 H =>
    I1 (v12, v13, ()) H))
  (fun H => Q (.tuple #[out_6, (.int .i64 0)]) H)
def f112.w (Q : Post) (list_0 : Value) (den_1 : Value) (H : Heap) : Prop :=
  W.len list_0 H fun v1 H =>
  W.loop (S := St [6, 13]) (fun I1 s H => f112.l1 Q v1 list_0 den_1 I1 s.1 s.2.1 H) ((.slice none 0 0), (.int .i64 0), ()) H
theorem f112.enter {Q : Post} {list_0 : Value} {den_1 : Value} {H : Heap} (h : f112.w Q list_0 den_1 H) : Runs Tryz.prog 112 #[list_0, den_1] H Q :=
  fn_enter (ann := [(3, [6, 13])]) (by kernel_rfl) Tryz.func112 rfl (by kernel_rfl) h (by kernel_rfl)


theorem fracT_i64 (n d : Int) : I64 (fracT n d).1.1 ∧ I64 (fracT n d).1.2 := by
  unfold fracT
  split
  · rename_i h
    have := isFr_iff.1 h
    simp only
    constructor <;> (unfold I64; omega)
  · constructor <;> (unfold I64; decide)

theorem fracT_code (n d : Int) : (fracT n d).2 = 0 ∨ (fracT n d).2 = 3 := by
  unfold fracT
  split
  · exact .inl rfl
  · exact .inr rfl

/-- The fractions of numbers by one denominator, if all are within the limits. -/
def frAll (l : List Int) (d : Int) : List Frac × Int := if l.all fun n => decide ((fracT n d).2 = 0) then (l.map fun n => (fracT n d).1, 0) else ([], 3)

theorem frAll_bad {l : List Int} {d : Int} {i : Nat} (hi : i < l.length) (h : (fracT l[i] d).2 ≠ 0) : frAll l d = ([], 3) ∧ (fracT l[i] d).2 = 3 := by
  refine ⟨?_, (fracT_code _ _).resolve_left h⟩
  unfold frAll
  rw [if_neg]
  intro g
  have := List.all_eq_true.1 g _ (List.getElem_mem hi)
  exact h (of_decide_eq_true this)

theorem frAll_ok {l : List Int} {d : Int} (h : ∀ i (hi : i < l.length), (fracT l[i] d).2 = 0) : frAll l d = (l.map fun n => (fracT n d).1, 0) := by
  unfold frAll
  rw [if_pos]
  refine List.all_eq_true.2 fun x hx => ?_
  obtain ⟨i, hi, rfl⟩ := List.mem_iff_getElem.1 hx
  exact decide_eq_true (h i hi)

theorem frAll_len (l : List Int) (d : Int) : (frAll l d).1.length ≤ l.length := by
  unfold frAll
  split <;> simp

theorem fnG112 {H0 : Heap} {Q : Post} {v : Value} {l : List Int} {d : Int} (hr : Has RS H0 [v] l) (hB : ∀ n ∈ l, B64 n) (hd : B64 d) (h0 : d ≠ 0) (hl : l.length ≤ 1048576)
    (hQ : ∀ H' u, FreshG RFrac 39 H0 u (frAll l d).1 H' → Q (.tuple #[u, .int .i64 (frAll l d).2]) H') : Runs Tryz.prog 112 #[v, .int .i64 d] H0 Q := by
  refine f112.enter (Wl.lenH hr ?_)
  have h := ((Loc.start H0).lent hr).nilG RFrac 39
  refine W.for_rule l.length (fun i s H => ∃ u, s = (u, .int .i64 (i : Nat), ()) ∧ Ab.Loc H0 [.grow RFrac 39 u ((l.take i).map fun n => (fracT n d).1), .lent RS [v] l] H ∧ ∀ j (hj : j < l.length), j < i → (fracT l[j] d).2 = 0) ⟨_, rfl, h, fun j _ hj => by omega⟩ ?_
  rintro i s H J hi ⟨u, rfl, h, hok⟩ hJ
  refine Wi.lssC (fun hlt => Wi.tru ?_) fun hge => Wi.fls ?_
  · have hix : i < l.length := by omega
    refine Wl.atInt h hix fun _ => Wi.call (fn99 (hB _ (List.getElem_mem hix)) hd h0 fun H l1 => ?_)
    have h := h.to l1
    simp only [g11, g12]
    refine Wl.new h fun H b h => Wl.putA (vs := frC _) h rfl rfl rfl fun H h => Wi.neqC (fun hne => Wi.tru ?_) fun he => Wi.fls (Wl.getA h rfl ?_)
    · obtain ⟨e1, e2⟩ := frAll_bad hix hne
      have := hQ H (.slice none 0 0) (by rw [e1]; exact (h.nilG RFrac 39).retGG (i := 0) rfl)
      rw [e1] at this
      rw [e2]
      exact this
    · refine Wl.pushP (r := RFrac) (x := (fracT l[i] d).1) rfl rfl rfl (frac_rel (fracT_i64 _ _)) h.tl (by simp; omega) fun H u' h => Wi.add (by unfold I64; omega) (hJ _ _ hix ⟨u', rfl, ?_, fun j hj hji => ?_⟩)
      · rw [List.take_succ_eq_append_getElem hix, List.map_append]
        exact h
      · by_cases e : j = i
        · subst e; exact he
        · exact hok j hj (by omega)
  · have : i = l.length := by omega
    subst this
    rw [List.take_length] at h
    have e := frAll_ok fun j hj => hok j hj hj
    have := hQ H u (by rw [e]; exact h.retGG (i := 0) rfl)
    rw [e] at this
    exact this

theorem fn112 {H0 : Heap} {Q : Post} {v : Value} {l : List Int} {d : Int} (hr : Has RS H0 [v] l) (hB : ∀ n ∈ l, B64 n) (hd : B64 d) (h0 : d ≠ 0) (hl : l.length ≤ 1048576)
    (hQ : ∀ H' u, Fresh RFS H0 [u] (frAll l d).1 H' → Q (.tuple #[u, .int .i64 (frAll l d).2]) H') : Runs Tryz.prog 112 #[v, .int .i64 d] H0 Q :=
  fnG112 hr hB hd h0 hl fun _ _ f => hQ _ _ f.fresh

end Go.Proofs.YtbcfknboheghkaaGreat
/-! Both mixes by their numerators; sums. No condition. -/
namespace Go.Proofs.YtbcfknboheghkaaGreat
open Go.Ab

/-- Both mixes, by their numerators. -/
def mixV (k : Nat) (z : List Int) : List Frac × Int :=
  if (frAll (z.take k) (z.take k).sum).2 = 0 ∧ (frAll (z.drop k) (z.drop k).sum).2 = 0 then ((frAll (z.take k) (z.take k).sum).1 ++ (frAll (z.drop k) (z.drop k).sum).1, 0) else ([], 3)

theorem frAll_code (l : List Int) (d : Int) : (frAll l d).2 = 0 ∨ (frAll l d).2 = 3 := by
  unfold frAll
  split
  · exact .inl rfl
  · exact .inr rfl

theorem mixV_len (k : Nat) (z : List Int) : (mixV k z).1.length ≤ z.length := by
  unfold mixV
  split
  · have h1 := frAll_len (z.take k) (z.take k).sum
    have h2 := frAll_len (z.drop k) (z.drop k).sum
    simp only [List.length_append]
    simp only [List.length_take, List.length_drop] at h1 h2
    omega
  · simp

theorem sum_nonneg {l : List Int} (h : ∀ x ∈ l, 0 ≤ x) : 0 ≤ l.sum := by
  induction l with
  | nil => simp
  | cons a l ih =>
    have h1 := h a (by simp)
    have h2 := ih fun x hx => h x (by simp [hx])
    simp only [List.sum_cons]
    omega
theorem sum_pos {l : List Int} (h : ∀ x ∈ l, 0 ≤ x) (hx : ∃ x ∈ l, x ≠ 0) : l.sum ≠ 0 := by
  induction l with
  | nil => obtain ⟨x, hx, _⟩ := hx; cases hx
  | cons a l ih =>
    have h1 := h a (by simp)
    have h2 := sum_nonneg fun x hx => h x (List.mem_cons_of_mem a hx)
    simp only [List.sum_cons]
    obtain ⟨x, hx, hne⟩ := hx
    rcases List.mem_cons.1 hx with e | hx
    · omega
    · have := ih (fun x hx => h x (by simp [hx])) ⟨x, hx, hne⟩
      omega
theorem sum_some {l : List Int} (h : l.sum ≠ 0) : ∃ x ∈ l, x ≠ 0 := by
  induction l with
  | nil => simp at h
  | cons a l ih =>
    by_cases ha : a = 0
    · subst ha
      obtain ⟨x, hx, hne⟩ := ih (by simpa using h)
      exact ⟨x, by simp [hx], hne⟩
    · exact ⟨a, by simp, ha⟩
theorem sum_abs {l : List Int} {B : Nat} (h : ∀ x ∈ l, x.natAbs ≤ B) : l.sum.natAbs ≤ l.length * B := by
  induction l with
  | nil => simp
  | cons a l ih =>
    have h1 := h a (by simp)
    have h2 := ih fun x hx => h x (by simp [hx])
    simp only [List.sum_cons, List.length_cons, Nat.succ_mul]
    omega
theorem sum_step {l : List Int} {i : Nat} (h : i < l.length) : (l.take (i + 1)).sum = (l.take i).sum + l[i] := by
  rw [List.take_succ_eq_append_getElem h, List.sum_append]
  simp

end Go.Proofs.YtbcfknboheghkaaGreat

/-! Lists of fractions joined; compared. No condition. -/
namespace Go.Proofs.YtbcfknboheghkaaGreat
open Go.Ab

/- slices.Grow[[]loop.example/g01343/impl.Frac,loop.example/g01343/impl.Frac] -/
def f142.j1 (Q : Post) (s_0' : Value) (H : Heap) : Prop :=
  Q s_0' H
def f142.w (Q : Post) (s_0 : Value) (n_1 : Value) (H : Heap) : Prop :=
  W.bin .lss n_1 (.int .i64 0) H fun v1 H =>
  W.cond v1 H
  (fun H => W.no H)
  (fun H => W.cap s_0 H fun v2 H =>
   W.len s_0 H fun v3 H =>
   W.bin .sub v2 v3 H fun v4 H =>
   W.bin .sub n_1 v4 H fun v5 H =>
   W.bin .gtr v5 (.int .i64 0) H fun v6 H =>
   W.cond v6 H
   (fun H => W.cap s_0 H fun v7 H =>
    W.slice 2 s_0 none (some v7) H fun v8 H =>
    W.appendZ [(.int .i64 0), (.int .i64 0)] 39 v8 v5 H fun v9 H =>
    W.len s_0 H fun v10 H =>
    W.slice 2 v9 none (some v10) H fun v11 H =>
    f142.j1 Q v11 H)
   (fun H => f142.j1 Q s_0 H))
theorem f142.enter {Q : Post} {s_0 : Value} {n_1 : Value} {H : Heap} (h : f142.w Q s_0 n_1 H) : Runs Tryz.prog 142 #[s_0, n_1] H Q :=
  fn_enter (ann := []) (by kernel_rfl) Tryz.func142 rfl (by kernel_rfl) h (by kernel_rfl)

/- slices.Concat[[]loop.example/g01343/impl.Frac,loop.example/g01343/impl.Frac] -/
def f113.l2 (Q : Post) (v10 : Value) (slices_0 : Value) (I2 : St [6, 27] → Heap → Prop) (newslice_6 : Value) (x_27 : Value) (H : Heap) : Prop :=
  W.bin .lss x_27 v10 H fun v11 H =>
  W.cond v11 H
  (fun H => W.indexAddr 1 slices_0 x_27 H fun v12 H =>
   W.get v12 H fun v13 H =>
   W.append 2 39 newslice_6 v13 H fun v14 H =>
   W.bin .add x_27 (.int .i64 1) H fun v15 H =>
   I2 (v14, v15, ()) H)
  (fun H => Q newslice_6 H)
def f113.l1 (Q : Post) (v1 : Value) (slices_0 : Value) (I1 : St [3, 11] → Heap → Prop) (size_3 : Value) (x_11 : Value) (H : Heap) : Prop :=
  W.bin .lss x_11 v1 H fun v2 H =>
  W.cond v2 H
  (fun H => W.indexAddr 1 slices_0 x_11 H fun v3 H =>
   W.get v3 H fun v4 H =>
   W.len v4 H fun v5 H =>
   W.bin .add size_3 v5 H fun v6 H =>
   W.bin .lss v6 (.int .i64 0) H fun v7 H =>
   W.cond v7 H
   (fun H => W.no H)
   (fun H => W.bin .add x_11 (.int .i64 1) H fun v8 H =>
    I1 (v6, v8, ()) H))
  (fun H => W.call Tryz.prog (.func (.func 142) #[] #[]) #[(.slice none 0 0), size_3] H fun v9 H =>
   W.len slices_0 H fun v10 H =>
   W.loop (S := St [6, 27]) (fun I2 s H => f113.l2 Q v10 slices_0 I2 s.1 s.2.1 H) (v9, (.int .i64 0), ()) H)
def f113.w (Q : Post) (slices_0 : Value) (H : Heap) : Prop :=
  W.len slices_0 H fun v1 H =>
  W.loop (S := St [3, 11]) (fun I1 s H => f113.l1 Q v1 slices_0 I1 s.1 s.2.1 H) ((.int .i64 0), (.int .i64 0), ()) H
theorem f113.enter {Q : Post} {slices_0 : Value} {H : Heap} (h : f113.w Q slices_0 H) : Runs Tryz.prog 113 #[slices_0] H Q :=
  fn_enter (ann := [(3, [3, 11]), (11, [6, 27])]) (by kernel_rfl) Tryz.func113 rfl (by kernel_rfl) h (by kernel_rfl)

/- slices.Equal[[]loop.example/g01343/impl.Frac,loop.example/g01343/impl.Frac] -/
def f87.l1 (Q : Post) (v4 : Value) (s1_0 : Value) (s2_1 : Value) (I1 : St [13] → Heap → Prop) (x_13 : Value) (H : Heap) : Prop :=
  W.bin .lss x_13 v4 H fun v5 H =>
  W.cond v5 H
  (fun H => W.indexAddr 2 s1_0 x_13 H fun v6 H =>
   W.getN 2 v6 H fun v7 H =>
   W.indexAddr 2 s2_1 x_13 H fun v8 H =>
   W.getN 2 v8 H fun v9 H =>
   W.eqPair .neq v7 v9 H fun v10 H =>
   W.cond v10 H
   (fun H => Q (.bool false) H)
   (fun H => W.bin .add x_13 (.int .i64 1) H fun v11 H =>
    I1 (v11, ()) H))
  (fun H => Q (.bool true) H)
def f87.w (Q : Post) (s1_0 : Value) (s2_1 : Value) (H : Heap) : Prop :=
  W.len s1_0 H fun v1 H =>
  W.len s2_1 H fun v2 H =>
  W.bin .neq v1 v2 H fun v3 H =>
  W.cond v3 H
  (fun H => Q (.bool false) H)
  (fun H => W.len s1_0 H fun v4 H =>
   W.loop (S := St [13]) (fun I1 s H => f87.l1 Q v4 s1_0 s2_1 I1 s.1 H) ((.int .i64 0), ()) H)
theorem f87.enter {Q : Post} {s1_0 : Value} {s2_1 : Value} {H : Heap} (h : f87.w Q s1_0 s2_1 H) : Runs Tryz.prog 87 #[s1_0, s2_1] H Q :=
  fn_enter (ann := [(4, [13])]) (by kernel_rfl) Tryz.func87 rfl (by kernel_rfl) h (by kernel_rfl)

/- loop.example/g01343/spec.l07Same -/
def f90.l1 (Q : Post) (a_0 : Value) (b_1 : Value) (I1 : St [5] → Heap → Prop) (i_5 : Value) (H : Heap) : Prop :=
  W.len a_0 H fun v1 H =>
  W.bin .lss i_5 v1 H fun v2 H =>
  W.cond v2 H
  (fun H => W.indexAddr 2 a_0 i_5 H fun v3 H =>
   W.getN 2 v3 H fun v4 H =>
   W.indexAddr 2 b_1 i_5 H fun v5 H =>
   W.getN 2 v5 H fun v6 H =>
   W.eqPair .neq v4 v6 H fun v7 H =>
   W.cond v7 H
   (fun H => Q (.bool false) H)
   (fun H => W.bin .add i_5 (.int .i64 1) H fun v8 H =>
    I1 (v8, ()) H))
  (fun H => W.len a_0 H fun v9 H =>
   W.len b_1 H fun v10 H =>
   W.bin .eql v9 v10 H fun v11 H =>
   Q v11 H)
def f90.w (Q : Post) (a_0 : Value) (b_1 : Value) (H : Heap) : Prop :=
  W.loop (S := St [5]) (fun I1 s H => f90.l1 Q a_0 b_1 I1 s.1 H) ((.int .i64 0), ()) H
theorem f90.enter {Q : Post} {a_0 : Value} {b_1 : Value} {H : Heap} (h : f90.w Q a_0 b_1 H) : Runs Tryz.prog 90 #[a_0, b_1] H Q :=
  fn_enter (ann := [(2, [5])]) (by kernel_rfl) Tryz.func90 rfl (by kernel_rfl) h (by kernel_rfl)

/- slices.IndexFunc[[][]loop.example/g01343/impl.Frac,[]loop.example/g01343/impl.Frac] -/
def f129.l1 (Q : Post) (v1 : Value) (s_0 : Value) (f_1 : Value) (I1 : St [8] → Heap → Prop) (x_8 : Value) (H : Heap) : Prop :=
  W.bin .lss x_8 v1 H fun v2 H =>
  W.cond v2 H
  (fun H => W.indexAddr 1 s_0 x_8 H fun v3 H =>
   W.get v3 H fun v4 H =>
   W.call Tryz.prog f_1 #[v4] H fun v5 H =>
   W.cond v5 H
   (fun H => Q x_8 H)
   (fun H => W.bin .add x_8 (.int .i64 1) H fun v6 H =>
    I1 (v6, ()) H))
  (fun H => Q (.int .i64 (-1)) H)
def f129.w (Q : Post) (s_0 : Value) (f_1 : Value) (H : Heap) : Prop :=
  W.len s_0 H fun v1 H =>
  W.loop (S := St [8]) (fun I1 s H => f129.l1 Q v1 s_0 f_1 I1 s.1 H) ((.int .i64 0), ()) H
theorem f129.enter {Q : Post} {s_0 : Value} {f_1 : Value} {H : Heap} (h : f129.w Q s_0 f_1 H) : Runs Tryz.prog 129 #[s_0, f_1] H Q :=
  fn_enter (ann := [(2, [8])]) (by kernel_rfl) Tryz.func129 rfl (by kernel_rfl) h (by kernel_rfl)

/- slices.ContainsFunc[[][]loop.example/g01343/impl.Frac,[]loop.example/g01343/impl.Frac] -/
def f85.w (Q : Post) (s_0 : Value) (f_1 : Value) (H : Heap) : Prop :=
  W.call Tryz.prog (.func (.func 129) #[] #[]) #[s_0, f_1] H fun v1 H =>
  W.bin .geq v1 (.int .i64 0) H fun v2 H =>
  Q v2 H
theorem f85.enter {Q : Post} {s_0 : Value} {f_1 : Value} {H : Heap} (h : f85.w Q s_0 f_1 H) : Runs Tryz.prog 85 #[s_0, f_1] H Q :=
  fn_enter (ann := []) (by kernel_rfl) Tryz.func85 rfl (by kernel_rfl) h (by kernel_rfl)


theorem growF142 : GrowF Tryz.prog 142 [.int .i64 0, .int .i64 0] 2 39 := fun _ _ _ _ h => f142.enter h
theorem concat113 : ConcatF Tryz.prog 113 RFrac 39 := fun _ _ _ _ h hl hQ =>
  f113.enter (concat_ok (r := RFrac) (n1 := 3) (n2 := 11) (n3 := 6) (n4 := 27) growF142 rfl rfl h hl hQ)

theorem index129 : IndexF Tryz.prog 129 RFS := IndexF.of rfl (n := 8) fun _ _ _ _ h => f129.enter h
theorem contains85 : ContainsF Tryz.prog 85 RFS := ContainsF.of index129 fun _ _ _ _ h => f85.enter h

theorem Wi.nePair {a c : Frac} {H : Heap} {k : Post} (ha : I64 a.1 ∧ I64 a.2) (hc : I64 c.1 ∧ I64 c.2) (h : k (.bool !(decide (a = c))) H) : W.eqPair .neq (.agg (frC a).toArray) (.agg (frC c).toArray) H k := by
  show W.eqPair .neq (.agg #[.int .i64 a.1, .int .i64 a.2]) (.agg #[.int .i64 c.1, .int .i64 c.2]) H k
  unfold W.eqPair
  refine ⟨by rw [wf_of_i64 ha.1, wf_of_i64 ha.2, wf_of_i64 hc.1, wf_of_i64 hc.2]; rfl, ?_⟩
  have e : decide (a = c) = (decide (a.1 = c.1) && decide (a.2 = c.2)) := by
    rw [Bool.eq_iff_iff, Bool.and_eq_true, decide_eq_true_iff, decide_eq_true_iff, decide_eq_true_iff]
    exact Prod.ext_iff
  rw [e] at h
  exact h

theorem fn87 {H0 : Heap} {Q : Post} {a b : Value} {x y : List Frac} (ha : Has RFS H0 [a] x) (hb : Has RFS H0 [b] y) (hQ : Q (.bool (decide (x = y))) H0) : Runs Tryz.prog 87 #[a, b] H0 Q := by
  have hs := ha.small
  refine f87.enter (Wl.lenH ha (Wl.lenH hb (Wi.neqC (fun hne => Wi.tru ?_) fun he => Wi.fls (Wl.lenH ha ?_))))
  · rw [decide_eq_false (fun e => hne (by rw [e]))] at hQ
    exact hQ
  have hl : x.length = y.length := by omega
  refine W.for_rule x.length (fun i st H => st = (.int .i64 (i : Nat), ()) ∧ H = H0 ∧ ∀ j (h1 : j < x.length) (h2 : j < y.length), j < i → x[j] = y[j]) ⟨rfl, rfl, fun j _ _ hj => by omega⟩ ?_
  rintro i st H J hi ⟨rfl, rfl, hok⟩ hJ
  refine Wi.lssC (fun hlt => Wi.tru ?_) fun hge => Wi.fls ?_
  · have hix : i < x.length := by omega
    have hiy : i < y.length := by omega
    refine Wl.atFrH ha hix fun a1 a2 => Wl.atFrH hb hiy fun b1 b2 => Wi.nePair ⟨a1, a2⟩ ⟨b1, b2⟩ ?_
    by_cases e : x[i] = y[i]
    · rw [decide_eq_true e]
      refine Wi.fls (Wi.add (by unfold I64; omega) (hJ _ _ hix ⟨rfl, rfl, fun j h1 h2 hj => ?_⟩))
      by_cases e2 : j = i
      · subst e2; exact e
      · exact hok j h1 h2 (by omega)
    · rw [decide_eq_false e]
      refine Wi.tru ?_
      rw [decide_eq_false (fun g => e (by subst g; rfl))] at hQ
      exact hQ
  · rw [decide_eq_true (List.ext_getElem hl fun j h1 h2 => hok j h1 h2 (by omega))] at hQ
    exact hQ

theorem fn90 {H0 : Heap} {Q : Post} {a b : Value} {x y : List Frac} (ha : Has RFS H0 [a] x) (hb : Has RFS H0 [b] y) (hl : x.length = y.length) (hQ : Q (.bool (decide (x = y))) H0) : Runs Tryz.prog 90 #[a, b] H0 Q := by
  have hs := ha.small
  refine f90.enter ?_
  unfold f90.w
  refine W.for_rule x.length (fun i st H => st = (.int .i64 (i : Nat), ()) ∧ H = H0 ∧ ∀ j (h1 : j < x.length) (h2 : j < y.length), j < i → x[j] = y[j]) ⟨rfl, rfl, fun j _ _ hj => by omega⟩ ?_
  rintro i st H J hi ⟨rfl, rfl, hok⟩ hJ
  refine Wl.lenH ha (Wi.lssC (fun hlt => Wi.tru ?_) fun hge => Wi.fls ?_)
  · have hix : i < x.length := by omega
    have hiy : i < y.length := by omega
    refine Wl.atFrH ha hix fun a1 a2 => Wl.atFrH hb hiy fun b1 b2 => Wi.nePair ⟨a1, a2⟩ ⟨b1, b2⟩ ?_
    by_cases e : x[i] = y[i]
    · rw [decide_eq_true e]
      refine Wi.fls (Wi.add (by unfold I64; omega) (hJ _ _ hix ⟨rfl, rfl, fun j h1 h2 hj => ?_⟩))
      by_cases e2 : j = i
      · subst e2; exact e
      · exact hok j h1 h2 (by omega)
    · rw [decide_eq_false e]
      refine Wi.tru ?_
      rw [decide_eq_false (fun g => e (by subst g; rfl))] at hQ
      exact hQ
  · rw [decide_eq_true (List.ext_getElem hl fun j h1 h2 => hok j h1 h2 (by omega))] at hQ
    refine Wl.lenH ha (Wl.lenH hb (Wi.eqlC (fun _ => hQ) fun g => by omega))

end Go.Proofs.YtbcfknboheghkaaGreat

/-! What a game is; the contracts of IsGame, the program's and the reference's. No condition. -/
namespace Go.Proofs.YtbcfknboheghkaaGreat
open Go.Ab

/- loop.example/g01343/impl.isTable -/
def f92.w (Q : Post) (m_0 : Value) (k_1 : Value) (l_2 : Value) (H : Heap) : Prop :=
  W.box l_2 3 H fun v1 H =>
  W.len m_0 H fun v2 H =>
  W.bin .eql v2 k_1 H fun v3 H =>
  W.guarded v3 true (fun H k => k m_0 H) H fun v4 H =>
  W.guarded v3 true (fun H k => k (.func (.func 132) #[] #[v1]) H) H fun v5 H =>
  W.guarded v3 true (fun H k => W.call Tryz.prog (.func (.func 131) #[] #[]) #[v4, v5] H k) H fun v6 H =>
  W.guarded v3 true (fun H k => W.un .not v6 H k) H fun v7 H =>
  W.pick v3 v7 (.bool false) H fun v8 H =>
  Q v8 H
theorem f92.enter {Q : Post} {m_0 : Value} {k_1 : Value} {l_2 : Value} {H : Heap} (h : f92.w Q m_0 k_1 l_2 H) : Runs Tryz.prog 92 #[m_0, k_1, l_2] H Q :=
  fn_enter (ann := []) (by kernel_rfl) Tryz.func92 rfl (by kernel_rfl) h (by kernel_rfl)

/- loop.example/g01343/impl.isTable$1 -/
def f132.w (Q : Post) (row_0 : Value) (x_1 : Value) (H : Heap) : Prop :=
  W.len row_0 H fun v1 H =>
  W.get x_1 H fun v2 H =>
  W.bin .neq v1 v2 H fun v3 H =>
  W.guarded v3 false (fun H k => k row_0 H) H fun v4 H =>
  W.guarded v3 false (fun H k => W.call Tryz.prog (.func (.func 118) #[] #[]) #[v4, (.func (.func 133) #[] #[])] H k) H fun v5 H =>
  W.pick v3 (.bool true) v5 H fun v6 H =>
  Q v6 H
theorem f132.enter {Q : Post} {row_0 : Value} {x_1 : Value} {H : Heap} (h : f132.w Q row_0 x_1 H) : Runs Tryz.prog 132 #[row_0, x_1] H Q :=
  fn_enter (ann := []) (by kernel_rfl) Tryz.func132 rfl (by kernel_rfl) h (by kernel_rfl)

/- loop.example/g01343/impl.isTable$1$1 -/
def f133.w (Q : Post) (n_0 : Value) (H : Heap) : Prop :=
  W.call Tryz.prog (.func (.func 49) #[] #[]) #[n_0, (.int .i64 1), (.int .i64 20)] H fun v1 H =>
  W.un .not v1 H fun v2 H =>
  Q v2 H
theorem f133.enter {Q : Post} {n_0 : Value} {H : Heap} (h : f133.w Q n_0 H) : Runs Tryz.prog 133 #[n_0] H Q :=
  fn_enter (ann := []) (by kernel_rfl) Tryz.func133 rfl (by kernel_rfl) h (by kernel_rfl)

/- loop.example/g01343/impl.IsGame -/
def f28.w (Q : Post) (g_0 : Value) (H : Heap) : Prop :=
  W.box g_0 26 H fun v1 H =>
  W.fieldAddr 0 v1 H fun v2 H =>
  W.get v2 H fun v3 H =>
  W.len v3 H fun v4 H =>
  W.call Tryz.prog (.func (.func 49) #[] #[]) #[v4, (.int .i64 1), (.int .i64 4)] H fun v5 H =>
  W.un .not v5 H fun v6 H =>
  W.cond v6 H
  (fun H => Q (.bool false) H)
  (fun H => W.fieldAddr 0 v1 H fun v7 H =>
   W.get v7 H fun v8 H =>
   W.indexAddr 1 v8 (.int .i64 0) H fun v9 H =>
   W.get v9 H fun v10 H =>
   W.len v10 H fun v11 H =>
   W.call Tryz.prog (.func (.func 49) #[] #[]) #[v11, (.int .i64 1), (.int .i64 4)] H fun v12 H =>
   W.guarded v12 true (fun H k => k v4 H) H fun v13 H =>
   W.guarded v12 true (fun H k => k v11 H) H fun v14 H =>
   W.guarded v12 true (fun H k => W.bin .add v13 v14 H k) H fun v15 H =>
   W.guarded v12 true (fun H k => W.bin .leq v15 (.int .i64 5) H k) H fun v16 H =>
   W.pick v12 v16 (.bool false) H fun v17 H =>
   W.guarded v17 true (fun H k => W.fieldAddr 0 v1 H k) H fun v18 H =>
   W.guarded v17 true (fun H k => W.get v18 H k) H fun v19 H =>
   W.guarded v17 true (fun H k => k v4 H) H fun v20 H =>
   W.guarded v17 true (fun H k => k v11 H) H fun v21 H =>
   W.guarded v17 true (fun H k => W.call Tryz.prog (.func (.func 92) #[] #[]) #[v19, v20, v21] H k) H fun v22 H =>
   W.pick v17 v22 (.bool false) H fun v23 H =>
   W.guarded v23 true (fun H k => W.fieldAddr 1 v1 H k) H fun v24 H =>
   W.guarded v23 true (fun H k => W.get v24 H k) H fun v25 H =>
   W.guarded v23 true (fun H k => k v4 H) H fun v26 H =>
   W.guarded v23 true (fun H k => k v11 H) H fun v27 H =>
   W.guarded v23 true (fun H k => W.call Tryz.prog (.func (.func 92) #[] #[]) #[v25, v26, v27] H k) H fun v28 H =>
   W.pick v23 v28 (.bool false) H fun v29 H =>
   Q v29 H)
theorem f28.enter {Q : Post} {g_0 : Value} {H : Heap} (h : f28.w Q g_0 H) : Runs Tryz.prog 28 #[g_0] H Q :=
  fn_enter (ann := []) (by kernel_rfl) Tryz.func28 rfl (by kernel_rfl) h (by kernel_rfl)

/- loop.example/g01343/spec.l07Is -/
def f57.l2 (Q : Post) (v19 : Value) (v1 : Value) (i_5 : Value) (I1 : St [5] → Heap → Prop) (I2 : St [6] → Heap → Prop) (j_6 : Value) (H : Heap) : Prop :=
  W.bin .lss j_6 v19 H fun v45 H =>
  W.cond v45 H
  (fun H => W.fieldAddr 0 v1 H fun v46 H =>
   W.get v46 H fun v47 H =>
   W.indexAddr 1 v47 i_5 H fun v48 H =>
   W.get v48 H fun v49 H =>
   W.indexAddr 1 v49 j_6 H fun v50 H =>
   W.get v50 H fun v51 H =>
   W.call Tryz.prog (.func (.func 59) #[] #[]) #[v51, (.int .i64 1), (.int .i64 20)] H fun v52 H =>
   W.un .not v52 H fun v53 H =>
   W.guarded v53 false (fun H k => W.fieldAddr 1 v1 H k) H fun v54 H =>
   W.guarded v53 false (fun H k => W.get v54 H k) H fun v55 H =>
   W.guarded v53 false (fun H k => k i_5 H) H fun v56 H =>
   W.guarded v53 false (fun H k => W.indexAddr 1 v55 v56 H k) H fun v57 H =>
   W.guarded v53 false (fun H k => W.get v57 H k) H fun v58 H =>
   W.guarded v53 false (fun H k => k j_6 H) H fun v59 H =>
   W.guarded v53 false (fun H k => W.indexAddr 1 v58 v59 H k) H fun v60 H =>
   W.guarded v53 false (fun H k => W.get v60 H k) H fun v61 H =>
   W.guarded v53 false (fun H k => W.call Tryz.prog (.func (.func 59) #[] #[]) #[v61, (.int .i64 1), (.int .i64 20)] H k) H fun v62 H =>
   W.guarded v53 false (fun H k => W.un .not v62 H k) H fun v63 H =>
   W.pick v53 (.bool true) v63 H fun v64 H =>
   W.cond v64 H
   (fun H => Q (.bool false) H)
   (fun H => W.bin .add j_6 (.int .i64 1) H fun v65 H =>
    I2 (v65, ()) H))
  (fun H => W.bin .add i_5 (.int .i64 1) H fun v66 H =>
   I1 (v66, ()) H)
def f57.l1 (Q : Post) (v4 : Value) (v1 : Value) (v19 : Value) (I1 : St [5] → Heap → Prop) (i_5 : Value) (H : Heap) : Prop :=
  W.bin .lss i_5 v4 H fun v29 H =>
  W.cond v29 H
  (fun H => W.fieldAddr 0 v1 H fun v30 H =>
   W.get v30 H fun v31 H =>
   W.indexAddr 1 v31 i_5 H fun v32 H =>
   W.get v32 H fun v33 H =>
   W.len v33 H fun v34 H =>
   W.bin .neq v34 v19 H fun v35 H =>
   W.guarded v35 false (fun H k => W.fieldAddr 1 v1 H k) H fun v36 H =>
   W.guarded v35 false (fun H k => W.get v36 H k) H fun v37 H =>
   W.guarded v35 false (fun H k => k i_5 H) H fun v38 H =>
   W.guarded v35 false (fun H k => W.indexAddr 1 v37 v38 H k) H fun v39 H =>
   W.guarded v35 false (fun H k => W.get v39 H k) H fun v40 H =>
   W.guarded v35 false (fun H k => W.len v40 H k) H fun v41 H =>
   W.guarded v35 false (fun H k => k v19 H) H fun v42 H =>
   W.guarded v35 false (fun H k => W.bin .neq v41 v42 H k) H fun v43 H =>
   W.pick v35 (.bool true) v43 H fun v44 H =>
   W.cond v44 H
   (fun H => Q (.bool false) H)
   (fun H => W.loop (S := St [6]) (fun I2 s H => f57.l2 Q v19 v1 i_5 I1 I2 s.1 H) ((.int .i64 0), ()) H))
  (fun H => Q (.bool true) H)
def f57.w (Q : Post) (g_0 : Value) (H : Heap) : Prop :=
  W.box g_0 26 H fun v1 H =>
  W.fieldAddr 0 v1 H fun v2 H =>
  W.get v2 H fun v3 H =>
  W.len v3 H fun v4 H =>
  W.bin .lss v4 (.int .i64 1) H fun v5 H =>
  W.guarded v5 false (fun H k => k v4 H) H fun v6 H =>
  W.guarded v5 false (fun H k => W.bin .gtr v6 (.int .i64 4) H k) H fun v7 H =>
  W.pick v5 (.bool true) v7 H fun v8 H =>
  W.guarded v8 false (fun H k => W.fieldAddr 1 v1 H k) H fun v9 H =>
  W.guarded v8 false (fun H k => W.get v9 H k) H fun v10 H =>
  W.guarded v8 false (fun H k => W.len v10 H k) H fun v11 H =>
  W.guarded v8 false (fun H k => k v4 H) H fun v12 H =>
  W.guarded v8 false (fun H k => W.bin .neq v11 v12 H k) H fun v13 H =>
  W.pick v8 (.bool true) v13 H fun v14 H =>
  W.cond v14 H
  (fun H => Q (.bool false) H)
  (fun H => W.fieldAddr 0 v1 H fun v15 H =>
   W.get v15 H fun v16 H =>
   W.indexAddr 1 v16 (.int .i64 0) H fun v17 H =>
   W.get v17 H fun v18 H =>
   W.len v18 H fun v19 H =>
   W.bin .lss v19 (.int .i64 1) H fun v20 H =>
   W.guarded v20 false (fun H k => k v19 H) H fun v21 H =>
   W.guarded v20 false (fun H k => W.bin .gtr v21 (.int .i64 4) H k) H fun v22 H =>
   W.pick v20 (.bool true) v22 H fun v23 H =>
   W.guarded v23 false (fun H k => k v4 H) H fun v24 H =>
   W.guarded v23 false (fun H k => k v19 H) H fun v25 H =>
   W.guarded v23 false (fun H k => W.bin .add v24 v25 H k) H fun v26 H =>
   W.guarded v23 false (fun H k => W.bin .gtr v26 (.int .i64 5) H k) H fun v27 H =>
   W.pick v23 (.bool true) v27 H fun v28 H =>
   W.cond v28 H
   (fun H => Q (.bool false) H)
   (fun H => W.loop (S := St [5]) (fun I1 s H => f57.l1 Q v4 v1 v19 I1 s.1 H) ((.int .i64 0), ()) H))
theorem f57.enter {Q : Post} {g_0 : Value} {H : Heap} (h : f57.w Q g_0 H) : Runs Tryz.prog 57 #[g_0] H Q :=
  fn_enter (ann := [(8, [5]), (13, [6])]) (by kernel_rfl) Tryz.func57 rfl (by kernel_rfl) h (by kernel_rfl)


def lw (g : Game) : Nat := (g.1.getD 0 []).length

/-- A game: two tables of numbers. -/
structure IsGm (g : Game) : Prop where
  k1 : 1 ≤ g.1.length
  k4 : g.1.length ≤ 4
  l1 : 1 ≤ lw g
  l4 : lw g ≤ 4
  kl : g.1.length + lw g ≤ 5
  bl : g.2.length = g.1.length
  a : ∀ r ∈ g.1, r.length = lw g ∧ ∀ x ∈ r, 1 ≤ x ∧ x ≤ 20
  b : ∀ r ∈ g.2, r.length = lw g ∧ ∀ x ∈ r, 1 ≤ x ∧ x ≤ 20

def rowOk (l : Nat) (r : List Int) : Bool := decide (r.length = l) && r.all (inR 1 20)
def isTab (k l : Nat) (m : List (List Int)) : Bool := decide (m.length = k) && m.all (rowOk l)

theorem rowOk_iff {l : Nat} {r : List Int} : rowOk l r = true ↔ r.length = l ∧ ∀ x ∈ r, 1 ≤ x ∧ x ≤ 20 := by
  simp [rowOk, inR, List.all_eq_true]
theorem isTab_iff {k l : Nat} {m : List (List Int)} : isTab k l m = true ↔ m.length = k ∧ ∀ r ∈ m, r.length = l ∧ ∀ x ∈ r, 1 ≤ x ∧ x ≤ 20 := by
  simp only [isTab, Bool.and_eq_true, decide_eq_true_iff, List.all_eq_true, rowOk_iff]

theorem fn92 {H0 : Heap} {Q : Post} {v : Value} {m : List (List Int)} {k l : Nat} (hr : Has RSS H0 [v] m) (hQ : ∀ H', H0.Le H' → Q (.bool (isTab k l m)) H') : Runs Tryz.prog 92 #[v, .int .i64 (k : Nat), .int .i64 (l : Nat)] H0 Q := by
  have h := (Loc.start H0).lent hr
  unfold isTab at hQ
  refine f92.enter ?_
  unfold f92.w
  refine Wi.box1 rfl fun H1 l1 n1 k1 => ?_
  have h := h.to l1
  refine Wl.len h (Wi.eqlC (fun he => ?_) fun hne => ?_)
  · simp only [gw]
    rw [decide_eq_true (show m.length = k by omega)] at hQ
    obtain ⟨_, q⟩ := h.rd (cs := [v])
    refine Wi.call (contains131 _ _ _ _ _ (fun r => !rowOk l r) _ q ?_ fun H2 l2 => ?_)
    · intro H' bs u x K l' hx hK
      have hu : Has RS H' [u] x := ⟨_, hx⟩
      refine Wi.callV (f132.enter (Wl.lenH hu (Wi.get (l'.at k1 (by omega)) rfl (Wi.neqC (fun hne => ?_) fun heq => ?_))))
      · simp only [gw]
        have : K (.bool (!rowOk l x)) H' := hK _ (.refl _)
        unfold rowOk at this
        rw [decide_eq_false (show ¬ x.length = l by omega)] at this
        exact this
      · simp only [gw]
        refine Wi.call (contains118 _ _ _ _ _ (fun n => !inR 1 20 n) _ hx ?_ fun H3 l3 => ?_)
        · intro H4 bs u x K l hr hK
          obtain ⟨_, hu, _⟩ := hr
          simp only [List.cons.injEq, and_true] at hu
          subst hu
          exact Wi.callV (f133.enter (Wi.call (fn49 (Wi.not (hK _ (.refl _))))))
        · have : K (.bool (!rowOk l x)) H3 := hK _ l3
          unfold rowOk at this
          rw [decide_eq_true (show x.length = l by omega), Bool.true_and, List.all_eq_not_any_not, Bool.not_not] at this
          exact this
    · refine Wi.not ?_
      have := hQ _ (h.le.trans l2)
      rw [Bool.true_and, List.all_eq_not_any_not] at this
      exact this
  · simp only [gw]
    have := hQ _ h.le
    rw [decide_eq_false (show ¬ m.length = k by omega)] at this
    exact this

theorem lw_at {g : Game} (h : 0 < g.1.length) : lw g = g.1[0].length := by
  simp [lw, List.getD_eq_getElem?_getD, List.getElem?_eq_getElem h]

theorem fn28 {H0 : Heap} {Q : Post} {cs : List Value} {g : Game} (hr : Has RGame H0 cs g) (hw : wGame g ≤ 1048576) (hQ : ∀ H' b, H0.Le H' → (b = true ↔ IsGm g) → Q (.bool b) H') : Runs Tryz.prog 28 #[.agg cs.toArray] H0 Q := by
  obtain ⟨u1, u2, rfl, r1, r2⟩ := hasGame hr
  simp only [szp, wl] at hw
  have hF : ∀ H', H0.Le H' → ¬ IsGm g → Q (.bool false) H' := fun H' l h => hQ H' _ l ⟨fun e => Bool.noConfusion e, fun g => absurd g h⟩
  have h := ((Loc.start H0).lent r1).lent r2
  refine f28.enter ?_
  unfold f28.w
  refine Wl.box h fun H b h => Wi.fieldAddr0 (Wl.get h rfl (Wl.len h (Wi.call (fn49 ?_))))
  cases hk : inR 1 4 (g.1.length : Int) with
  | false =>
    simp only [gw]
    exact hF _ h.le fun q => by rw [inR_iff.2 ⟨by have := q.k1; omega, by have := q.k4; omega⟩] at hk; cases hk
  | true =>
  have hk := inR_iff.1 hk
  have hk0 : 0 < g.1.length := by omega
  have hlw := lw_at hk0
  simp only [gw]
  refine Wi.fieldAddr0 (Wl.get h rfl (Wl.at1 (i := 0) rfl h hk0 fun w hw => Wl.lenH hw (Wi.call (fn49 ?_))))
  rw [← hlw]
  cases hl : inR 1 4 (lw g : Int) with
  | false =>
    simp only [gw]
    exact hF _ h.le fun q => by rw [inR_iff.2 ⟨by have := q.l1; omega, by have := q.l4; omega⟩] at hl; cases hl
  | true =>
  have hl := inR_iff.1 hl
  simp only [gw]
  refine Wi.add (by unfold I64; omega) (Wi.leqC (fun hle => ?_) fun hgt => ?_)
  · simp only [gw]
    refine Wi.fieldAddr0 (Wl.get h rfl (Wi.call (fn92 (h.rd (cs := [u1])) fun H l => ?_)))
    have h := h.to l
    cases ha : isTab g.1.length (lw g) g.1 with
    | false =>
      simp only [gw]
      exact hF _ h.le fun q => by rw [isTab_iff.2 ⟨rfl, q.a⟩] at ha; cases ha
    | true =>
    simp only [gw]
    refine Wi.fieldAddr (Wl.get h rfl (Wi.call (fn92 (h.rd (cs := [u2])) fun H l => ?_)))
    have h := h.to l
    refine hQ _ _ h.le ⟨fun hb => ?_, fun q => isTab_iff.2 ⟨q.bl, q.b⟩⟩
    have ha := isTab_iff.1 ha
    have hb := isTab_iff.1 hb
    exact ⟨by omega, by omega, by omega, by omega, by omega, hb.1, ha.2, hb.2⟩
  · simp only [gw]
    exact hF _ h.le fun q => by have := q.kl; omega

theorem fn57 {H0 : Heap} {Q : Post} {cs : List Value} {g : Game} (hr : Has RGame H0 cs g) (hw : wGame g ≤ 1048576) (hQ : ∀ H' b, H0.Le H' → (b = true ↔ IsGm g) → Q (.bool b) H') : Runs Tryz.prog 57 #[.agg cs.toArray] H0 Q := by
  obtain ⟨u1, u2, rfl, r1, r2⟩ := hasGame hr
  simp only [szp, wl] at hw
  have hF : ∀ H', H0.Le H' → ¬ IsGm g → Q (.bool false) H' := fun H' l h => hQ H' _ l ⟨fun e => Bool.noConfusion e, fun g => absurd g h⟩
  have h := ((Loc.start H0).lent r1).lent r2
  refine f57.enter ?_
  unfold f57.w
  refine Wl.box h fun H b h => Wi.fieldAddr0 (Wl.get h rfl (Wl.len h (Wi.lssC (fun hlt => ?_) fun h1 => ?_)))
  · simp only [gw]
    exact hF _ h.le fun q => by have := q.k1; omega
  simp only [gw]
  refine Wi.gtrC (fun hgt => ?_) fun h2 => ?_
  · simp only [gw]
    exact hF _ h.le fun q => by have := q.k4; omega
  simp only [gw]
  refine Wi.fieldAddr (Wl.get h rfl (Wl.len h (Wi.neqC (fun hne => ?_) fun hbl => ?_)))
  · simp only [gw]
    exact hF _ h.le fun q => by have := q.bl; omega
  simp only [gw]
  have hk0 : 0 < g.1.length := by omega
  have hlw := lw_at hk0
  refine Wi.fieldAddr0 (Wl.get h rfl (Wl.at1 (i := 0) rfl h hk0 fun w hw => Wl.lenH hw ?_))
  rw [← hlw]
  refine Wi.lssC (fun hlt => ?_) fun h3 => ?_
  · simp only [gw]
    exact hF _ h.le fun q => by have := q.l1; omega
  simp only [gw]
  refine Wi.gtrC (fun hgt => ?_) fun h4 => ?_
  · simp only [gw]
    exact hF _ h.le fun q => by have := q.l4; omega
  simp only [gw]
  refine Wi.add (by unfold I64; omega) (Wi.gtrC (fun hgt => ?_) fun h5 => ?_)
  · simp only [gw]
    exact hF _ h.le fun q => by have := q.kl; omega
  simp only [gw]
  have hgl : g.2.length = g.1.length := by omega
  refine W.for_rule g.1.length (fun i st H' => st = (.int .i64 (i : Nat), ()) ∧ H' = H ∧ ∀ j (hj : j < g.1.length), j < i → rowOk (lw g) g.1[j] = true ∧ rowOk (lw g) (g.2[j]'(by omega)) = true) ⟨rfl, rfl, fun j _ hj => by omega⟩ ?_
  rintro i st H' J hi ⟨rfl, rfl, hok⟩ hJ
  refine Wi.lssC (fun hlt => Wi.tru ?_) fun hge => Wi.fls ?_
  · have hik : i < g.1.length := by omega
    have hib : i < g.2.length := by omega
    refine Wi.fieldAddr0 (Wl.get h rfl (Wl.at1 rfl h hik fun w hw => Wl.lenH hw (Wi.neqC (fun hne => ?_) fun ha => ?_)))
    · simp only [gw]
      exact hF _ h.le fun q => by have := (q.a _ (List.getElem_mem hik)).1; omega
    simp only [gw]
    refine Wi.fieldAddr (Wl.get h rfl (Wl.at1 rfl h hib fun w2 hw2 => Wl.lenH hw2 (Wi.neqC (fun hne => ?_) fun hb => ?_)))
    · simp only [gw]
      exact hF _ h.le fun q => by have := (q.b _ (List.getElem_mem hib)).1; omega
    simp only [gw]
    refine W.for_rule (lw g) (fun j st H2 => st = (.int .i64 (j : Nat), ()) ∧ H2 = H' ∧ ∀ c (h1 : c < g.1[i].length) (h2 : c < g.2[i].length), c < j → inR 1 20 g.1[i][c] = true ∧ inR 1 20 g.2[i][c] = true) ⟨rfl, rfl, fun c _ _ hc => by omega⟩ ?_
    rintro j st H2 J2 hj ⟨rfl, rfl, hok2⟩ hJ2
    refine Wi.lssC (fun hlt2 => Wi.tru ?_) fun hge2 => Wi.fls ?_
    · have hja : j < g.1[i].length := by omega
      have hjb : j < g.2[i].length := by omega
      refine Wi.fieldAddr0 (Wl.get h rfl (Wl.at1 rfl h hik fun w hw => Wl.atIntH hw hja fun _ => Wi.call (fn59 ?_)))
      cases ha2 : inR 1 20 g.1[i][j] with
      | false =>
        simp only [gw]
        exact hF _ h.le fun q => by rw [inR_iff.2 ((q.a _ (List.getElem_mem hik)).2 _ (List.getElem_mem hja))] at ha2; cases ha2
      | true =>
      simp only [gw]
      refine Wi.fieldAddr (Wl.get h rfl (Wl.at1 rfl h hib fun w hw => Wl.atIntH hw hjb fun _ => Wi.call (fn59 ?_)))
      cases hb2 : inR 1 20 g.2[i][j] with
      | false =>
        simp only [gw]
        exact hF _ h.le fun q => by rw [inR_iff.2 ((q.b _ (List.getElem_mem hib)).2 _ (List.getElem_mem hjb))] at hb2; cases hb2
      | true =>
      simp only [gw]
      refine Wi.add (by unfold I64; omega) (hJ2 _ _ (by omega) ⟨rfl, rfl, fun c h1 h2 hc => ?_⟩)
      by_cases e : c = j
      · subst e; exact ⟨ha2, hb2⟩
      · exact hok2 c h1 h2 (by omega)
    · refine Wi.add (by unfold I64; omega) (hJ _ _ (by omega) ⟨rfl, rfl, fun c hc hci => ?_⟩)
      by_cases e : c = i
      · subst e
        refine ⟨rowOk_iff.2 ⟨by omega, fun x hx => ?_⟩, rowOk_iff.2 ⟨by omega, fun x hx => ?_⟩⟩
        · obtain ⟨d, hd, rfl⟩ := List.mem_iff_getElem.1 hx
          exact inR_iff.1 (hok2 d hd (by omega) (by omega)).1
        · obtain ⟨d, hd, rfl⟩ := List.mem_iff_getElem.1 hx
          exact inR_iff.1 (hok2 d (by omega) hd (by omega)).2
      · exact hok c hc (by omega)
  · refine hQ _ _ h.le ⟨fun _ => ⟨by omega, by omega, by omega, by omega, by omega, hgl, fun r hr => ?_, fun r hr => ?_⟩, fun _ => rfl⟩
    · obtain ⟨d, hd, rfl⟩ := List.mem_iff_getElem.1 hr
      exact rowOk_iff.1 (hok d hd (by omega)).1
    · obtain ⟨d, hd, rfl⟩ := List.mem_iff_getElem.1 hr
      exact rowOk_iff.1 (hok d (by omega) (by omega)).2

end Go.Proofs.YtbcfknboheghkaaGreat

/-! The contract of slices.Repeat for a list of one number. No condition. -/
namespace Go.Proofs.YtbcfknboheghkaaGreat
open Go.Ab

/- math/bits.Mul -/
def f140.w (Q : Post) (x_0 : Value) (y_1 : Value) (H : Heap) : Prop :=
  W.cond (.bool false) H
  (fun H => W.conv .u32 x_0 H fun v1 H =>
   W.conv .u32 y_1 H fun v2 H =>
   W.call Tryz.prog (.func (.func 155) #[] #[]) #[v1, v2] H fun v3 H =>
   W.extract 0 v3 H fun v4 H =>
   W.extract 1 v3 H fun v5 H =>
   W.conv .u64 v4 H fun v6 H =>
   W.conv .u64 v5 H fun v7 H =>
   Q (.tuple #[v6, v7]) H)
  (fun H => W.call Tryz.prog (.func (.func 156) #[] #[]) #[x_0, y_1] H fun v8 H =>
   W.extract 0 v8 H fun v9 H =>
   W.extract 1 v8 H fun v10 H =>
   Q (.tuple #[v9, v10]) H)
theorem f140.enter {Q : Post} {x_0 : Value} {y_1 : Value} {H : Heap} (h : f140.w Q x_0 y_1 H) : Runs Tryz.prog 140 #[x_0, y_1] H Q :=
  fn_enter (ann := []) (by kernel_rfl) Tryz.func140 rfl (by kernel_rfl) h (by kernel_rfl)

/- math/bits.Mul64 -/
def f156.w (Q : Post) (x_0 : Value) (y_1 : Value) (H : Heap) : Prop :=
  W.bin .and x_0 (.int .u64 4294967295) H fun v1 H =>
  W.bin .shr x_0 (.int .u64 32) H fun v2 H =>
  W.bin .and y_1 (.int .u64 4294967295) H fun v3 H =>
  W.bin .shr y_1 (.int .u64 32) H fun v4 H =>
  W.bin .mul v1 v3 H fun v5 H =>
  W.bin .mul v2 v3 H fun v6 H =>
  W.bin .shr v5 (.int .u64 32) H fun v7 H =>
  W.bin .add v6 v7 H fun v8 H =>
  W.bin .and v8 (.int .u64 4294967295) H fun v9 H =>
  W.bin .shr v8 (.int .u64 32) H fun v10 H =>
  W.bin .mul v1 v4 H fun v11 H =>
  W.bin .add v9 v11 H fun v12 H =>
  W.bin .mul v2 v4 H fun v13 H =>
  W.bin .add v13 v10 H fun v14 H =>
  W.bin .shr v12 (.int .u64 32) H fun v15 H =>
  W.bin .add v14 v15 H fun v16 H =>
  W.bin .mul x_0 y_1 H fun v17 H =>
  Q (.tuple #[v16, v17]) H
theorem f156.enter {Q : Post} {x_0 : Value} {y_1 : Value} {H : Heap} (h : f156.w Q x_0 y_1 H) : Runs Tryz.prog 156 #[x_0, y_1] H Q :=
  fn_enter (ann := []) (by kernel_rfl) Tryz.func156 rfl (by kernel_rfl) h (by kernel_rfl)

/- slices.Repeat[[]int64,int64] -/
def f108.l1 (Q : Post) (v13 : Value) (I1 : St [8] → Heap → Prop) (n_8 : Value) (H : Heap) : Prop :=
  W.len v13 H fun v15 H =>
  W.bin .lss n_8 v15 H fun v16 H =>
  W.cond v16 H
  (fun H => W.slice 1 v13 (some n_8) none H fun v17 H =>
   W.slice 1 v13 none (some n_8) H fun v18 H =>
   W.copy 1 v17 v18 H fun v19 H =>
   W.bin .add n_8 v19 H fun v20 H =>
   I1 (v20, ()) H)
  (fun H => Q v13 H)
def f108.w (Q : Post) (x_0 : Value) (count_1 : Value) (H : Heap) : Prop :=
  W.bin .lss count_1 (.int .i64 0) H fun v1 H =>
  W.cond v1 H
  (fun H => W.no H)
  (fun H => W.len x_0 H fun v2 H =>
   W.conv .u64 v2 H fun v3 H =>
   W.conv .u64 count_1 H fun v4 H =>
   W.call Tryz.prog (.func (.func 140) #[] #[]) #[v3, v4] H fun v5 H =>
   W.extract 0 v5 H fun v6 H =>
   W.extract 1 v5 H fun v7 H =>
   W.bin .gtr v6 (.int .u64 0) H fun v8 H =>
   W.guarded v8 false (fun H k => k v7 H) H fun v9 H =>
   W.guarded v8 false (fun H k => W.bin .gtr v9 (.int .u64 9223372036854775807) H k) H fun v10 H =>
   W.pick v8 (.bool true) v10 H fun v11 H =>
   W.cond v11 H
   (fun H => W.no H)
   (fun H => W.conv .i64 v7 H fun v12 H =>
    W.make [(.int .i64 0)] 2 v12 v12 H fun v13 H =>
    W.copy 1 v13 x_0 H fun v14 H =>
    W.loop (S := St [8]) (fun I1 s H => f108.l1 Q v13 I1 s.1 H) (v14, ()) H))
theorem f108.enter {Q : Post} {x_0 : Value} {count_1 : Value} {H : Heap} (h : f108.w Q x_0 count_1 H) : Runs Tryz.prog 108 #[x_0, count_1] H Q :=
  fn_enter (ann := [(8, [8])]) (by kernel_rfl) Tryz.func108 rfl (by kernel_rfl) h (by kernel_rfl)


section
variable {H : Heap} {k : Post}
theorem u64w {n : Nat} (h : n < 18446744073709551616) : IntKind.u64.wrap (n : Int) = n := by
  simp only [IntKind.wrap, IntKind.signed, IntKind.bits]
  simp
  omega

theorem Wi.u64and {a : Nat} (ha : a < 4294967296) (h : k (.int .u64 (a : Nat)) H) : W.bin .and (.int .u64 (a : Nat)) (.int .u64 4294967295) H k := by
  have e : ((BitVec.ofInt IntKind.u64.bits (a : Int) &&& BitVec.ofInt IntKind.u64.bits 4294967295).toNat : Int) = ((a : Nat) : Int) := by
    congr 1
    have h1 : (BitVec.ofInt 64 (4294967295 : Int)).toNat = 2 ^ 32 - 1 := by decide
    have h2 : (BitVec.ofInt 64 (a : Int)).toNat = a % 2 ^ 64 := by
      rw [BitVec.ofInt_natCast, BitVec.toNat_ofNat]
    show (BitVec.ofInt 64 (a : Int) &&& BitVec.ofInt 64 (4294967295 : Int)).toNat = a
    rw [BitVec.toNat_and, h1, h2, Nat.and_two_pow_sub_one_eq_mod]
    omega
  simp only [W.bin, binEval, intEval, if_true]
  rw [e, u64w (by omega)]
  exact h

theorem Wi.u64shr {a : Nat} (ha : a < 4294967296) (h : k (.int .u64 ((0 : Nat) : Int)) H) : W.bin .shr (.int .u64 (a : Nat)) (.int .u64 32) H k := by
  have e : ((a : Int).fdiv (2 ^ (min ((32 : Int).toNat) IntKind.u64.bits))) = ((0 : Nat) : Int) := by
    have : min ((32 : Int).toNat) IntKind.u64.bits = 32 := by decide
    rw [this, Int.fdiv_eq_ediv_of_nonneg _ (by decide)]
    omega
  simp only [W.bin, binEval]
  rw [if_neg (by omega), e]
  exact h

theorem Wi.u64mul {a b : Nat} (hab : a * b < 18446744073709551616) (h : k (.int .u64 ((a * b : Nat) : Int)) H) : W.bin .mul (.int .u64 (a : Nat)) (.int .u64 (b : Nat)) H k := by
  simp only [W.bin, binEval, intEval, if_true]
  rw [show (a : Int) * (b : Int) = ((a * b : Nat) : Int) by simp, u64w hab]
  exact h

theorem Wi.u64add {a b : Nat} (hab : a + b < 18446744073709551616) (h : k (.int .u64 ((a + b : Nat) : Int)) H) : W.bin .add (.int .u64 (a : Nat)) (.int .u64 (b : Nat)) H k := by
  simp only [W.bin, binEval, intEval, if_true]
  rw [show (a : Int) + (b : Int) = ((a + b : Nat) : Int) by simp, u64w hab]
  exact h

theorem Wi.toI64 {n : Nat} (hn : n < 9223372036854775808) (h : k (.int .i64 (n : Nat)) H) : W.conv .i64 (.int .u64 (n : Nat)) H k := by
  show k (.int .i64 (IntKind.i64.wrap n)) H
  rw [wrap_id (by unfold I64; omega)]
  exact h
end

theorem fn156 {H0 : Heap} {Q : Post} {a b : Nat} (ha : a < 4294967296) (hb : b < 4294967296) (hab : a * b < 4294967296) (hQ : Q (.tuple #[.int .u64 0, .int .u64 ((a * b : Nat) : Int)]) H0) : Runs Tryz.prog 156 #[.int .u64 (a : Nat), .int .u64 (b : Nat)] H0 Q := by
  refine f156.enter ?_
  unfold f156.w
  refine Wi.u64and ha (Wi.u64shr ha (Wi.u64and hb (Wi.u64shr hb (Wi.u64mul (by omega) (Wi.u64mul (by omega) (Wi.u64shr hab (Wi.u64add (by omega) (Wi.u64and (by omega) (Wi.u64shr (by omega) (Wi.u64mul (by omega) (Wi.u64add (by omega) (Wi.u64mul (by omega) (Wi.u64add (by omega) (Wi.u64shr (by omega) (Wi.u64add (by omega) (Wi.u64mul (by omega) ?_))))))))))))))))
  exact hQ

theorem fn140 {H0 : Heap} {Q : Post} {a b : Nat} (ha : a < 4294967296) (hb : b < 4294967296) (hab : a * b < 4294967296) (hQ : Q (.tuple #[.int .u64 0, .int .u64 ((a * b : Nat) : Int)]) H0) : Runs Tryz.prog 140 #[.int .u64 (a : Nat), .int .u64 (b : Nat)] H0 Q := by
  refine f140.enter ?_
  unfold f140.w
  refine Wi.fls (Wi.call (fn156 ha hb hab ?_))
  simp only [gw]
  exact hQ

theorem rep_first {c : Int} {n : Nat} (h : 0 < n) : (List.replicate n (0 : Int)).take 0 ++ [c].take 1 ++ (List.replicate n (0 : Int)).drop (0 + 1) = List.replicate 1 c ++ List.replicate (n - 1) 0 := by
  simp

theorem rep_step {c : Int} {n m k : Nat} (hm : m < n) (hk : k = min m (n - m)) : (List.replicate m c ++ List.replicate (n - m) (0 : Int)).take m ++ ((List.replicate m c ++ List.replicate (n - m) (0 : Int)).take m).take k ++ (List.replicate m c ++ List.replicate (n - m) (0 : Int)).drop (m + k) = List.replicate (m + k) c ++ List.replicate (n - (m + k)) 0 := by
  have h1 : (List.replicate m c ++ List.replicate (n - m) (0 : Int)).take m = List.replicate m c := List.take_left' (by simp)
  rw [h1]
  apply List.ext_getElem
  · simp; omega
  · intro i h2 h3
    simp only [List.getElem_append, List.getElem_take, List.getElem_drop, List.length_append, List.length_take, List.length_replicate, List.getElem_replicate]
    split <;> split <;> (try split) <;> first | rfl | omega

theorem fn108 {H0 : Heap} {Q : Post} {v : Value} {c : Int} {n : Nat} (hr : Has RS H0 [v] [c]) (hn0 : 0 < n) (hn : n ≤ 1048576) (hQ : ∀ H' u, FreshG Rd.int 2 H0 u (List.replicate n c) H' → Q u H') : Runs Tryz.prog 108 #[v, .int .i64 (n : Nat)] H0 Q := by
  have h := (Loc.start H0).lent hr
  refine f108.enter (Wi.lssC (fun hlt => by omega) fun _ => Wi.fls (Wl.len h (Wi.convN (by simp) (Wi.convN (by omega) (Wi.call (fn140 (by simp) (by omega) (by simp; omega) ?_))))))
  simp only [gw]
  refine Wi.gtrC (fun g => by omega) fun _ => ?_
  simp only [gw]
  rw [show [c].length * n = n by simp]
  refine Wi.gtrC (fun g => by omega) fun _ => ?_
  simp only [gw]
  refine Wi.toI64 (by omega) (Wl.make (r := Rd.int) (z := 0) (m := n) (fun _ => ⟨rfl, rfl, by unfold I64; omega⟩) h (by omega) (by decide) fun H u h => ?_)
  refine Wl.copyIn (k := 1) h (by simp; omega) (by omega) (h.rd (cs := [v])) fun H h => ?_
  rw [rep_first hn0] at h
  refine W.loop_rule (fun s H => ∃ m : Nat, s = (.int .i64 (m : Nat), ()) ∧ 1 ≤ m ∧ m ≤ n ∧ Ab.Loc H0 [.grow Rd.int 2 u (List.replicate m c ++ List.replicate (n - m) 0), .lent RS [v] [c]] H) (fun s _ => match s.1 with | .int _ d => n - d.toNat | _ => 0) ⟨1, rfl, Nat.le_refl _, hn0, h⟩ ?_
  rintro s H ⟨m, rfl, hm1, hmn, h⟩
  refine Wl.len h ?_
  rw [show (List.replicate m c ++ List.replicate (n - m) (0 : Int)).length = n by simp; omega]
  refine Wi.lssC (fun hlt => Wi.tru ?_) fun hge => Wi.fls ?_
  · have hmn2 : m < n := by omega
    refine copySelf_ok (n := m) (k := min m (n - m)) h (by omega) (by simp; omega) (by simp) fun H h => ?_
    rw [rep_step hmn2 rfl] at h
    refine Wi.add (by unfold I64; omega) ⟨⟨m + min m (n - m), by rw [Int.natCast_add]; rfl, by omega, by omega, h⟩, ?_⟩
    show n - ((m : Int) + ((min m (n - m) : Nat) : Int)).toNat < n - ((m : Nat) : Int).toNat
    omega
  · have : m = n := by omega
    subst this
    rw [Nat.sub_self, List.replicate_zero, List.append_nil] at h
    exact hQ _ _ (h.retGG (i := 0) rfl)

end Go.Proofs.YtbcfknboheghkaaGreat

/-! A game's problem, as a plain value; the contract of the program's. No condition. -/
namespace Go.Proofs.YtbcfknboheghkaaGreat
open Go.Ab

/- (loop.example/g01343/impl.Game).sizes -/
def f48.w (Q : Post) (g_0 : Value) (H : Heap) : Prop :=
  W.box g_0 26 H fun v1 H =>
  W.fieldAddr 0 v1 H fun v2 H =>
  W.get v2 H fun v3 H =>
  W.len v3 H fun v4 H =>
  W.fieldAddr 0 v1 H fun v5 H =>
  W.get v5 H fun v6 H =>
  W.indexAddr 1 v6 (.int .i64 0) H fun v7 H =>
  W.get v7 H fun v8 H =>
  W.len v8 H fun v9 H =>
  Q (.tuple #[v4, v9]) H
theorem f48.enter {Q : Post} {g_0 : Value} {H : Heap} (h : f48.w Q g_0 H) : Runs Tryz.prog 48 #[g_0] H Q :=
  fn_enter (ann := []) (by kernel_rfl) Tryz.func48 rfl (by kernel_rfl) h (by kernel_rfl)

/- (loop.example/g01343/impl.Game).problem -/
def f51.l3 (Q : Post) (v6 : Value) (v11 : Value) (x_35 : Value) (v5 : Value) (v1 : Value) (I2 : St [35] → Heap → Prop) (I3 : St [39] → Heap → Prop) (x_39 : Value) (H : Heap) : Prop :=
  W.bin .lss x_39 v6 H fun v23 H =>
  W.cond v23 H
  (fun H => W.fieldAddr 0 v11 H fun v24 H =>
   W.get v24 H fun v25 H =>
   W.indexAddr 1 v25 x_35 H fun v26 H =>
   W.get v26 H fun v27 H =>
   W.bin .add v5 x_39 H fun v28 H =>
   W.fieldAddr 0 v1 H fun v29 H =>
   W.get v29 H fun v30 H =>
   W.indexAddr 1 v30 x_35 H fun v31 H =>
   W.get v31 H fun v32 H =>
   W.indexAddr 1 v32 x_39 H fun v33 H =>
   W.get v33 H fun v34 H =>
   W.un .neg v34 H fun v35 H =>
   W.indexAddr 1 v27 v28 H fun v36 H =>
   W.put v36 v35 H fun _ H =>
   W.fieldAddr 0 v11 H fun v37 H =>
   W.get v37 H fun v38 H =>
   W.bin .add v5 x_39 H fun v39 H =>
   W.indexAddr 1 v38 v39 H fun v40 H =>
   W.get v40 H fun v41 H =>
   W.fieldAddr 1 v1 H fun v42 H =>
   W.get v42 H fun v43 H =>
   W.indexAddr 1 v43 x_35 H fun v44 H =>
   W.get v44 H fun v45 H =>
   W.indexAddr 1 v45 x_39 H fun v46 H =>
   W.get v46 H fun v47 H =>
   W.un .neg v47 H fun v48 H =>
   W.indexAddr 1 v41 x_35 H fun v49 H =>
   W.put v49 v48 H fun _ H =>
   W.bin .add x_39 (.int .i64 1) H fun v50 H =>
   I3 (v50, ()) H)
  (fun H => W.bin .add x_35 (.int .i64 1) H fun v51 H =>
   I2 (v51, ()) H)
def f51.l2 (Q : Post) (v5 : Value) (v6 : Value) (v11 : Value) (v1 : Value) (v2 : Value) (I2 : St [35] → Heap → Prop) (x_35 : Value) (H : Heap) : Prop :=
  W.bin .lss x_35 v5 H fun v22 H =>
  W.cond v22 H
  (fun H => W.loop (S := St [39]) (fun I3 s H => f51.l3 Q v6 v11 x_35 v5 v1 I2 I3 s.1 H) ((.int .i64 0), ()) H)
  (fun H => W.getN 2 v11 H fun v52 H =>
   W.putN 2 v2 v52 H fun _ H =>
   W.getN 2 v2 H fun v53 H => Q v53 H)
def f51.l1 (Q : Post) (v12 : Value) (v11 : Value) (v5 : Value) (v6 : Value) (v1 : Value) (v2 : Value) (I1 : St [22] → Heap → Prop) (x_22 : Value) (H : Heap) : Prop :=
  W.bin .lss x_22 v12 H fun v13 H =>
  W.cond v13 H
  (fun H => W.fieldAddr 0 v11 H fun v14 H =>
   W.get v14 H fun v15 H =>
   W.bin .add v5 v6 H fun v16 H =>
   W.make [(.int .i64 0)] 2 v16 v16 H fun v17 H =>
   W.lit 1 [(.slice none 0 0)] 35 [(0, 1, v17)] H fun v18 H =>
   W.append 1 35 v15 v18 H fun v19 H =>
   W.fieldAddr 0 v11 H fun v20 H =>
   W.put v20 v19 H fun _ H =>
   W.bin .add x_22 (.int .i64 1) H fun v21 H =>
   I1 (v21, ()) H)
  (fun H => W.loop (S := St [35]) (fun I2 s H => f51.l2 Q v5 v6 v11 v1 v2 I2 s.1 H) ((.int .i64 0), ()) H)
def f51.w (Q : Post) (g_0 : Value) (H : Heap) : Prop :=
  W.box g_0 26 H fun v1 H =>
  W.new [(.slice none 0 0), (.slice none 0 0)] 43 H fun v2 H =>
  W.getN 2 v1 H fun v3 H =>
  W.call Tryz.prog (.func (.func 48) #[] #[]) #[v3] H fun v4 H =>
  W.extract 0 v4 H fun v5 H =>
  W.extract 1 v4 H fun v6 H =>
  W.lit 1 [(.int .i64 0)] 2 [(0, 1, (.int .i64 1))] H fun v7 H =>
  W.bin .add v5 v6 H fun v8 H =>
  W.call Tryz.prog (.func (.func 108) #[] #[]) #[v7, v8] H fun v9 H =>
  W.build [(.slice none 0 0), (.slice none 0 0)] [(1, 1, v9)] H fun v10 H =>
  W.new [(.slice none 0 0), (.slice none 0 0)] 43 H fun v11 H =>
  W.putN 2 v11 v10 H fun _ H =>
  W.bin .add v5 v6 H fun v12 H =>
  W.loop (S := St [22]) (fun I1 s H => f51.l1 Q v12 v11 v5 v6 v1 v2 I1 s.1 H) ((.int .i64 0), ()) H
theorem f51.enter {Q : Post} {g_0 : Value} {H : Heap} (h : f51.w Q g_0 H) : Runs Tryz.prog 51 #[g_0] H Q :=
  fn_enter (ann := [(4, [22]), (8, [35]), (11, [39])]) (by kernel_rfl) Tryz.func51 rfl (by kernel_rfl) h (by kernel_rfl)


abbrev nG (g : Game) : Nat := g.1.length + lw g
def gmE (g : Game) (r c : Nat) : Int := if r < g.1.length ∧ g.1.length ≤ c then -(mAt g.1 r (c - g.1.length)) else if g.1.length ≤ r ∧ c < g.1.length then -(mAt g.2 c (r - g.1.length)) else 0
def gmP (g : Game) : Prob := (tabL (nG g) (gmE g), List.replicate (nG g) 1)
noncomputable def gmRes (g : Game) : Prob × Int := open Classical in if IsGm g then (gmP g, 0) else (([], []), 1)

theorem tabL_len (n : Nat) (f : Nat → Nat → Int) : (tabL n f).length = n := by simp [tabL]
theorem tabL_row {n : Nat} {f : Nat → Nat → Int} {r : Nat} (h : r < (tabL n f).length) : (tabL n f)[r] = (List.range n).map (f r) := by simp [tabL]
theorem tabL_congr {n : Nat} {f g : Nat → Nat → Int} (h : ∀ r c, r < n → c < n → f r c = g r c) : tabL n f = tabL n g :=
  List.map_congr_left fun r hr => List.map_congr_left fun c hc => h r c (by simpa using hr) (by simpa using hc)

theorem range_set2 {n x : Nat} {f g : Nat → Int} {y : Int} (h : g x = y) (hk : ∀ k, k < n → k ≠ x → g k = f k) : ((List.range n).map f).set x y = (List.range n).map g := by
  apply List.ext_getElem
  · simp
  · intro k h1 h2
    have hkn : k < n := by simpa using h2
    rw [List.getElem_set]
    simp only [List.getElem_map, List.getElem_range]
    by_cases e : x = k
    · subst e; rw [if_pos rfl, h]
    · rw [if_neg e, hk k hkn (fun g => e g.symm)]

theorem tabL_set {n r c : Nat} {f g : Nat → Nat → Int} {y : Int} (hr : r < (tabL n f).length) (h : g r c = y) (hk : ∀ a b, a < n → b < n → ¬ (a = r ∧ b = c) → g a b = f a b) : (tabL n f).set r ((tabL n f)[r].set c y) = tabL n g := by
  have hrn : r < n := by rw [tabL_len] at hr; exact hr
  rw [tabL_row hr, range_set2 (g := g r) h fun k hkn hne => hk r k hrn hkn fun e => hne e.2]
  apply List.ext_getElem
  · simp [tabL]
  · intro k h1 h2
    have hkn : k < n := by simpa [tabL] using h2
    rw [List.getElem_set]
    by_cases e : r = k
    · subst e; rw [if_pos rfl, tabL_row]
    · rw [if_neg e, tabL_row, tabL_row]
      exact List.map_congr_left fun b hb => (hk k b hkn (by simpa using hb) fun q => e q.1.symm).symm

/-- What is written ahead of the j-th number of the i-th row. -/
def wr (k i j r c : Nat) : Prop := (r < k ∧ k ≤ c ∧ (r < i ∨ r = i ∧ c - k < j)) ∨ (k ≤ r ∧ c < k ∧ (c < i ∨ c = i ∧ r - k < j))
instance (k i j r c : Nat) : Decidable (wr k i j r c) := by unfold wr; infer_instance
def gmF (g : Game) (i j : Nat) : Nat → Nat → Int := fun r c => if wr g.1.length i j r c then gmE g r c else 0
/-- The same between the two numbers. -/
def gmF1 (g : Game) (i j : Nat) : Nat → Nat → Int := fun r c => if wr g.1.length i j r c ∨ (r = i ∧ c = g.1.length + j) then gmE g r c else 0

theorem gmF_zero (g : Game) : tabL (nG g) (gmF g 0 0) = List.replicate (nG g) (List.replicate (nG g) 0) := by
  have : tabL (nG g) (gmF g 0 0) = tabL (nG g) fun _ _ => 0 := tabL_congr fun r c _ _ => by
    unfold gmF
    rw [if_neg (by unfold wr; omega)]
  rw [this]
  simp [tabL, List.map_const']
theorem gmF_next {g : Game} (i : Nat) : tabL (nG g) (gmF g i (lw g)) = tabL (nG g) (gmF g (i + 1) 0) := tabL_congr fun r c hr hc => by
  have hnn : nG g = g.1.length + lw g := rfl
  have : wr g.1.length i (lw g) r c ↔ wr g.1.length (i + 1) 0 r c := by unfold wr; omega
  simp only [gmF, this]
theorem gmF_all (g : Game) : tabL (nG g) (gmF g g.1.length 0) = tabL (nG g) (gmE g) := tabL_congr fun r c hr hc => by
  unfold gmF
  split
  · rfl
  · rename_i h
    have hnn : nG g = g.1.length + lw g := rfl
    unfold wr at h
    unfold gmE
    rw [if_neg (by omega), if_neg (by omega)]

theorem gmE_abs {g : Game} (h : IsGm g) (r c : Nat) : (gmE g r c).natAbs ≤ 20 := by
  have q : ∀ (m : List (List Int)) (_ : ∀ r ∈ m, r.length = lw g ∧ ∀ x ∈ r, 1 ≤ x ∧ x ≤ 20) (a b : Nat), (mAt m a b).natAbs ≤ 20 := fun m hm a b => by
    simp only [mAt, List.getD_eq_getElem?_getD]
    cases e1 : m[a]? with
    | none => simp
    | some row =>
      simp only [Option.getD_some]
      cases e2 : row[b]? with
      | none => simp
      | some x =>
        have := (hm row (List.mem_of_getElem? e1)).2 x (List.mem_of_getElem? e2)
        simp only [Option.getD_some]
        omega
  unfold gmE
  split
  · rw [Int.natAbs_neg]; exact q _ h.a _ _
  · split
    · rw [Int.natAbs_neg]; exact q _ h.b _ _
    · decide

theorem fn51 {H0 : Heap} {Q : Post} {cs : List Value} {g : Game} (hr : Has RGame H0 cs g) (hg : IsGm g) (hQ : ∀ H' w1 w2, Fresh RProblem H0 [w1, w2] (gmP g) H' → Q (.agg #[w1, w2]) H') : Runs Tryz.prog 51 #[.agg cs.toArray] H0 Q := by
  obtain ⟨u1, u2, rfl, r1, r2⟩ := hasGame hr
  have k1 := hg.k1; have k4 := hg.k4; have l1 := hg.l1; have l4 := hg.l4; have kl := hg.kl; have bl := hg.bl
  have hk0 : 0 < g.1.length := by omega
  have hlw := lw_at hk0
  have h := ((Loc.start H0).lent r1).lent r2
  refine f51.enter ?_
  unfold f51.w
  refine Wl.box h fun H b h => Wl.new h fun H b2 h => Wl.getA h rfl (Wi.call (f48.enter (Wl.box h fun H b3 h => Wi.fieldAddr0 (Wl.get h rfl (Wl.len h (Wi.fieldAddr0 (Wl.get h rfl (Wl.at1 (i := 0) rfl h hk0 fun w hw => Wl.lenH hw ?_))))))))
  rw [← hlw]
  have h := h.tl
  simp only [gw]
  have hkl : ((g.1.length : Nat) : Int) + ((lw g : Nat) : Int) = ((nG g : Nat) : Int) := by simp [nG]
  have hn5 : nG g ≤ 5 := kl
  have hn2 : 2 ≤ nG g := by show 2 ≤ g.1.length + lw g; omega
  refine Wi.lit (cells := [.int .i64 1]) rfl fun H1 le1 n1' kk1 => ?_
  have h := h.to le1
  have hv : Has RS H1 [.slice (some (adr _ 0)) 1 (2 * 1)] [1] := ⟨_, .inr ⟨_, 0, _, _, fun _ => [], rfl, rfl, ⟨by omega, kk1, by simp, by simp, by simp [Rd.int], fun i hi => by
    match i, hi with
    | 0, _ => exact ⟨rfl, rfl, show I64 1 by unfold I64; omega⟩⟩⟩⟩
  refine Wi.add (by unfold I64; omega) ?_
  rw [hkl]
  refine Wi.call (fn108 (n := nG g) hv (by omega) (by omega) fun H q f => ?_)
  have h := (h.addG f).nilG RS 35
  have kq := f.fresh.read
  refine Wi.build (cells := [.slice none 0 0, q]) (by simp [fillA, kq.one]) (Wl.new h fun H b3 h => Wl.putA h rfl rfl (by have := kq.cell; simpa [isCell] using this) fun H h => Wi.add (by unfold I64; omega) ?_)
  rw [hkl]
  have kall : ∀ (m : Value) (H : Heap) (xs : List (List Int)), Has RSS H [m] xs → [m, q].all isCell = true := fun m H xs hg => by
    have k1 := hg.cell
    have k3 := kq.cell
    simp only [List.all_cons, List.all_nil, Bool.and_true] at k1 k3 ⊢
    rw [k1, k3]
    rfl
  refine W.for_rule (nG g) (fun x st H => ∃ m, st = (.int .i64 (x : Nat), ()) ∧ Ab.Loc H0 [.box b3 [m, q], .grow RS 35 m (List.replicate x (List.replicate (nG g) 0)), .grow Rd.int 2 q (List.replicate (nG g) 1), .box b2 [.slice none 0 0, .slice none 0 0], .box b [u1, u2], .lent RSS [u2] g.2, .lent RSS [u1] g.1] H) ⟨_, rfl, h⟩ ?_
  rintro x st H J hx ⟨m, rfl, h⟩ hJ
  refine Wi.lssC (fun hlt => Wi.tru ?_) fun hge => Wi.fls ?_
  · have hxn : x < nG g := by omega
    refine Wi.fieldAddr0 (Wl.get h rfl (Wi.add (by unfold I64; omega) ?_))
    rw [hkl]
    refine Wl.make (r := Rd.int) (z := 0) (m := nG g) (fun _ => ⟨rfl, rfl, by unfold I64; omega⟩) h (by omega) (by decide) fun H u h => Wl.pushG h (by simp; omega) fun H m' h => Wi.fieldAddr0 (Wl.put h (h.rd (cs := [m'])).cell1 (by simp) fun H h => Wi.add (by unfold I64; omega) (hJ _ _ hxn ⟨m', rfl, ?_⟩))
    rw [← List.replicate_succ'] at h
    exact h
  have hxe : x = nG g := by omega
  rw [hxe, ← gmF_zero] at h
  have h := (h.asData (i := 1) rfl).asData (i := 2) rfl
  obtain ⟨us, hus, h⟩ := h.heads (i := 1) rfl rfl
  rw [tabL_len] at hus
  refine W.for_rule g.1.length (fun i st H => st = (.int .i64 (i : Nat), ()) ∧ Ab.Loc H0 [.box b3 [m, q], .rows RS m us (tabL (nG g) (gmF g i 0)), .data RS [q] (List.replicate (nG g) 1), .box b2 [.slice none 0 0, .slice none 0 0], .box b [u1, u2], .lent RSS [u2] g.2, .lent RSS [u1] g.1] H) ⟨rfl, h⟩ ?_
  rintro i st H J2 hi ⟨rfl, h⟩ hJ2
  refine Wi.lssC (fun hlt2 => Wi.tru ?_) fun hge2 => Wi.fls ?_
  · have hik : i < g.1.length := by omega
    have hib : i < g.2.length := by omega
    have ha := hg.a _ (List.getElem_mem hik)
    have hb := hg.b _ (List.getElem_mem hib)
    refine W.for_rule (lw g) (fun j st H => st = (.int .i64 (j : Nat), ()) ∧ Ab.Loc H0 [.box b3 [m, q], .rows RS m us (tabL (nG g) (gmF g i j)), .data RS [q] (List.replicate (nG g) 1), .box b2 [.slice none 0 0, .slice none 0 0], .box b [u1, u2], .lent RSS [u2] g.2, .lent RSS [u1] g.1] H) ⟨rfl, h⟩ ?_
    rintro j st H J3 hj ⟨rfl, h⟩ hJ3
    refine Wi.lssC (fun hlt3 => Wi.tru ?_) fun hge3 => Wi.fls ?_
    · have hjl : j < lw g := by omega
      have hja : j < g.1[i].length := by omega
      have hjb : j < g.2[i].length := by omega
      have va := ha.2 _ (List.getElem_mem hja)
      have vb := hb.2 _ (List.getElem_mem hjb)
      have ekj : ((g.1.length : Nat) : Int) + ((j : Nat) : Int) = ((g.1.length + j : Nat) : Int) := by simp
      have hnn : nG g = g.1.length + lw g := rfl
      have tl := tabL_len (nG g) (gmF g i j)
      have hrow : i < (tabL (nG g) (gmF g i j)).length := by omega
      have eA : gmE g i (g.1.length + j) = -g.1[i][j] := by
        unfold gmE
        rw [if_pos ⟨hik, by omega⟩, show g.1.length + j - g.1.length = j by omega, mAt_at hik hja]
      have eB : gmE g (g.1.length + j) i = -g.2[i][j] := by
        unfold gmE
        rw [if_neg (by omega), if_pos ⟨by omega, hik⟩, show g.1.length + j - g.1.length = j by omega, mAt_at hib hjb]
      refine Wi.fieldAddr0 (Wl.get h rfl (Wl.atRow rfl h hrow fun w hw _ => Wi.add (by unfold I64; omega) ?_))
      rw [ekj]
      refine Wi.fieldAddr0 (Wl.get h rfl (Wl.at1 rfl h hik fun wa hwa => Wl.atIntH hwa hja fun _ => Wi.neg (by unfold I64; omega) (Wl.rowSet h (j := 1) rfl hw hrow (by rw [tabL_row]; simp; omega) (by unfold I64; omega) fun H h => ?_)))
      rw [tabL_set (g := gmF1 g i j) hrow (by unfold gmF1; rw [if_pos (.inr ⟨rfl, rfl⟩), eA]) fun a b _ _ hne => by
        unfold gmF1 gmF
        by_cases hw : wr g.1.length i j a b
        · rw [if_pos (.inl hw), if_pos hw]
        · rw [if_neg (fun q => q.elim hw hne), if_neg hw]] at h
      have tl1 := tabL_len (nG g) (gmF1 g i j)
      have hrow1 : g.1.length + j < (tabL (nG g) (gmF1 g i j)).length := by omega
      refine Wi.fieldAddr0 (Wl.get h rfl (Wi.add (by unfold I64; omega) ?_))
      rw [ekj]
      refine Wl.atRow rfl h hrow1 fun w2 hw2 _ => Wi.fieldAddr (Wl.get h rfl (Wl.at1 rfl h hib fun wb hwb => Wl.atIntH hwb hjb fun _ => Wi.neg (by unfold I64; omega) (Wl.rowSet h (j := 1) rfl hw2 hrow1 (by rw [tabL_row]; simp; omega) (by unfold I64; omega) fun H h => ?_)))
      rw [tabL_set (g := gmF g i (j + 1)) hrow1 (by unfold gmF; rw [if_pos (by unfold wr; omega), eB]) fun a b _ _ hne => by
        have : wr g.1.length i (j + 1) a b ↔ wr g.1.length i j a b ∨ (a = i ∧ b = g.1.length + j) := by unfold wr; omega
        simp only [gmF1, gmF, this]] at h
      exact Wi.add (by unfold I64; omega) (hJ3 _ _ hjl ⟨rfl, h⟩)
    · have : j = lw g := by omega
      subst this
      rw [gmF_next] at h
      exact Wi.add (by unfold I64; omega) (hJ2 _ _ hik ⟨rfl, h⟩)
  · have : i = g.1.length := by omega
    subst this
    rw [gmF_all] at h
    have h := h.unrows (i := 1) rfl
    refine Wl.getA h rfl (Wl.putA h rfl rfl (kall _ _ _ (h.rd (cs := [m]))) fun H h => Wl.getA h rfl (hQ _ _ _ ?_))
    exact h.ret2 (i := 1) (j := 2) rfl rfl (by omega)

end Go.Proofs.YtbcfknboheghkaaGreat

/-! Contracts of total and mixes, the program's. No condition. -/
namespace Go.Proofs.YtbcfknboheghkaaGreat
open Go.Ab

/- loop.example/g01343/impl.total -/
def f84.l1 (Q : Post) (v1 : Value) (list_0 : Value) (I1 : St [3, 8] → Heap → Prop) (n_3 : Value) (x_8 : Value) (H : Heap) : Prop :=
  W.bin .lss x_8 v1 H fun v2 H =>
  W.cond v2 H
  (fun H => W.indexAddr 1 list_0 x_8 H fun v3 H =>
   W.get v3 H fun v4 H =>
   W.bin .add n_3 v4 H fun v5 H =>
   W.bin .add x_8 (.int .i64 1) H fun v6 H =>
   I1 (v5, v6, ()) H)
  (fun H => Q n_3 H)
def f84.w (Q : Post) (list_0 : Value) (H : Heap) : Prop :=
  W.len list_0 H fun v1 H =>
  W.loop (S := St [3, 8]) (fun I1 s H => f84.l1 Q v1 list_0 I1 s.1 s.2.1 H) ((.int .i64 0), (.int .i64 0), ()) H
theorem f84.enter {Q : Post} {list_0 : Value} {H : Heap} (h : f84.w Q list_0 H) : Runs Tryz.prog 84 #[list_0] H Q :=
  fn_enter (ann := [(3, [3, 8])]) (by kernel_rfl) Tryz.func84 rfl (by kernel_rfl) h (by kernel_rfl)

/- (loop.example/g01343/impl.Game).mixes -/
def f54.w (Q : Post) (g_0 : Value) (z_1 : Value) (H : Heap) : Prop :=
  W.box g_0 26 H fun v1 H =>
  W.getN 2 v1 H fun v2 H =>
  W.call Tryz.prog (.func (.func 48) #[] #[]) #[v2] H fun v3 H =>
  W.extract 0 v3 H fun v4 H =>
  W.extract 1 v3 H fun v5 H =>
  W.slice 1 z_1 none (some v4) H fun v6 H =>
  W.slice 1 z_1 none (some v4) H fun v7 H =>
  W.callQ Tryz.prog (.func (.func 84) #[] #[]) #[v7] H fun v8 H =>
  W.callQ Tryz.prog (.func (.func 112) #[] #[]) #[v6, v8] H fun v9 H =>
  W.extract 0 v9 H fun v10 H =>
  W.extract 1 v9 H fun v11 H =>
  W.bin .neq v11 (.int .i64 0) H fun v12 H =>
  W.cond v12 H
  (fun H => Q (.tuple #[(.slice none 0 0), v11]) H)
  (fun H => W.slice 1 z_1 (some v4) none H fun v13 H =>
   W.slice 1 z_1 (some v4) none H fun v14 H =>
   W.callQ Tryz.prog (.func (.func 84) #[] #[]) #[v14] H fun v15 H =>
   W.callQ Tryz.prog (.func (.func 112) #[] #[]) #[v13, v15] H fun v16 H =>
   W.extract 0 v16 H fun v17 H =>
   W.extract 1 v16 H fun v18 H =>
   W.bin .neq v18 (.int .i64 0) H fun v19 H =>
   W.cond v19 H
   (fun H => Q (.tuple #[(.slice none 0 0), v18]) H)
   (fun H => W.lit 2 [(.slice none 0 0)] 29 [(0, 1, v10), (1, 1, v17)] H fun v20 H =>
    W.call Tryz.prog (.func (.func 113) #[] #[]) #[v20] H fun v21 H =>
    Q (.tuple #[v21, (.int .i64 0)]) H))
theorem f54.enter {Q : Post} {g_0 : Value} {z_1 : Value} {H : Heap} (h : f54.w Q g_0 z_1 H) : Runs Tryz.prog 54 #[g_0, z_1] H Q :=
  fn_enter (ann := []) (by kernel_rfl) Tryz.func54 rfl (by kernel_rfl) h (by kernel_rfl)


theorem sum_take {l : List Int} {B : Nat} (h : ∀ x ∈ l, x.natAbs ≤ B) (i : Nat) : (l.take i).sum.natAbs ≤ l.length * B := by
  have h1 := sum_abs (l := l.take i) fun x hx => h x (List.mem_of_mem_take hx)
  exact Nat.le_trans h1 (Nat.mul_le_mul_right _ (by simp; omega))

theorem fn84 {H0 : Heap} {Q : Post} {v : Value} {l : List Int} {B : Nat} (hr : Has RS H0 [v] l) (hB : ∀ x ∈ l, x.natAbs ≤ B) (hs : l.length * B < 9223372036854775808) (hQ : Q (.int .i64 l.sum) H0) : Runs Tryz.prog 84 #[v] H0 Q := by
  have hsm := hr.small
  refine f84.enter (Wl.lenH hr (W.for_rule l.length (fun i s H => H = H0 ∧ s = (.int .i64 (l.take i).sum, .int .i64 (i : Nat), ())) ⟨rfl, by simp; rfl⟩ ?_))
  rintro i s H J hi ⟨rfl, rfl⟩ hJ
  refine Wi.lssC (fun hlt => Wi.tru ?_) fun hge => Wi.fls ?_
  · have hix : i < l.length := by omega
    have h1 := sum_take hB (i + 1)
    rw [sum_step hix] at h1
    exact Wl.atIntH hr hix fun _ => Wi.add (by unfold I64; omega) (Wi.add (by unfold I64; omega) (hJ _ _ hix ⟨rfl, by rw [sum_step hix]; rfl⟩))
  · have : i = l.length := by omega
    subst this
    rw [List.take_length]
    exact hQ

theorem sum5 {l : List Int} (hl : l.length ≤ 5) (h : ∀ x ∈ l, x.natAbs ≤ 1920000000) : l.sum.natAbs ≤ 9600000000 := by
  have h1 := sum_abs h
  have := Nat.mul_le_mul_right 1920000000 hl
  omega

theorem fnCG54 {H0 : Heap} {Q : Post} {cs : List Value} {vz : Value} {g : Game} {z : List Int} (hr : Has RGame H0 cs g) (hg : IsGm g) (hz : Has RS H0 [vz] z) (hcut : ∀ (H : Heap) (K : Post), H0.Le H → (∀ w, Has RS H [w] (z.drop g.1.length) → K w H) → W.slice 1 vz (some (.int .i64 g.1.length)) none H K) (hzl : z.length = nG g) (hza : ∀ x ∈ z, x.natAbs ≤ 1920000000)
    (h1 : (z.take g.1.length).sum ≠ 0) (h2 : (z.drop g.1.length).sum ≠ 0) (hQ : ∀ H' u, FreshG RFrac 39 H0 u (mixV g.1.length z).1 H' → Q (.tuple #[u, .int .i64 (mixV g.1.length z).2]) H') : Runs Tryz.prog 54 #[.agg cs.toArray, vz] H0 Q := by
  obtain ⟨u1, u2, rfl, r1, r2⟩ := hasGame hr
  have k1 := hg.k1; have kl := hg.kl
  have hk0 : 0 < g.1.length := by omega
  have hlw := lw_at hk0
  have hnn : nG g = g.1.length + lw g := rfl
  have hbad : ∀ H c, H0.Le H → c = 3 → ¬ ((frAll (z.take g.1.length) (z.take g.1.length).sum).2 = 0 ∧ (frAll (z.drop g.1.length) (z.drop g.1.length).sum).2 = 0) → Q (.tuple #[.slice none 0 0, .int .i64 c]) H := fun H c l e hn => by
    subst e
    have e : mixV g.1.length z = ([], 3) := by unfold mixV; rw [if_neg hn]
    have := hQ H (.slice none 0 0) (by rw [e]; exact ⟨l, [], .inl ⟨rfl, rfl, rfl⟩, fun c hc => by cases hc⟩)
    rw [e] at this
    exact this
  have ta : ∀ x ∈ z.take g.1.length, x.natAbs ≤ 1920000000 := fun x hx => hza x (List.mem_of_mem_take hx)
  have da : ∀ x ∈ z.drop g.1.length, x.natAbs ≤ 1920000000 := fun x hx => hza x (List.mem_of_mem_drop hx)
  have tl : (z.take g.1.length).length ≤ 5 := by simp; omega
  have dl : (z.drop g.1.length).length ≤ 5 := by simp; omega
  have ts := sum5 tl ta
  have ds := sum5 dl da
  have h := (((Loc.start H0).lent r1).lent r2).lent hz
  refine f54.enter ?_
  unfold f54.w
  refine Wl.box h fun H b h => Wl.getA h rfl (Wi.call (f48.enter (Wl.box h fun H b3 h => Wi.fieldAddr0 (Wl.get h rfl (Wl.len h (Wi.fieldAddr0 (Wl.get h rfl (Wl.at1 (i := 0) rfl h hk0 fun w hw => Wl.lenH hw ?_))))))))
  have h := h.tl
  simp only [gw]
  refine Wl.cutLoH (h.rd (cs := [vz])) (by omega) fun va ha => Wl.cutLoH (h.rd (cs := [vz])) (by omega) fun vb hb => Wi.callQ (fn84 (B := 1920000000) hb ta (by omega) ⟨.refl _, ?_⟩)
  refine Wi.callQ (fn112 (d := (z.take g.1.length).sum) ha (fun x hx => by have := ta x hx; unfold B64; omega) (by unfold B64; omega) h1 (by omega) fun H x f => ⟨f.le, ?_⟩)
  have h := h.add f
  simp only [gw]
  refine Wi.neqC (fun hne => Wi.tru (hbad _ _ h.le ((frAll_code _ _).resolve_left hne) fun q => hne q.1)) fun he => Wi.fls ?_
  refine hcut _ _ h.le fun va ha => hcut _ _ h.le fun vb hb => Wi.callQ (fn84 (B := 1920000000) hb da (by omega) ⟨.refl _, ?_⟩)
  refine Wi.callQ (fn112 (d := (z.drop g.1.length).sum) ha (fun x hx => by have := da x hx; unfold B64; omega) (by unfold B64; omega) h2 (by omega) fun H y f => ⟨f.le, ?_⟩)
  have h := h.add f
  simp only [gw]
  refine Wi.neqC (fun hne => Wi.tru (hbad _ _ h.le ((frAll_code _ _).resolve_left hne) fun q => hne q.2)) fun he2 => Wi.fls ?_
  have hmix : mixV g.1.length z = ((frAll (z.take g.1.length) (z.take g.1.length).sum).1 ++ (frAll (z.drop g.1.length) (z.drop g.1.length).sum).1, 0) := by unfold mixV; rw [if_pos ⟨he, he2⟩]
  have l1 := frAll_len (z.take g.1.length) (z.take g.1.length).sum
  have l2 := frAll_len (z.drop g.1.length) (z.drop g.1.length).sum
  generalize (frAll (z.take g.1.length) (z.take g.1.length).sum).1 = xs at *
  generalize (frAll (z.drop g.1.length) (z.drop g.1.length).sum).1 = ys at *
  obtain ⟨bsx, qx⟩ := h.rd (cs := [x])
  obtain ⟨bsy, qy⟩ := h.rd (cs := [y])
  have ex := Has.one ⟨_, qx⟩
  have ey := Has.one ⟨_, qy⟩
  refine Wi.lit (cells := [x, y]) (by simp [fillA, ex, ey, reps]) fun H1 le1 n1' kk1 => ?_
  have h := h.to le1
  have hv : Has (Rd.slice RFS) H1 [.slice (some (adr _ 0)) 2 (2 * 2)] [xs, ys] := ⟨_, .inr ⟨_, 0, _, _, fun i => if i = 0 then bsx else bsy, rfl, rfl, ⟨by omega, kk1, by simp, by simp, by simp [Rd.slice], fun i hi => by
    match i, hi with
    | 0, _ => exact Rd.le _ qx le1
    | 1, _ => exact Rd.le _ qy le1⟩⟩⟩
  refine Wi.call (concat113 _ _ [xs, ys] _ hv (by simp; omega) fun H w3 j => ?_)
  have eF : ([xs, ys] : List (List Frac)).flatten = xs ++ ys := by simp
  rw [eF] at j
  have h := h.addG j.plain
  have := hQ H w3 (by rw [hmix]; exact h.retGG (i := 0) rfl)
  rw [hmix] at this
  exact this

theorem fnG54 {H0 : Heap} {Q : Post} {cs : List Value} {vz : Value} {g : Game} {z : List Int} (hr : Has RGame H0 cs g) (hg : IsGm g) (hz : Has (Rd.gslice Rd.int 2) H0 [vz] z) (hzl : z.length = nG g) (hza : ∀ x ∈ z, x.natAbs ≤ 1920000000)
    (h1 : (z.take g.1.length).sum ≠ 0) (h2 : (z.drop g.1.length).sum ≠ 0) (hQ : ∀ H' u, FreshG RFrac 39 H0 u (mixV g.1.length z).1 H' → Q (.tuple #[u, .int .i64 (mixV g.1.length z).2]) H') : Runs Tryz.prog 54 #[.agg cs.toArray, vz] H0 Q := by
  refine fnCG54 hr hg hz.ofG1 (fun H K l c => ?_) hzl hza h1 h2 hQ
  refine Wl.cutHiG rfl (hz.le l) ?_ c
  rw [hzl]
  show g.1.length ≤ g.1.length + lw g
  omega

end Go.Proofs.YtbcfknboheghkaaGreat
