/- Lists of numbers compared. No condition. -/
import Derived.Test.YtbcfknboheghkaaGreatGAA
import Derived.Test.YtbcfknboheghkaaGreatZabG4
import Derived.Test.YtbcfknboheghkaaGreatZabG5
import Derived.Test.YtbcfknboheghkaaGreatGGM
import Derived.Test.YtbcfknboheghkaaGreatGBB
namespace Go.Proofs.YtbcfknboheghkaaGreat
open Go.Ab

/- loop.example/g01343/laws.likeInts -/
def f20.l1 (Q : Post) (a_0 : Value) (b_1 : Value) (I1 : St [5] → Heap → Prop) (i_5 : Value) (H : Heap) : Prop :=
  W.len a_0 H fun v4 H =>
  W.bin .lss i_5 v4 H fun v5 H =>
  W.cond v5 H
  (fun H => W.indexAddr 1 a_0 i_5 H fun v6 H =>
   W.get v6 H fun v7 H =>
   W.indexAddr 1 b_1 i_5 H fun v8 H =>
   W.get v8 H fun v9 H =>
   W.bin .neq v7 v9 H fun v10 H =>
   W.cond v10 H
   (fun H => Q (.bool false) H)
   (fun H => W.bin .add i_5 (.int .i64 1) H fun v11 H =>
    I1 (v11, ()) H))
  (fun H => Q (.bool true) H)
def f20.w (Q : Post) (a_0 : Value) (b_1 : Value) (H : Heap) : Prop :=
  W.len a_0 H fun v1 H =>
  W.len b_1 H fun v2 H =>
  W.bin .neq v1 v2 H fun v3 H =>
  W.cond v3 H
  (fun H => Q (.bool false) H)
  (fun H => W.loop (S := St [5]) (fun I1 s H => f20.l1 Q a_0 b_1 I1 s.1 H) ((.int .i64 0), ()) H)
theorem f20.enter {Q : Post} {a_0 : Value} {b_1 : Value} {H : Heap} (h : f20.w Q a_0 b_1 H) : Runs Tryz.prog 20 #[a_0, b_1] H Q :=
  fn_enter (ann := [(4, [5])]) (by kernel_rfl) Tryz.func20 rfl (by kernel_rfl) h (by kernel_rfl)


theorem fn20 {H0 : Heap} {Q : Post} {va vb : Value} {a b : List Int} (ha : Has RS H0 [va] a) (hb : Has RS H0 [vb] b) (hQ : Q (.bool (decide (a = b))) H0) : Runs Tryz.prog 20 #[va, vb] H0 Q := by
  have hsa := ha.small
  refine f20.enter (Wl.lenH ha (Wl.lenH hb (Wi.neqC (fun hne => Wi.tru ?_) fun he => Wi.fls ?_)))
  · rw [decide_eq_false (fun e => hne (by rw [e]))] at hQ
    exact hQ
  have hl : a.length = b.length := by omega
  refine W.for_rule a.length (fun i st H => H = H0 ∧ st = (.int .i64 (i : Nat), ()) ∧ ∀ j (hj : j < a.length), j < i → a[j] = b[j]) ⟨rfl, rfl, fun j _ hj => by omega⟩ ?_
  rintro i st H J hi ⟨rfl, rfl, hok⟩ hJ
  refine Wl.lenH ha (Wi.lssC (fun hlt => Wi.tru ?_) fun hge => Wi.fls ?_)
  · have hia : i < a.length := by omega
    refine Wl.atIntH ha hia fun _ => Wl.atIntH hb (i := i) (by omega) fun _ => Wi.neqC (fun hne => Wi.tru ?_) fun he => Wi.fls ?_
    · rw [decide_eq_false (fun e => hne (by subst e; rfl))] at hQ
      exact hQ
    · refine Wi.add (by unfold I64; omega) (hJ _ _ hia ⟨rfl, rfl, fun j hj hji => ?_⟩)
      by_cases e : j = i
      · subst e; exact he
      · exact hok j hj (by omega)
  · have : a = b := List.ext_getElem hl fun j h1 _ => hok j h1 (by omega)
    rw [decide_eq_true this] at hQ
    exact hQ

end Go.Proofs.YtbcfknboheghkaaGreat
/-! Rows, lists of fractions, problems, programs compared. No condition. -/
namespace Go.Proofs.YtbcfknboheghkaaGreat
open Go.Ab

/- loop.example/g01343/laws.rows5 -/
def f27.l1 (Q : Post) (a_0 : Value) (b_1 : Value) (I1 : St [5] → Heap → Prop) (i_5 : Value) (H : Heap) : Prop :=
  W.len a_0 H fun v4 H =>
  W.bin .lss i_5 v4 H fun v5 H =>
  W.cond v5 H
  (fun H => W.indexAddr 1 a_0 i_5 H fun v6 H =>
   W.get v6 H fun v7 H =>
   W.indexAddr 1 b_1 i_5 H fun v8 H =>
   W.get v8 H fun v9 H =>
   W.callQ Tryz.prog (.func (.func 20) #[] #[]) #[v7, v9] H fun v10 H =>
   W.un .not v10 H fun v11 H =>
   W.cond v11 H
   (fun H => Q (.bool false) H)
   (fun H => W.bin .add i_5 (.int .i64 1) H fun v12 H =>
    I1 (v12, ()) H))
  (fun H => Q (.bool true) H)
def f27.w (Q : Post) (a_0 : Value) (b_1 : Value) (H : Heap) : Prop :=
  W.len a_0 H fun v1 H =>
  W.len b_1 H fun v2 H =>
  W.bin .neq v1 v2 H fun v3 H =>
  W.cond v3 H
  (fun H => Q (.bool false) H)
  (fun H => W.loop (S := St [5]) (fun I1 s H => f27.l1 Q a_0 b_1 I1 s.1 H) ((.int .i64 0), ()) H)
theorem f27.enter {Q : Post} {a_0 : Value} {b_1 : Value} {H : Heap} (h : f27.w Q a_0 b_1 H) : Runs Tryz.prog 27 #[a_0, b_1] H Q :=
  fn_enter (ann := [(4, [5])]) (by kernel_rfl) Tryz.func27 rfl (by kernel_rfl) h (by kernel_rfl)

/- loop.example/g01343/laws.problems5 -/
/- loop.example/g01343/laws.fracs5 -/
def f9.l1 (Q : Post) (a_0 : Value) (b_1 : Value) (I1 : St [5] → Heap → Prop) (i_5 : Value) (H : Heap) : Prop :=
  W.len a_0 H fun v4 H =>
  W.bin .lss i_5 v4 H fun v5 H =>
  W.cond v5 H
  (fun H => W.indexAddr 2 a_0 i_5 H fun v6 H =>
   W.getN 2 v6 H fun v7 H =>
   W.indexAddr 2 b_1 i_5 H fun v8 H =>
   W.getN 2 v8 H fun v9 H =>
   W.eqPair .neq v7 v9 H fun v10 H =>
   W.cond v10 H
   (fun H => Q (.bool false) H)
   (fun H => W.bin .add i_5 (.int .i64 1) H fun v11 H =>
    I1 (v11, ()) H))
  (fun H => Q (.bool true) H)
def f9.w (Q : Post) (a_0 : Value) (b_1 : Value) (H : Heap) : Prop :=
  W.len a_0 H fun v1 H =>
  W.len b_1 H fun v2 H =>
  W.bin .neq v1 v2 H fun v3 H =>
  W.cond v3 H
  (fun H => Q (.bool false) H)
  (fun H => W.loop (S := St [5]) (fun I1 s H => f9.l1 Q a_0 b_1 I1 s.1 H) ((.int .i64 0), ()) H)
theorem f9.enter {Q : Post} {a_0 : Value} {b_1 : Value} {H : Heap} (h : f9.w Q a_0 b_1 H) : Runs Tryz.prog 9 #[a_0, b_1] H Q :=
  fn_enter (ann := [(4, [5])]) (by kernel_rfl) Tryz.func9 rfl (by kernel_rfl) h (by kernel_rfl)

/- loop.example/g01343/laws.big -/
def f5.w (Q : Post) (code_0 : Value) (H : Heap) : Prop :=
  W.len code_0 H fun v1 H =>
  W.bin .gtr v1 (.int .i64 4096) H fun v2 H =>
  Q v2 H
theorem f5.enter {Q : Post} {code_0 : Value} {H : Heap} (h : f5.w Q code_0 H) : Runs Tryz.prog 5 #[code_0] H Q :=
  fn_enter (ann := []) (by kernel_rfl) Tryz.func5 rfl (by kernel_rfl) h (by kernel_rfl)


theorem fn27 {H0 : Heap} {Q : Post} {va vb : Value} {a : List (List Int)} (ha : Has RSS H0 [va] a) (hb : Has RSS H0 [vb] a) (hQ : Q (.bool true) H0) : Runs Tryz.prog 27 #[va, vb] H0 Q := by
  have hsa := ha.small
  refine f27.enter (Wl.lenH ha (Wl.lenH hb (Wi.neqC (fun hne => absurd rfl hne) fun he => Wi.fls ?_)))
  refine W.for_rule a.length (fun i st H => H = H0 ∧ st = (.int .i64 (i : Nat), ())) ⟨rfl, rfl⟩ ?_
  rintro i st H J hi ⟨rfl, rfl⟩ hJ
  refine Wl.lenH ha (Wi.lssC (fun hlt => Wi.tru ?_) fun hge => Wi.fls hQ)
  have hia : i < a.length := by omega
  refine Wl.at1H rfl ha hia fun w1 h1 => Wl.at1H rfl hb hia fun w2 h2 => Wi.callQ (fn20 h1 h2 ⟨.refl _, ?_⟩)
  rw [decide_eq_true rfl]
  simp only [gw]
  exact Wi.add (by unfold I64; omega) (hJ _ _ hia ⟨rfl, rfl⟩)

theorem fn9 {H0 : Heap} {Q : Post} {va vb : Value} {a b : List Frac} (ha : Has RFS H0 [va] a) (hb : Has RFS H0 [vb] b) (hQ : Q (.bool (decide (a = b))) H0) : Runs Tryz.prog 9 #[va, vb] H0 Q := by
  have hsa := ha.small
  refine f9.enter (Wl.lenH ha (Wl.lenH hb (Wi.neqC (fun hne => Wi.tru ?_) fun he => Wi.fls ?_)))
  · rw [decide_eq_false (fun e => hne (by rw [e]))] at hQ
    exact hQ
  have hl : a.length = b.length := by omega
  refine W.for_rule a.length (fun i st H => H = H0 ∧ st = (.int .i64 (i : Nat), ()) ∧ ∀ j (hj : j < a.length), j < i → a[j] = b[j]) ⟨rfl, rfl, fun j _ hj => by omega⟩ ?_
  rintro i st H J hi ⟨rfl, rfl, hok⟩ hJ
  refine Wl.lenH ha (Wi.lssC (fun hlt => Wi.tru ?_) fun hge => Wi.fls ?_)
  · have hia : i < a.length := by omega
    refine Wl.atFrH ha hia fun i1 i2 => Wl.atFrH hb (i := i) (by omega) fun i3 i4 => Wi.nePair ⟨i1, i2⟩ ⟨i3, i4⟩ ?_
    by_cases hab : a[i] = b[i]
    · rw [decide_eq_true hab]
      refine Wi.fls (Wi.add (by unfold I64; omega) (hJ _ _ hia ⟨rfl, rfl, fun j hj hji => ?_⟩))
      by_cases e : j = i
      · subst e; exact hab
      · exact hok j hj (by omega)
    · rw [decide_eq_false hab]
      refine Wi.tru ?_
      rw [decide_eq_false (fun e => hab (by subst e; rfl))] at hQ
      exact hQ
  · have : a = b := List.ext_getElem hl fun j h1 _ => hok j h1 (by omega)
    rw [decide_eq_true this] at hQ
    exact hQ

end Go.Proofs.YtbcfknboheghkaaGreat

/-! Whether a list holds a number. No condition. -/
namespace Go.Proofs.YtbcfknboheghkaaGreat
open Go.Ab

/- loop.example/g01343/laws.hasInt -/
def f12.l1 (Q : Post) (list_0 : Value) (x_1 : Value) (I1 : St [5] → Heap → Prop) (i_5 : Value) (H : Heap) : Prop :=
  W.len list_0 H fun v1 H =>
  W.bin .lss i_5 v1 H fun v2 H =>
  W.cond v2 H
  (fun H => W.indexAddr 1 list_0 i_5 H fun v3 H =>
   W.get v3 H fun v4 H =>
   W.bin .eql v4 x_1 H fun v5 H =>
   W.cond v5 H
   (fun H => Q (.bool true) H)
   (fun H => W.bin .add i_5 (.int .i64 1) H fun v6 H =>
    I1 (v6, ()) H))
  (fun H => Q (.bool false) H)
def f12.w (Q : Post) (list_0 : Value) (x_1 : Value) (H : Heap) : Prop :=
  W.loop (S := St [5]) (fun I1 s H => f12.l1 Q list_0 x_1 I1 s.1 H) ((.int .i64 0), ()) H
theorem f12.enter {Q : Post} {list_0 : Value} {x_1 : Value} {H : Heap} (h : f12.w Q list_0 x_1 H) : Runs Tryz.prog 12 #[list_0, x_1] H Q :=
  fn_enter (ann := [(2, [5])]) (by kernel_rfl) Tryz.func12 rfl (by kernel_rfl) h (by kernel_rfl)


theorem fn12 {H0 : Heap} {Q : Post} {v : Value} {l : List Int} {x : Int} (hr : Has RS H0 [v] l) (hQ : Q (.bool (decide (x ∈ l))) H0) : Runs Tryz.prog 12 #[v, .int .i64 x] H0 Q := by
  have hs := hr.small
  refine f12.enter ?_
  refine W.for_rule l.length (fun i st H => H = H0 ∧ st = (.int .i64 (i : Nat), ()) ∧ ∀ j (hj : j < l.length), j < i → l[j] ≠ x) ⟨rfl, rfl, fun j _ hj => by omega⟩ ?_
  rintro i st H J hi ⟨rfl, rfl, hok⟩ hJ
  refine Wl.lenH hr (Wi.lssC (fun hlt => Wi.tru ?_) fun hge => Wi.fls ?_)
  · have hil : i < l.length := by omega
    refine Wl.atIntH hr hil fun _ => Wi.eqlC (fun he => Wi.tru ?_) fun hne => Wi.fls ?_
    · rw [decide_eq_true (show x ∈ l by rw [← he]; exact List.getElem_mem hil)] at hQ
      exact hQ
    · refine Wi.add (by unfold I64; omega) (hJ _ _ hil ⟨rfl, rfl, fun j hj hji => ?_⟩)
      by_cases e : j = i
      · subst e; exact hne
      · exact hok j hj (by omega)
  · rw [decide_eq_false (fun hm => by
      obtain ⟨j, hj, e⟩ := List.mem_iff_getElem.1 hm
      exact hok j hj (by omega) e)] at hQ
    exact hQ

end Go.Proofs.YtbcfknboheghkaaGreat
