/- Constant sums; comparisons of lists and games; unit mixes: the contracts. No condition. -/
import Derived.Test.YtbcfknboheghkaaGreatPE0
import Derived.Test.YtbcfknboheghkaaGreatUN0
import Derived.Test.YtbcfknboheghkaaGreatGWW
namespace Go.Proofs.YtbcfknboheghkaaGreat
open Go.Ab

/- loop.example/g01343/laws.lists5 -/
def f26.l1 (Q : Post) (a_0 : Value) (b_1 : Value) (I1 : St [5] → Heap → Prop) (i_5 : Value) (H : Heap) : Prop :=
  W.len a_0 H fun v4 H =>
  W.bin .lss i_5 v4 H fun v5 H =>
  W.cond v5 H
  (fun H => W.indexAddr 1 a_0 i_5 H fun v6 H =>
   W.get v6 H fun v7 H =>
   W.indexAddr 1 b_1 i_5 H fun v8 H =>
   W.get v8 H fun v9 H =>
   W.callQ Tryz.prog (.func (.func 9) #[] #[]) #[v7, v9] H fun v10 H =>
   W.un .not v10 H fun v11 H =>
   W.cond v11 H
   (fun H => Q (.bool false) H)
   (fun H => W.bin .add i_5 (.int .i64 1) H fun v12 H =>
    I1 (v12, ()) H))
  (fun H => Q (.bool true) H)
def f26.w (Q : Post) (a_0 : Value) (b_1 : Value) (H : Heap) : Prop :=
  W.len a_0 H fun v1 H =>
  W.len b_1 H fun v2 H =>
  W.bin .neq v1 v2 H fun v3 H =>
  W.cond v3 H
  (fun H => Q (.bool false) H)
  (fun H => W.loop (S := St [5]) (fun I1 s H => f26.l1 Q a_0 b_1 I1 s.1 H) ((.int .i64 0), ()) H)
theorem f26.enter {Q : Post} {a_0 : Value} {b_1 : Value} {H : Heap} (h : f26.w Q a_0 b_1 H) : Runs Tryz.prog 26 #[a_0, b_1] H Q :=
  fn_enter (ann := [(4, [5])]) (by kernel_rfl) Tryz.func26 rfl (by kernel_rfl) h (by kernel_rfl)

/- loop.example/g01343/laws.games5 -/
def f43.w (Q : Post) (a_0 : Value) (b_1 : Value) (H : Heap) : Prop :=
  W.box a_0 26 H fun v1 H =>
  W.box b_1 26 H fun v2 H =>
  W.fieldAddr 0 v1 H fun v3 H =>
  W.get v3 H fun v4 H =>
  W.fieldAddr 0 v2 H fun v5 H =>
  W.get v5 H fun v6 H =>
  W.call Tryz.prog (.func (.func 27) #[] #[]) #[v4, v6] H fun v7 H =>
  W.guarded v7 true (fun H k => W.fieldAddr 1 v1 H k) H fun v8 H =>
  W.guarded v7 true (fun H k => W.get v8 H k) H fun v9 H =>
  W.guarded v7 true (fun H k => W.fieldAddr 1 v2 H k) H fun v10 H =>
  W.guarded v7 true (fun H k => W.get v10 H k) H fun v11 H =>
  W.guarded v7 true (fun H k => W.call Tryz.prog (.func (.func 27) #[] #[]) #[v9, v11] H k) H fun v12 H =>
  W.pick v7 v12 (.bool false) H fun v13 H =>
  Q v13 H
theorem f43.enter {Q : Post} {a_0 : Value} {b_1 : Value} {H : Heap} (h : f43.w Q a_0 b_1 H) : Runs Tryz.prog 43 #[a_0, b_1] H Q :=
  fn_enter (ann := []) (by kernel_rfl) Tryz.func43 rfl (by kernel_rfl) h (by kernel_rfl)

/- loop.example/g01343/laws.unit5 -/
def f31.j1 (Q : Post) (i_6 : Value) (I1 : St [5, 6] → Heap → Prop) (out_5' : Value) (H : Heap) : Prop :=
  W.bin .add i_6 (.int .i64 1) H fun v7 H =>
  I1 (out_5', v7, ()) H
def f31.l1 (Q : Post) (n_0 : Value) (at_1 : Value) (I1 : St [5, 6] → Heap → Prop) (out_5 : Value) (i_6 : Value) (H : Heap) : Prop :=
  W.bin .lss i_6 n_0 H fun v2 H =>
  W.cond v2 H
  (fun H => W.bin .eql i_6 at_1 H fun v3 H =>
   W.cond v3 H
   (fun H => W.build [(.int .i64 0), (.int .i64 0)] [(0, 1, (.int .i64 1)), (1, 1, (.int .i64 1))] H fun v4 H =>
    W.lit 1 [(.int .i64 0), (.int .i64 0)] 39 [(0, 2, v4)] H fun v5 H =>
    W.append 2 39 out_5 v5 H fun v6 H =>
    f31.j1 Q i_6 I1 v6 H)
   (fun H => W.build [(.int .i64 0), (.int .i64 0)] [(0, 1, (.int .i64 0)), (1, 1, (.int .i64 1))] H fun v8 H =>
    W.lit 1 [(.int .i64 0), (.int .i64 0)] 39 [(0, 2, v8)] H fun v9 H =>
    W.append 2 39 out_5 v9 H fun v10 H =>
    f31.j1 Q i_6 I1 v10 H))
  (fun H => Q out_5 H)
def f31.w (Q : Post) (n_0 : Value) (at_1 : Value) (H : Heap) : Prop :=
  W.lit 0 [(.int .i64 0), (.int .i64 0)] 39 [] H fun v1 H =>
  W.loop (S := St [5, 6]) (fun I1 s H => f31.l1 Q n_0 at_1 I1 s.1 s.2.1 H) (v1, (.int .i64 0), ()) H
theorem f31.enter {Q : Post} {n_0 : Value} {at_1 : Value} {H : Heap} (h : f31.w Q n_0 at_1 H) : Runs Tryz.prog 31 #[n_0, at_1] H Q :=
  fn_enter (ann := [(3, [5, 6])]) (by kernel_rfl) Tryz.func31 rfl (by kernel_rfl) h (by kernel_rfl)


noncomputable def csRes (g : Game) : Bool × Int := open Classical in
  if IsGm g then (decide (∀ i, i < g.1.length → ∀ j, j < lw g → mAt g.1 i j + mAt g.2 i j = mAt g.1 0 0 + mAt g.2 0 0), 0) else (false, 1)

theorem fn41 {H0 : Heap} {Q : Post} {cs : List Value} {g : Game} (hr : Has RGame H0 cs g) (hw : wGame g ≤ 1048576) (hQ : ∀ H', H0.Le H' → Q (.tuple #[.bool (csRes g).1, .int .i64 (csRes g).2]) H') : Runs Tryz.prog 41 #[.agg cs.toArray] H0 Q := by
  classical
  obtain ⟨u1, u2, rfl, r1, r2⟩ := hasGame hr
  have h := (((Loc.start H0).lent r2).lent r1).lent hr
  refine f41.enter ?_
  unfold f41.w
  refine Wl.box (cs := [u1, u2]) h fun H b h => Wl.getA (b := b) h rfl (Wi.call (fn28 (h.rd (cs := [u1, u2]) (x := g)) hw fun H t l ht => ?_))
  have h := h.to l
  cases t with
  | false =>
    simp only [gw]
    have e : csRes g = (false, 1) := by unfold csRes; rw [if_neg (fun q => Bool.noConfusion (ht.2 q))]
    have := hQ H h.le
    rw [e] at this
    exact this
  | true =>
  have hg := ht.1 rfl
  have k1 := hg.k1
  have k4 := hg.k4
  have l1 := hg.l1
  have l4 := hg.l4
  have bl := hg.bl
  have fin : ∀ H t, H0.Le H → (t = true ↔ ∀ i, i < g.1.length → ∀ j, j < lw g → mAt g.1 i j + mAt g.2 i j = mAt g.1 0 0 + mAt g.2 0 0) → Q (.tuple #[.bool t, .int .i64 0]) H := fun H t l ht => by
    have := hQ H l
    unfold csRes at this
    rw [if_pos hg] at this
    have e : t = decide (∀ i, i < g.1.length → ∀ j, j < lw g → mAt g.1 i j + mAt g.2 i j = mAt g.1 0 0 + mAt g.2 0 0) := by
      rw [Bool.eq_iff_iff, ht]; simp
    rw [e]
    exact this
  simp only [gw]
  refine Wi.fieldAddr0 (Wl.get (b := b) h rfl (Wl.len (v := u1) (xs := g.1) h ?_))
  refine W.for_rule g.1.length (fun i st H' => H' = H ∧ st = (.int .i64 (i : Nat), ()) ∧ ∀ k, k < i → ∀ j, j < lw g → mAt g.1 k j + mAt g.2 k j = mAt g.1 0 0 + mAt g.2 0 0) ⟨rfl, rfl, fun k hk => by omega⟩ ?_
  rintro i st H' J hi ⟨rfl, rfl, hall⟩ hJ
  unfold f41.l1
  refine Wi.lssC (fun hlt => Wi.tru ?_) fun hge => Wi.fls ?_
  · have hik : i < g.1.length := by omega
    have hib : i < g.2.length := by omega
    obtain ⟨ra, rb⟩ := hg.a _ (List.getElem_mem hik)
    obtain ⟨sa, sb⟩ := hg.b _ (List.getElem_mem hib)
    have a00 : 0 < g.1.length := by omega
    have b00 : 0 < g.2.length := by omega
    obtain ⟨ta, tb⟩ := hg.a _ (List.getElem_mem a00)
    obtain ⟨va, vb⟩ := hg.b _ (List.getElem_mem b00)
    refine Wl.at1H rfl (h.rd (cs := [u1]) (r := RSS) (x := g.1)) hik fun w hw => Wl.lenH hw ?_
    rw [ra]
    refine W.for_rule (lw g) (fun j st H2 => H2 = H' ∧ st = (.int .i64 (j : Nat), ()) ∧ ∀ k, k < j → mAt g.1 i k + mAt g.2 i k = mAt g.1 0 0 + mAt g.2 0 0) ⟨rfl, rfl, fun k hk => by omega⟩ ?_
    rintro j st H2 J2 hj ⟨rfl, rfl, hall2⟩ hJ2
    unfold f41.l2
    refine Wi.lssC (fun hlt2 => Wi.tru ?_) fun hge2 => Wi.fls ?_
    · have hjl : j < lw g := by omega
      have x1 := rb _ (List.getElem_mem (show j < g.1[i].length by omega))
      have x2 := sb _ (List.getElem_mem (show j < g.2[i].length by omega))
      have x3 := tb _ (List.getElem_mem (show 0 < g.1[0].length by omega))
      have x4 := vb _ (List.getElem_mem (show 0 < g.2[0].length by omega))
      have m1 : mAt g.1 i j = g.1[i][j]'(by omega) := by unfold mAt; rw [getD_row hik, getD_at (by omega)]
      have m2 : mAt g.2 i j = g.2[i][j]'(by omega) := by unfold mAt; rw [getD_row hib, getD_at (by omega)]
      have m3 : mAt g.1 0 0 = g.1[0][0]'(by omega) := by unfold mAt; rw [getD_row a00, getD_at (by omega)]
      have m4 : mAt g.2 0 0 = g.2[0][0]'(by omega) := by unfold mAt; rw [getD_row b00, getD_at (by omega)]
      refine Wl.atIntH hw (i := j) (by omega) fun _ => Wi.fieldAddr (Wl.get (b := b) (o := 1) h rfl (Wl.at1H rfl (h.rd (cs := [u2]) (r := RSS) (x := g.2)) hib fun w2 hw2 => Wl.atIntH hw2 (i := j) (by omega) fun _ => Wi.add (by unfold I64; omega) ?_))
      refine Wi.fieldAddr0 (Wl.get (b := b) h rfl (Wl.at1H rfl (h.rd (cs := [u1]) (r := RSS) (x := g.1)) (i := 0) a00 fun w3 hw3 => Wl.atIntH hw3 (i := 0) (show 0 < (g.1[0]).length by omega) fun _ => Wi.fieldAddr (Wl.get (b := b) (o := 1) h rfl (Wl.at1H rfl (h.rd (cs := [u2]) (r := RSS) (x := g.2)) (i := 0) b00 fun w4 hw4 => Wl.atIntH hw4 (i := 0) (show 0 < (g.2[0]).length by omega) fun _ => Wi.add (by unfold I64; omega) ?_))))
      rw [← m1, ← m2, ← m3, ← m4]
      refine Wi.neqC (fun hne => Wi.tru (fin _ _ h.le ⟨fun q => Bool.noConfusion q, fun q => absurd (q i hik j hjl) hne⟩)) fun he => Wi.fls (Wi.add (by unfold I64; omega) (hJ2 _ _ hjl ⟨rfl, rfl, fun k hk => ?_⟩))
      by_cases c : k = j
      · subst c; exact he
      · exact hall2 k (by omega)
    · refine Wi.add (by unfold I64; omega) (hJ _ _ hik ⟨rfl, rfl, fun k hk => ?_⟩)
      by_cases c : k = i
      · subst c; exact fun j hj => hall2 j (by omega)
      · exact hall k (by omega)
  · exact fin _ _ h.le ⟨fun _ k hk => hall k (by omega), fun _ => rfl⟩

theorem fn42 {H0 : Heap} {Q : Post} {cs : List Value} {g : Game} (hr : Has RGame H0 cs g) (hw : wGame g ≤ 1048576) (hQ : ∀ H', H0.Le H' → Q (.tuple #[.bool (csRes g).1, .int .i64 (csRes g).2]) H') : Runs Tryz.prog 42 #[.agg cs.toArray] H0 Q := by
  classical
  obtain ⟨u1, u2, rfl, r1, r2⟩ := hasGame hr
  have h := (((Loc.start H0).lent r2).lent r1).lent hr
  refine f42.enter ?_
  unfold f42.w
  refine Wl.box (cs := [u1, u2]) h fun H b h => Wl.getA (b := b) h rfl (Wi.call (fn57 (h.rd (cs := [u1, u2]) (x := g)) hw fun H t l ht => ?_))
  have h := h.to l
  cases t with
  | false =>
    simp only [gw]
    have e : csRes g = (false, 1) := by unfold csRes; rw [if_neg (fun q => Bool.noConfusion (ht.2 q))]
    have := hQ H h.le
    rw [e] at this
    exact this
  | true =>
  have hg := ht.1 rfl
  have k1 := hg.k1
  have k4 := hg.k4
  have l1 := hg.l1
  have l4 := hg.l4
  have bl := hg.bl
  have fin : ∀ H t, H0.Le H → (t = true ↔ ∀ i, i < g.1.length → ∀ j, j < lw g → mAt g.1 i j + mAt g.2 i j = mAt g.1 0 0 + mAt g.2 0 0) → Q (.tuple #[.bool t, .int .i64 0]) H := fun H t l ht => by
    have := hQ H l
    unfold csRes at this
    rw [if_pos hg] at this
    have e : t = decide (∀ i, i < g.1.length → ∀ j, j < lw g → mAt g.1 i j + mAt g.2 i j = mAt g.1 0 0 + mAt g.2 0 0) := by
      rw [Bool.eq_iff_iff, ht]; simp
    rw [e]
    exact this
  simp only [gw]
  refine W.for_rule g.1.length (fun i st H' => H' = H ∧ st = (.int .i64 (i : Nat), ()) ∧ ∀ k, k < i → ∀ j, j < lw g → mAt g.1 k j + mAt g.2 k j = mAt g.1 0 0 + mAt g.2 0 0) ⟨rfl, rfl, fun k hk => by omega⟩ ?_
  rintro i st H' J hi ⟨rfl, rfl, hall⟩ hJ
  unfold f42.l1
  refine Wi.fieldAddr0 (Wl.get (b := b) h rfl (Wl.len (v := u1) (xs := g.1) h (Wi.lssC (fun hlt => Wi.tru ?_) fun hge => Wi.fls ?_)))
  · have hik : i < g.1.length := by omega
    have hib : i < g.2.length := by omega
    obtain ⟨ra, rb⟩ := hg.a _ (List.getElem_mem hik)
    obtain ⟨sa, sb⟩ := hg.b _ (List.getElem_mem hib)
    have a00 : 0 < g.1.length := by omega
    have b00 : 0 < g.2.length := by omega
    obtain ⟨ta, tb⟩ := hg.a _ (List.getElem_mem a00)
    obtain ⟨va, vb⟩ := hg.b _ (List.getElem_mem b00)
    refine W.for_rule (lw g) (fun j st H2 => H2 = H' ∧ st = (.int .i64 (j : Nat), ()) ∧ ∀ k, k < j → mAt g.1 i k + mAt g.2 i k = mAt g.1 0 0 + mAt g.2 0 0) ⟨rfl, rfl, fun k hk => by omega⟩ ?_
    rintro j st H2 J2 hj ⟨rfl, rfl, hall2⟩ hJ2
    unfold f42.l2
    refine Wi.fieldAddr0 (Wl.get (b := b) h rfl (Wl.at1H rfl (h.rd (cs := [u1]) (r := RSS) (x := g.1)) hik fun w hw => Wl.lenH hw ?_))
    rw [ra]
    refine Wi.lssC (fun hlt2 => Wi.tru ?_) fun hge2 => Wi.fls ?_
    · have hjl : j < lw g := by omega
      have x1 := rb _ (List.getElem_mem (show j < g.1[i].length by omega))
      have x2 := sb _ (List.getElem_mem (show j < g.2[i].length by omega))
      have x3 := tb _ (List.getElem_mem (show 0 < g.1[0].length by omega))
      have x4 := vb _ (List.getElem_mem (show 0 < g.2[0].length by omega))
      have m1 : mAt g.1 i j = g.1[i][j]'(by omega) := by unfold mAt; rw [getD_row hik, getD_at (by omega)]
      have m2 : mAt g.2 i j = g.2[i][j]'(by omega) := by unfold mAt; rw [getD_row hib, getD_at (by omega)]
      have m3 : mAt g.1 0 0 = g.1[0][0]'(by omega) := by unfold mAt; rw [getD_row a00, getD_at (by omega)]
      have m4 : mAt g.2 0 0 = g.2[0][0]'(by omega) := by unfold mAt; rw [getD_row b00, getD_at (by omega)]
      refine Wi.fieldAddr0 (Wl.get (b := b) h rfl (Wl.at1H rfl (h.rd (cs := [u1]) (r := RSS) (x := g.1)) hik fun w hw => Wl.atIntH hw (i := j) (by omega) fun _ => Wi.fieldAddr (Wl.get (b := b) (o := 1) h rfl (Wl.at1H rfl (h.rd (cs := [u2]) (r := RSS) (x := g.2)) hib fun w2 hw2 => Wl.atIntH hw2 (i := j) (by omega) fun _ => Wi.add (by unfold I64; omega) ?_))))
      refine Wi.fieldAddr0 (Wl.get (b := b) h rfl (Wl.at1H rfl (h.rd (cs := [u1]) (r := RSS) (x := g.1)) (i := 0) a00 fun w3 hw3 => Wl.atIntH hw3 (i := 0) (show 0 < (g.1[0]).length by omega) fun _ => Wi.fieldAddr (Wl.get (b := b) (o := 1) h rfl (Wl.at1H rfl (h.rd (cs := [u2]) (r := RSS) (x := g.2)) (i := 0) b00 fun w4 hw4 => Wl.atIntH hw4 (i := 0) (show 0 < (g.2[0]).length by omega) fun _ => Wi.add (by unfold I64; omega) ?_))))
      rw [← m1, ← m2, ← m3, ← m4]
      refine Wi.neqC (fun hne => Wi.tru (fin _ _ h.le ⟨fun q => Bool.noConfusion q, fun q => absurd (q i hik j hjl) hne⟩)) fun he => Wi.fls (Wi.add (by unfold I64; omega) (hJ2 _ _ hjl ⟨rfl, rfl, fun k hk => ?_⟩))
      by_cases c : k = j
      · subst c; exact he
      · exact hall2 k (by omega)
    · refine Wi.add (by unfold I64; omega) (hJ _ _ hik ⟨rfl, rfl, fun k hk => ?_⟩)
      by_cases c : k = i
      · subst c; exact fun j hj => hall2 j (by omega)
      · exact hall k (by omega)
  · exact fin _ _ h.le ⟨fun _ k hk => hall k (by omega), fun _ => rfl⟩

/-! ### The law's own -/

theorem fn26 {H0 : Heap} {Q : Post} {va vb : Value} {a : List (List Frac)} (ha : Has (Rd.slice RFS) H0 [va] a) (hb : Has (Rd.slice RFS) H0 [vb] a) (hQ : Q (.bool true) H0) : Runs Tryz.prog 26 #[va, vb] H0 Q := by
  have s1 := ha.small
  refine f26.enter ?_
  unfold f26.w
  refine Wl.lenH ha (Wl.lenH hb (Wi.neqC (fun q => absurd rfl q) fun _ => Wi.fls ?_))
  refine W.for_rule a.length (fun i st H => H = H0 ∧ st = (.int .i64 (i : Nat), ())) ⟨rfl, rfl⟩ ?_
  rintro i st H J hi ⟨rfl, rfl⟩ hJ
  unfold f26.l1
  refine Wl.lenH ha (Wi.lssC (fun hlt => Wi.tru ?_) fun hge => Wi.fls hQ)
  have hia : i < a.length := by omega
  refine Wl.at1H rfl ha hia fun w1 h1 => Wl.at1H rfl hb hia fun w2 h2 => Wi.callQ (fn9 h1 h2 ⟨.refl _, ?_⟩)
  rw [decide_eq_true rfl]
  exact Wi.not (Wi.fls (Wi.add (by unfold I64; omega) (hJ _ _ hia ⟨rfl, rfl⟩)))

theorem fn43 {H0 : Heap} {Q : Post} {cs ds : List Value} {g : Game} (ha : Has RGame H0 cs g) (hb : Has RGame H0 ds g) (hQ : ∀ H', H0.Le H' → Q (.bool true) H') : Runs Tryz.prog 43 #[.agg cs.toArray, .agg ds.toArray] H0 Q := by
  obtain ⟨a1, a2, rfl, r1, r2⟩ := hasGame ha
  obtain ⟨b1, b2, rfl, q1, q2⟩ := hasGame hb
  have h := ((((Loc.start H0).lent r1).lent r2).lent q1).lent q2
  refine f43.enter ?_
  unfold f43.w
  refine Wl.box (cs := [a1, a2]) h fun H x h => Wl.box (cs := [b1, b2]) h fun H y h => ?_
  refine Wi.fieldAddr0 (Wl.get (b := x) h rfl (Wi.fieldAddr0 (Wl.get (b := y) h rfl (Wi.call (fn27 (r1.le h.le) (q1.le h.le) ?_)))))
  simp only [gw]
  refine Wi.fieldAddr (Wl.get (b := x) (o := 1) h rfl (Wi.fieldAddr (Wl.get (b := y) (o := 1) h rfl (Wi.call (fn27 (r2.le h.le) (q2.le h.le) (hQ _ h.le))))))

theorem unit_step {n i m : Nat} (hm : m < n) : (unitF n i).take (m + 1) = (unitF n i).take m ++ [if m = i then ((1, 1) : Frac) else (0, 1)] := by
  have hl : m < (unitF n i).length := by rw [unitF_len]; exact hm
  rw [List.take_succ_eq_append_getElem hl]
  congr 2
  simp [unitF]

theorem fn31 {H0 : Heap} {Q : Post} {n i : Nat} (hn : n ≤ 1000) (hi : i ≤ 1000) (hQ : ∀ H' u, FreshG RFrac 39 H0 u (unitF n i) H' → Q u H') : Runs Tryz.prog 31 #[.int .i64 (n : Nat), .int .i64 (i : Nat)] H0 Q := by
  refine f31.enter ?_
  unfold f31.w
  refine Wl.lit0 (ty := 39) RFrac rfl (Loc.start H0) fun H w h => ?_
  have h : Ab.Loc H0 [.grow RFrac 39 w ((unitF n i).take 0)] H := h
  refine W.for_rule n (fun k st H => ∃ w, st = (w, .int .i64 (k : Nat), ()) ∧ Ab.Loc H0 [.grow RFrac 39 w ((unitF n i).take k)] H) ⟨w, rfl, h⟩ ?_
  rintro k st H J hk ⟨w, rfl, h⟩ hJ
  unfold f31.l1
  refine Wi.lssC (fun hlt => Wi.tru ?_) fun hge => Wi.fls ?_
  · have hkn : k < n := by omega
    have est := unit_step (i := i) hkn
    have hlen : ((unitF n i).take k).length < 16777216 := by rw [List.length_take, unitF_len]; omega
    refine Wi.eqlC (fun he => Wi.tru ?_) fun hne => Wi.fls ?_
    · rw [if_pos (by omega)] at est
      refine Wi.build (cells := frC (1, 1)) rfl (Wl.pushP (r := RFrac) (x := ((1, 1) : Frac)) (i := 0) rfl rfl rfl (frac_rel ⟨by show I64 1; unfold I64; decide, by show I64 1; unfold I64; decide⟩) h hlen fun H w' h => ?_)
      unfold f31.j1
      refine Wi.add (by unfold I64; omega) (hJ _ _ hkn ⟨w', rfl, ?_⟩)
      rw [est]
      exact h
    · rw [if_neg (by omega)] at est
      refine Wi.build (cells := frC (0, 1)) rfl (Wl.pushP (r := RFrac) (x := ((0, 1) : Frac)) (i := 0) rfl rfl rfl (frac_rel ⟨by show I64 0; unfold I64; decide, by show I64 1; unfold I64; decide⟩) h hlen fun H w' h => ?_)
      unfold f31.j1
      refine Wi.add (by unfold I64; omega) (hJ _ _ hkn ⟨w', rfl, ?_⟩)
      rw [est]
      exact h
  · have hkn : k = n := by omega
    subst hkn
    rw [List.take_of_length_le (by rw [unitF_len]; exact Nat.le_refl _)] at h
    exact hQ _ w (h.retGG (i := 0) rfl)

end Go.Proofs.YtbcfknboheghkaaGreat
