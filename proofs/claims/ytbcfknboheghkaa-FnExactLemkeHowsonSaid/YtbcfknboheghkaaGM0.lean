/- What a game is; the contracts of IsGame, the program's and the reference's. No condition. -/
import Derived.Test.YtbcfknboheghkaaAG
import Derived.Test.YtbcfknboheghkaaB0
import Derived.Test.YtbcfknboheghkaaB1
import Derived.Test.YtbcfknboheghkaaZabG5
namespace Go.Proofs.Ytbcfknboheghkaa
open Go.Ab

/- loop.example/g01343/impl.isTable -/
def f42.w (Q : Post) (m_0 : Value) (k_1 : Value) (l_2 : Value) (H : Heap) : Prop :=
  W.box l_2 3 H fun v1 H =>
  W.len m_0 H fun v2 H =>
  W.bin .eql v2 k_1 H fun v3 H =>
  W.guarded v3 true (fun H k => k m_0 H) H fun v4 H =>
  W.guarded v3 true (fun H k => k (.func (.func 56) #[] #[v1]) H) H fun v5 H =>
  W.guarded v3 true (fun H k => W.call Try.prog (.func (.func 55) #[] #[]) #[v4, v5] H k) H fun v6 H =>
  W.guarded v3 true (fun H k => W.un .not v6 H k) H fun v7 H =>
  W.pick v3 v7 (.bool false) H fun v8 H =>
  Q v8 H
theorem f42.enter {Q : Post} {m_0 : Value} {k_1 : Value} {l_2 : Value} {H : Heap} (h : f42.w Q m_0 k_1 l_2 H) : Runs Try.prog 42 #[m_0, k_1, l_2] H Q :=
  fn_enter (ann := []) (by kernel_rfl) Try.func42 rfl (by kernel_rfl) h (by kernel_rfl)

/- loop.example/g01343/impl.isTable$1 -/
def f56.w (Q : Post) (row_0 : Value) (x_1 : Value) (H : Heap) : Prop :=
  W.len row_0 H fun v1 H =>
  W.get x_1 H fun v2 H =>
  W.bin .neq v1 v2 H fun v3 H =>
  W.guarded v3 false (fun H k => k row_0 H) H fun v4 H =>
  W.guarded v3 false (fun H k => W.call Try.prog (.func (.func 57) #[] #[]) #[v4, (.func (.func 58) #[] #[])] H k) H fun v5 H =>
  W.pick v3 (.bool true) v5 H fun v6 H =>
  Q v6 H
theorem f56.enter {Q : Post} {row_0 : Value} {x_1 : Value} {H : Heap} (h : f56.w Q row_0 x_1 H) : Runs Try.prog 56 #[row_0, x_1] H Q :=
  fn_enter (ann := []) (by kernel_rfl) Try.func56 rfl (by kernel_rfl) h (by kernel_rfl)

/- loop.example/g01343/impl.isTable$1$1 -/
def f58.w (Q : Post) (n_0 : Value) (H : Heap) : Prop :=
  W.call Try.prog (.func (.func 25) #[] #[]) #[n_0, (.int .i64 1), (.int .i64 20)] H fun v1 H =>
  W.un .not v1 H fun v2 H =>
  Q v2 H
theorem f58.enter {Q : Post} {n_0 : Value} {H : Heap} (h : f58.w Q n_0 H) : Runs Try.prog 58 #[n_0] H Q :=
  fn_enter (ann := []) (by kernel_rfl) Try.func58 rfl (by kernel_rfl) h (by kernel_rfl)

/- loop.example/g01343/impl.IsGame -/
def f23.w (Q : Post) (g_0 : Value) (H : Heap) : Prop :=
  W.box g_0 29 H fun v1 H =>
  W.fieldAddr 0 v1 H fun v2 H =>
  W.get v2 H fun v3 H =>
  W.len v3 H fun v4 H =>
  W.call Try.prog (.func (.func 25) #[] #[]) #[v4, (.int .i64 1), (.int .i64 4)] H fun v5 H =>
  W.un .not v5 H fun v6 H =>
  W.cond v6 H
  (fun H => Q (.bool false) H)
  (fun H => W.fieldAddr 0 v1 H fun v7 H =>
   W.get v7 H fun v8 H =>
   W.indexAddr 1 v8 (.int .i64 0) H fun v9 H =>
   W.get v9 H fun v10 H =>
   W.len v10 H fun v11 H =>
   W.call Try.prog (.func (.func 25) #[] #[]) #[v11, (.int .i64 1), (.int .i64 4)] H fun v12 H =>
   W.guarded v12 true (fun H k => k v4 H) H fun v13 H =>
   W.guarded v12 true (fun H k => k v11 H) H fun v14 H =>
   W.guarded v12 true (fun H k => W.bin .add v13 v14 H k) H fun v15 H =>
   W.guarded v12 true (fun H k => W.bin .leq v15 (.int .i64 5) H k) H fun v16 H =>
   W.pick v12 v16 (.bool false) H fun v17 H =>
   W.guarded v17 true (fun H k => W.fieldAddr 0 v1 H k) H fun v18 H =>
   W.guarded v17 true (fun H k => W.get v18 H k) H fun v19 H =>
   W.guarded v17 true (fun H k => k v4 H) H fun v20 H =>
   W.guarded v17 true (fun H k => k v11 H) H fun v21 H =>
   W.guarded v17 true (fun H k => W.call Try.prog (.func (.func 42) #[] #[]) #[v19, v20, v21] H k) H fun v22 H =>
   W.pick v17 v22 (.bool false) H fun v23 H =>
   W.guarded v23 true (fun H k => W.fieldAddr 1 v1 H k) H fun v24 H =>
   W.guarded v23 true (fun H k => W.get v24 H k) H fun v25 H =>
   W.guarded v23 true (fun H k => k v4 H) H fun v26 H =>
   W.guarded v23 true (fun H k => k v11 H) H fun v27 H =>
   W.guarded v23 true (fun H k => W.call Try.prog (.func (.func 42) #[] #[]) #[v25, v26, v27] H k) H fun v28 H =>
   W.pick v23 v28 (.bool false) H fun v29 H =>
   Q v29 H)
theorem f23.enter {Q : Post} {g_0 : Value} {H : Heap} (h : f23.w Q g_0 H) : Runs Try.prog 23 #[g_0] H Q :=
  fn_enter (ann := []) (by kernel_rfl) Try.func23 rfl (by kernel_rfl) h (by kernel_rfl)

/- loop.example/g01343/spec.l07Is -/
def f14.l2 (Q : Post) (v19 : Value) (v1 : Value) (i_5 : Value) (I1 : St [5] → Heap → Prop) (I2 : St [6] → Heap → Prop) (j_6 : Value) (H : Heap) : Prop :=
  W.bin .lss j_6 v19 H fun v45 H =>
  W.cond v45 H
  (fun H => W.fieldAddr 0 v1 H fun v46 H =>
   W.get v46 H fun v47 H =>
   W.indexAddr 1 v47 i_5 H fun v48 H =>
   W.get v48 H fun v49 H =>
   W.indexAddr 1 v49 j_6 H fun v50 H =>
   W.get v50 H fun v51 H =>
   W.call Try.prog (.func (.func 16) #[] #[]) #[v51, (.int .i64 1), (.int .i64 20)] H fun v52 H =>
   W.un .not v52 H fun v53 H =>
   W.guarded v53 false (fun H k => W.fieldAddr 1 v1 H k) H fun v54 H =>
   W.guarded v53 false (fun H k => W.get v54 H k) H fun v55 H =>
   W.guarded v53 false (fun H k => k i_5 H) H fun v56 H =>
   W.guarded v53 false (fun H k => W.indexAddr 1 v55 v56 H k) H fun v57 H =>
   W.guarded v53 false (fun H k => W.get v57 H k) H fun v58 H =>
   W.guarded v53 false (fun H k => k j_6 H) H fun v59 H =>
   W.guarded v53 false (fun H k => W.indexAddr 1 v58 v59 H k) H fun v60 H =>
   W.guarded v53 false (fun H k => W.get v60 H k) H fun v61 H =>
   W.guarded v53 false (fun H k => W.call Try.prog (.func (.func 16) #[] #[]) #[v61, (.int .i64 1), (.int .i64 20)] H k) H fun v62 H =>
   W.guarded v53 false (fun H k => W.un .not v62 H k) H fun v63 H =>
   W.pick v53 (.bool true) v63 H fun v64 H =>
   W.cond v64 H
   (fun H => Q (.bool false) H)
   (fun H => W.bin .add j_6 (.int .i64 1) H fun v65 H =>
    I2 (v65, ()) H))
  (fun H => W.bin .add i_5 (.int .i64 1) H fun v66 H =>
   I1 (v66, ()) H)
def f14.l1 (Q : Post) (v4 : Value) (v1 : Value) (v19 : Value) (I1 : St [5] → Heap → Prop) (i_5 : Value) (H : Heap) : Prop :=
  W.bin .lss i_5 v4 H fun v29 H =>
  W.cond v29 H
  (fun H => W.fieldAddr 0 v1 H fun v30 H =>
   W.get v30 H fun v31 H =>
   W.indexAddr 1 v31 i_5 H fun v32 H =>
   W.get v32 H fun v33 H =>
   W.len v33 H fun v34 H =>
   W.bin .neq v34 v19 H fun v35 H =>
   W.guarded v35 false (fun H k => W.fieldAddr 1 v1 H k) H fun v36 H =>
   W.guarded v35 false (fun H k => W.get v36 H k) H fun v37 H =>
   W.guarded v35 false (fun H k => k i_5 H) H fun v38 H =>
   W.guarded v35 false (fun H k => W.indexAddr 1 v37 v38 H k) H fun v39 H =>
   W.guarded v35 false (fun H k => W.get v39 H k) H fun v40 H =>
   W.guarded v35 false (fun H k => W.len v40 H k) H fun v41 H =>
   W.guarded v35 false (fun H k => k v19 H) H fun v42 H =>
   W.guarded v35 false (fun H k => W.bin .neq v41 v42 H k) H fun v43 H =>
   W.pick v35 (.bool true) v43 H fun v44 H =>
   W.cond v44 H
   (fun H => Q (.bool false) H)
   (fun H => W.loop (S := St [6]) (fun I2 s H => f14.l2 Q v19 v1 i_5 I1 I2 s.1 H) ((.int .i64 0), ()) H))
  (fun H => Q (.bool true) H)
def f14.w (Q : Post) (g_0 : Value) (H : Heap) : Prop :=
  W.box g_0 29 H fun v1 H =>
  W.fieldAddr 0 v1 H fun v2 H =>
  W.get v2 H fun v3 H =>
  W.len v3 H fun v4 H =>
  W.bin .lss v4 (.int .i64 1) H fun v5 H =>
  W.guarded v5 false (fun H k => k v4 H) H fun v6 H =>
  W.guarded v5 false (fun H k => W.bin .gtr v6 (.int .i64 4) H k) H fun v7 H =>
  W.pick v5 (.bool true) v7 H fun v8 H =>
  W.guarded v8 false (fun H k => W.fieldAddr 1 v1 H k) H fun v9 H =>
  W.guarded v8 false (fun H k => W.get v9 H k) H fun v10 H =>
  W.guarded v8 false (fun H k => W.len v10 H k) H fun v11 H =>
  W.guarded v8 false (fun H k => k v4 H) H fun v12 H =>
  W.guarded v8 false (fun H k => W.bin .neq v11 v12 H k) H fun v13 H =>
  W.pick v8 (.bool true) v13 H fun v14 H =>
  W.cond v14 H
  (fun H => Q (.bool false) H)
  (fun H => W.fieldAddr 0 v1 H fun v15 H =>
   W.get v15 H fun v16 H =>
   W.indexAddr 1 v16 (.int .i64 0) H fun v17 H =>
   W.get v17 H fun v18 H =>
   W.len v18 H fun v19 H =>
   W.bin .lss v19 (.int .i64 1) H fun v20 H =>
   W.guarded v20 false (fun H k => k v19 H) H fun v21 H =>
   W.guarded v20 false (fun H k => W.bin .gtr v21 (.int .i64 4) H k) H fun v22 H =>
   W.pick v20 (.bool true) v22 H fun v23 H =>
   W.guarded v23 false (fun H k => k v4 H) H fun v24 H =>
   W.guarded v23 false (fun H k => k v19 H) H fun v25 H =>
   W.guarded v23 false (fun H k => W.bin .add v24 v25 H k) H fun v26 H =>
   W.guarded v23 false (fun H k => W.bin .gtr v26 (.int .i64 5) H k) H fun v27 H =>
   W.pick v23 (.bool true) v27 H fun v28 H =>
   W.cond v28 H
   (fun H => Q (.bool false) H)
   (fun H => W.loop (S := St [5]) (fun I1 s H => f14.l1 Q v4 v1 v19 I1 s.1 H) ((.int .i64 0), ()) H))
theorem f14.enter {Q : Post} {g_0 : Value} {H : Heap} (h : f14.w Q g_0 H) : Runs Try.prog 14 #[g_0] H Q :=
  fn_enter (ann := [(8, [5]), (13, [6])]) (by kernel_rfl) Try.func14 rfl (by kernel_rfl) h (by kernel_rfl)


def lw (g : Game) : Nat := (g.1.getD 0 []).length

/-- A game: two tables of numbers. -/
structure IsGm (g : Game) : Prop where
  k1 : 1 ≤ g.1.length
  k4 : g.1.length ≤ 4
  l1 : 1 ≤ lw g
  l4 : lw g ≤ 4
  kl : g.1.length + lw g ≤ 5
  bl : g.2.length = g.1.length
  a : ∀ r ∈ g.1, r.length = lw g ∧ ∀ x ∈ r, 1 ≤ x ∧ x ≤ 20
  b : ∀ r ∈ g.2, r.length = lw g ∧ ∀ x ∈ r, 1 ≤ x ∧ x ≤ 20

def rowOk (l : Nat) (r : List Int) : Bool := decide (r.length = l) && r.all (inR 1 20)
def isTab (k l : Nat) (m : List (List Int)) : Bool := decide (m.length = k) && m.all (rowOk l)

theorem rowOk_iff {l : Nat} {r : List Int} : rowOk l r = true ↔ r.length = l ∧ ∀ x ∈ r, 1 ≤ x ∧ x ≤ 20 := by
  simp [rowOk, inR, List.all_eq_true]
theorem isTab_iff {k l : Nat} {m : List (List Int)} : isTab k l m = true ↔ m.length = k ∧ ∀ r ∈ m, r.length = l ∧ ∀ x ∈ r, 1 ≤ x ∧ x ≤ 20 := by
  simp only [isTab, Bool.and_eq_true, decide_eq_true_iff, List.all_eq_true, rowOk_iff]

theorem fn42 {H0 : Heap} {Q : Post} {v : Value} {m : List (List Int)} {k l : Nat} (hr : Has RSS H0 [v] m) (hQ : ∀ H', H0.Le H' → Q (.bool (isTab k l m)) H') : Runs Try.prog 42 #[v, .int .i64 (k : Nat), .int .i64 (l : Nat)] H0 Q := by
  have h := (Loc.start H0).lent hr
  unfold isTab at hQ
  refine f42.enter ?_
  unfold f42.w
  refine Wi.box1 rfl fun H1 l1 n1 k1 => ?_
  have h := h.to l1
  refine Wl.len h (Wi.eqlC (fun he => ?_) fun hne => ?_)
  · simp only [gw]
    rw [decide_eq_true (show m.length = k by omega)] at hQ
    obtain ⟨_, q⟩ := h.rd (cs := [v])
    refine Wi.call (contains55 _ _ _ _ _ (fun r => !rowOk l r) _ q ?_ fun H2 l2 => ?_)
    · intro H' bs u x K l' hx hK
      have hu : Has RS H' [u] x := ⟨_, hx⟩
      refine Wi.callV (f56.enter (Wl.lenH hu (Wi.get (l'.at k1 (by omega)) rfl (Wi.neqC (fun hne => ?_) fun heq => ?_))))
      · simp only [gw]
        have : K (.bool (!rowOk l x)) H' := hK _ (.refl _)
        unfold rowOk at this
        rw [decide_eq_false (show ¬ x.length = l by omega)] at this
        exact this
      · simp only [gw]
        refine Wi.call (contains57 _ _ _ _ _ (fun n => !inR 1 20 n) _ hx ?_ fun H3 l3 => ?_)
        · intro H4 bs u x K l hr hK
          obtain ⟨_, hu, _⟩ := hr
          simp only [List.cons.injEq, and_true] at hu
          subst hu
          exact Wi.callV (f58.enter (Wi.call (fn25 (Wi.not (hK _ (.refl _))))))
        · have : K (.bool (!rowOk l x)) H3 := hK _ l3
          unfold rowOk at this
          rw [decide_eq_true (show x.length = l by omega), Bool.true_and, List.all_eq_not_any_not, Bool.not_not] at this
          exact this
    · refine Wi.not ?_
      have := hQ _ (h.le.trans l2)
      rw [Bool.true_and, List.all_eq_not_any_not] at this
      exact this
  · simp only [gw]
    have := hQ _ h.le
    rw [decide_eq_false (show ¬ m.length = k by omega)] at this
    exact this

theorem lw_at {g : Game} (h : 0 < g.1.length) : lw g = g.1[0].length := by
  simp [lw, List.getD_eq_getElem?_getD, List.getElem?_eq_getElem h]

theorem fn23 {H0 : Heap} {Q : Post} {cs : List Value} {g : Game} (hr : Has RGame H0 cs g) (hw : wGame g ≤ 1048576) (hQ : ∀ H' b, H0.Le H' → (b = true ↔ IsGm g) → Q (.bool b) H') : Runs Try.prog 23 #[.agg cs.toArray] H0 Q := by
  obtain ⟨u1, u2, rfl, r1, r2⟩ := hasGame hr
  simp only [szp, wl] at hw
  have hF : ∀ H', H0.Le H' → ¬ IsGm g → Q (.bool false) H' := fun H' l h => hQ H' _ l ⟨fun e => Bool.noConfusion e, fun g => absurd g h⟩
  have h := ((Loc.start H0).lent r1).lent r2
  refine f23.enter ?_
  unfold f23.w
  refine Wl.box h fun H b h => Wi.fieldAddr0 (Wl.get h rfl (Wl.len h (Wi.call (fn25 ?_))))
  cases hk : inR 1 4 (g.1.length : Int) with
  | false =>
    simp only [gw]
    exact hF _ h.le fun q => by rw [inR_iff.2 ⟨by have := q.k1; omega, by have := q.k4; omega⟩] at hk; cases hk
  | true =>
  have hk := inR_iff.1 hk
  have hk0 : 0 < g.1.length := by omega
  have hlw := lw_at hk0
  simp only [gw]
  refine Wi.fieldAddr0 (Wl.get h rfl (Wl.at1 (i := 0) rfl h hk0 fun w hw => Wl.lenH hw (Wi.call (fn25 ?_))))
  rw [← hlw]
  cases hl : inR 1 4 (lw g : Int) with
  | false =>
    simp only [gw]
    exact hF _ h.le fun q => by rw [inR_iff.2 ⟨by have := q.l1; omega, by have := q.l4; omega⟩] at hl; cases hl
  | true =>
  have hl := inR_iff.1 hl
  simp only [gw]
  refine Wi.add (by unfold I64; omega) (Wi.leqC (fun hle => ?_) fun hgt => ?_)
  · simp only [gw]
    refine Wi.fieldAddr0 (Wl.get h rfl (Wi.call (fn42 (h.rd (cs := [u1])) fun H l => ?_)))
    have h := h.to l
    cases ha : isTab g.1.length (lw g) g.1 with
    | false =>
      simp only [gw]
      exact hF _ h.le fun q => by rw [isTab_iff.2 ⟨rfl, q.a⟩] at ha; cases ha
    | true =>
    simp only [gw]
    refine Wi.fieldAddr (Wl.get h rfl (Wi.call (fn42 (h.rd (cs := [u2])) fun H l => ?_)))
    have h := h.to l
    refine hQ _ _ h.le ⟨fun hb => ?_, fun q => isTab_iff.2 ⟨q.bl, q.b⟩⟩
    have ha := isTab_iff.1 ha
    have hb := isTab_iff.1 hb
    exact ⟨by omega, by omega, by omega, by omega, by omega, hb.1, ha.2, hb.2⟩
  · simp only [gw]
    exact hF _ h.le fun q => by have := q.kl; omega

theorem fn14 {H0 : Heap} {Q : Post} {cs : List Value} {g : Game} (hr : Has RGame H0 cs g) (hw : wGame g ≤ 1048576) (hQ : ∀ H' b, H0.Le H' → (b = true ↔ IsGm g) → Q (.bool b) H') : Runs Try.prog 14 #[.agg cs.toArray] H0 Q := by
  obtain ⟨u1, u2, rfl, r1, r2⟩ := hasGame hr
  simp only [szp, wl] at hw
  have hF : ∀ H', H0.Le H' → ¬ IsGm g → Q (.bool false) H' := fun H' l h => hQ H' _ l ⟨fun e => Bool.noConfusion e, fun g => absurd g h⟩
  have h := ((Loc.start H0).lent r1).lent r2
  refine f14.enter ?_
  unfold f14.w
  refine Wl.box h fun H b h => Wi.fieldAddr0 (Wl.get h rfl (Wl.len h (Wi.lssC (fun hlt => ?_) fun h1 => ?_)))
  · simp only [gw]
    exact hF _ h.le fun q => by have := q.k1; omega
  simp only [gw]
  refine Wi.gtrC (fun hgt => ?_) fun h2 => ?_
  · simp only [gw]
    exact hF _ h.le fun q => by have := q.k4; omega
  simp only [gw]
  refine Wi.fieldAddr (Wl.get h rfl (Wl.len h (Wi.neqC (fun hne => ?_) fun hbl => ?_)))
  · simp only [gw]
    exact hF _ h.le fun q => by have := q.bl; omega
  simp only [gw]
  have hk0 : 0 < g.1.length := by omega
  have hlw := lw_at hk0
  refine Wi.fieldAddr0 (Wl.get h rfl (Wl.at1 (i := 0) rfl h hk0 fun w hw => Wl.lenH hw ?_))
  rw [← hlw]
  refine Wi.lssC (fun hlt => ?_) fun h3 => ?_
  · simp only [gw]
    exact hF _ h.le fun q => by have := q.l1; omega
  simp only [gw]
  refine Wi.gtrC (fun hgt => ?_) fun h4 => ?_
  · simp only [gw]
    exact hF _ h.le fun q => by have := q.l4; omega
  simp only [gw]
  refine Wi.add (by unfold I64; omega) (Wi.gtrC (fun hgt => ?_) fun h5 => ?_)
  · simp only [gw]
    exact hF _ h.le fun q => by have := q.kl; omega
  simp only [gw]
  have hgl : g.2.length = g.1.length := by omega
  refine W.for_rule g.1.length (fun i st H' => st = (.int .i64 (i : Nat), ()) ∧ H' = H ∧ ∀ j (hj : j < g.1.length), j < i → rowOk (lw g) g.1[j] = true ∧ rowOk (lw g) (g.2[j]'(by omega)) = true) ⟨rfl, rfl, fun j _ hj => by omega⟩ ?_
  rintro i st H' J hi ⟨rfl, rfl, hok⟩ hJ
  refine Wi.lssC (fun hlt => Wi.tru ?_) fun hge => Wi.fls ?_
  · have hik : i < g.1.length := by omega
    have hib : i < g.2.length := by omega
    refine Wi.fieldAddr0 (Wl.get h rfl (Wl.at1 rfl h hik fun w hw => Wl.lenH hw (Wi.neqC (fun hne => ?_) fun ha => ?_)))
    · simp only [gw]
      exact hF _ h.le fun q => by have := (q.a _ (List.getElem_mem hik)).1; omega
    simp only [gw]
    refine Wi.fieldAddr (Wl.get h rfl (Wl.at1 rfl h hib fun w2 hw2 => Wl.lenH hw2 (Wi.neqC (fun hne => ?_) fun hb => ?_)))
    · simp only [gw]
      exact hF _ h.le fun q => by have := (q.b _ (List.getElem_mem hib)).1; omega
    simp only [gw]
    refine W.for_rule (lw g) (fun j st H2 => st = (.int .i64 (j : Nat), ()) ∧ H2 = H' ∧ ∀ c (h1 : c < g.1[i].length) (h2 : c < g.2[i].length), c < j → inR 1 20 g.1[i][c] = true ∧ inR 1 20 g.2[i][c] = true) ⟨rfl, rfl, fun c _ _ hc => by omega⟩ ?_
    rintro j st H2 J2 hj ⟨rfl, rfl, hok2⟩ hJ2
    refine Wi.lssC (fun hlt2 => Wi.tru ?_) fun hge2 => Wi.fls ?_
    · have hja : j < g.1[i].length := by omega
      have hjb : j < g.2[i].length := by omega
      refine Wi.fieldAddr0 (Wl.get h rfl (Wl.at1 rfl h hik fun w hw => Wl.atIntH hw hja fun _ => Wi.call (fn16 ?_)))
      cases ha2 : inR 1 20 g.1[i][j] with
      | false =>
        simp only [gw]
        exact hF _ h.le fun q => by rw [inR_iff.2 ((q.a _ (List.getElem_mem hik)).2 _ (List.getElem_mem hja))] at ha2; cases ha2
      | true =>
      simp only [gw]
      refine Wi.fieldAddr (Wl.get h rfl (Wl.at1 rfl h hib fun w hw => Wl.atIntH hw hjb fun _ => Wi.call (fn16 ?_)))
      cases hb2 : inR 1 20 g.2[i][j] with
      | false =>
        simp only [gw]
        exact hF _ h.le fun q => by rw [inR_iff.2 ((q.b _ (List.getElem_mem hib)).2 _ (List.getElem_mem hjb))] at hb2; cases hb2
      | true =>
      simp only [gw]
      refine Wi.add (by unfold I64; omega) (hJ2 _ _ (by omega) ⟨rfl, rfl, fun c h1 h2 hc => ?_⟩)
      by_cases e : c = j
      · subst e; exact ⟨ha2, hb2⟩
      · exact hok2 c h1 h2 (by omega)
    · refine Wi.add (by unfold I64; omega) (hJ _ _ (by omega) ⟨rfl, rfl, fun c hc hci => ?_⟩)
      by_cases e : c = i
      · subst e
        refine ⟨rowOk_iff.2 ⟨by omega, fun x hx => ?_⟩, rowOk_iff.2 ⟨by omega, fun x hx => ?_⟩⟩
        · obtain ⟨d, hd, rfl⟩ := List.mem_iff_getElem.1 hx
          exact inR_iff.1 (hok2 d hd (by omega) (by omega)).1
        · obtain ⟨d, hd, rfl⟩ := List.mem_iff_getElem.1 hx
          exact inR_iff.1 (hok2 d (by omega) hd (by omega)).2
      · exact hok c hc (by omega)
  · refine hQ _ _ h.le ⟨fun _ => ⟨by omega, by omega, by omega, by omega, by omega, hgl, fun r hr => ?_, fun r hr => ?_⟩, fun _ => rfl⟩
    · obtain ⟨d, hd, rfl⟩ := List.mem_iff_getElem.1 hr
      exact rowOk_iff.1 (hok d hd (by omega)).1
    · obtain ⟨d, hd, rfl⟩ := List.mem_iff_getElem.1 hr
      exact rowOk_iff.1 (hok d (by omega) (by omega)).2

end Go.Proofs.Ytbcfknboheghkaa
