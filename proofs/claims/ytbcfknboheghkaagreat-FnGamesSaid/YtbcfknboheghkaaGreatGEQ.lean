/- Mixes by their numerators, what each choice gets, replies; the contract of the program's IsEquilibrium. No condition. -/
import Derived.Test.YtbcfknboheghkaaGreatGGM
import Derived.Test.YtbcfknboheghkaaGreatGQQ
import Derived.Test.YtbcfknboheghkaaGreatGLL
namespace Go.Proofs.YtbcfknboheghkaaGreat
open Go.Ab

/- slices.Max[[]int64,int64] -/
def f94.l1 (Q : Post) (x_0 : Value) (I1 : St [3, 4] → Heap → Prop) (m_3 : Value) (i_4 : Value) (H : Heap) : Prop :=
  W.len x_0 H fun v5 H =>
  W.bin .lss i_4 v5 H fun v6 H =>
  W.cond v6 H
  (fun H => W.indexAddr 1 x_0 i_4 H fun v7 H =>
   W.get v7 H fun v8 H =>
   W.max2 m_3 v8 H fun v9 H =>
   W.bin .add i_4 (.int .i64 1) H fun v10 H =>
   I1 (v9, v10, ()) H)
  (fun H => Q m_3 H)
def f94.w (Q : Post) (x_0 : Value) (H : Heap) : Prop :=
  W.len x_0 H fun v1 H =>
  W.bin .lss v1 (.int .i64 1) H fun v2 H =>
  W.cond v2 H
  (fun H => W.no H)
  (fun H => W.indexAddr 1 x_0 (.int .i64 0) H fun v3 H =>
   W.get v3 H fun v4 H =>
   W.loop (S := St [3, 4]) (fun I1 s H => f94.l1 Q x_0 I1 s.1 s.2.1 H) (v4, (.int .i64 1), ()) H)
theorem f94.enter {Q : Post} {x_0 : Value} {H : Heap} (h : f94.w Q x_0 H) : Runs Tryz.prog 94 #[x_0] H Q :=
  fn_enter (ann := [(5, [3, 4])]) (by kernel_rfl) Tryz.func94 rfl (by kernel_rfl) h (by kernel_rfl)

/- loop.example/g01343/impl.mix -/
def f65.w (Q : Post) (list_0 : Value) (choices_1 : Value) (H : Heap) : Prop :=
  W.len list_0 H fun v1 H =>
  W.bin .neq v1 choices_1 H fun v2 H =>
  W.guarded v2 false (fun H k => k list_0 H) H fun v3 H =>
  W.guarded v2 false (fun H k => W.call Tryz.prog (.func (.func 116) #[] #[]) #[v3] H k) H fun v4 H =>
  W.guarded v2 false (fun H k => W.un .not v4 H k) H fun v5 H =>
  W.pick v2 (.bool true) v5 H fun v6 H =>
  W.cond v6 H
  (fun H => Q (.tuple #[(.slice none 0 0), (.int .i64 0), (.bool false)]) H)
  (fun H => W.call Tryz.prog (.func (.func 75) #[] #[]) #[list_0, (.int .i64 1000000000), (.int .i64 1000000000000)] H fun v7 H =>
   W.extract 0 v7 H fun v8 H =>
   W.extract 1 v7 H fun v9 H =>
   W.extract 2 v7 H fun v10 H =>
   W.un .not v10 H fun v11 H =>
   W.guarded v11 false (fun H k => k v8 H) H fun v12 H =>
   W.guarded v11 false (fun H k => W.call Tryz.prog (.func (.func 82) #[] #[]) #[v12] H k) H fun v13 H =>
   W.guarded v11 false (fun H k => W.un .not v13 H k) H fun v14 H =>
   W.pick v11 (.bool true) v14 H fun v15 H =>
   W.guarded v15 false (fun H k => k v8 H) H fun v16 H =>
   W.guarded v15 false (fun H k => W.call Tryz.prog (.func (.func 84) #[] #[]) #[v16] H k) H fun v17 H =>
   W.guarded v15 false (fun H k => k v9 H) H fun v18 H =>
   W.guarded v15 false (fun H k => W.bin .neq v17 v18 H k) H fun v19 H =>
   W.pick v15 (.bool true) v19 H fun v20 H =>
   W.cond v20 H
   (fun H => Q (.tuple #[(.slice none 0 0), (.int .i64 0), (.bool false)]) H)
   (fun H => Q (.tuple #[v8, v9, (.bool true)]) H))
theorem f65.enter {Q : Post} {list_0 : Value} {choices_1 : Value} {H : Heap} (h : f65.w Q list_0 choices_1 H) : Runs Tryz.prog 65 #[list_0, choices_1] H Q :=
  fn_enter (ann := []) (by kernel_rfl) Tryz.func65 rfl (by kernel_rfl) h (by kernel_rfl)

/- (loop.example/g01343/impl.Game).gains -/
def f67.l1 (Q : Post) (v10 : Value) (v9 : Value) (mix_2 : Value) (v7 : Value) (I1 : St [29] → Heap → Prop) (x_29 : Value) (H : Heap) : Prop :=
  W.bin .lss x_29 v10 H fun v11 H =>
  W.cond v11 H
  (fun H => W.indexAddr 1 v9 x_29 H fun v12 H =>
   W.get v12 H fun v13 H =>
   W.call Tryz.prog (.func (.func 117) #[] #[]) #[v13, mix_2] H fun v14 H =>
   W.indexAddr 1 v7 x_29 H fun v15 H =>
   W.put v15 v14 H fun _ H =>
   W.bin .add x_29 (.int .i64 1) H fun v16 H =>
   I1 (v16, ()) H)
  (fun H => Q v7 H)
def f67.l3 (Q : Post) (v24 : Value) (v23 : Value) (v17 : Value) (mix_2 : Value) (x_47 : Value) (I2 : St [47] → Heap → Prop) (I3 : St [54] → Heap → Prop) (x_54 : Value) (H : Heap) : Prop :=
  W.bin .lss x_54 v24 H fun v25 H =>
  W.cond v25 H
  (fun H => W.indexAddr 1 v23 x_54 H fun v26 H =>
   W.get v26 H fun v27 H =>
   W.indexAddr 1 v17 x_54 H fun v28 H =>
   W.get v28 H fun v29 H =>
   W.indexAddr 1 mix_2 x_47 H fun v30 H =>
   W.get v30 H fun v31 H =>
   W.bin .mul v27 v31 H fun v32 H =>
   W.bin .add v29 v32 H fun v33 H =>
   W.indexAddr 1 v17 x_54 H fun v34 H =>
   W.put v34 v33 H fun _ H =>
   W.bin .add x_54 (.int .i64 1) H fun v35 H =>
   I3 (v35, ()) H)
  (fun H => W.bin .add x_47 (.int .i64 1) H fun v36 H =>
   I2 (v36, ()) H)
def f67.l2 (Q : Post) (v20 : Value) (v19 : Value) (v17 : Value) (mix_2 : Value) (I2 : St [47] → Heap → Prop) (x_47 : Value) (H : Heap) : Prop :=
  W.bin .lss x_47 v20 H fun v21 H =>
  W.cond v21 H
  (fun H => W.indexAddr 1 v19 x_47 H fun v22 H =>
   W.get v22 H fun v23 H =>
   W.len v23 H fun v24 H =>
   W.loop (S := St [54]) (fun I3 s H => f67.l3 Q v24 v23 v17 mix_2 x_47 I2 I3 s.1 H) ((.int .i64 0), ()) H)
  (fun H => Q v17 H)
def f67.w (Q : Post) (g_0 : Value) (player_1 : Value) (mix_2 : Value) (H : Heap) : Prop :=
  W.box g_0 26 H fun v1 H =>
  W.getN 2 v1 H fun v2 H =>
  W.call Tryz.prog (.func (.func 48) #[] #[]) #[v2] H fun v3 H =>
  W.extract 0 v3 H fun v4 H =>
  W.extract 1 v3 H fun v5 H =>
  W.bin .eql player_1 (.int .i64 0) H fun v6 H =>
  W.cond v6 H
  (fun H => W.make [(.int .i64 0)] 2 v4 v4 H fun v7 H =>
   W.fieldAddr 0 v1 H fun v8 H =>
   W.get v8 H fun v9 H =>
   W.len v9 H fun v10 H =>
   W.loop (S := St [29]) (fun I1 s H => f67.l1 Q v10 v9 mix_2 v7 I1 s.1 H) ((.int .i64 0), ()) H)
  (fun H => W.make [(.int .i64 0)] 2 v5 v5 H fun v17 H =>
   W.fieldAddr 1 v1 H fun v18 H =>
   W.get v18 H fun v19 H =>
   W.len v19 H fun v20 H =>
   W.loop (S := St [47]) (fun I2 s H => f67.l2 Q v20 v19 v17 mix_2 I2 s.1 H) ((.int .i64 0), ()) H)
theorem f67.enter {Q : Post} {g_0 : Value} {player_1 : Value} {mix_2 : Value} {H : Heap} (h : f67.w Q g_0 player_1 mix_2 H) : Runs Tryz.prog 67 #[g_0, player_1, mix_2] H Q :=
  fn_enter (ann := [(5, [29]), (12, [47]), (15, [54])]) (by kernel_rfl) Tryz.func67 rfl (by kernel_rfl) h (by kernel_rfl)

/- loop.example/g01343/impl.isReply -/
def f66.l1 (Q : Post) (v2 : Value) (own_0 : Value) (gains_1 : Value) (v1 : Value) (I1 : St [12] → Heap → Prop) (x_12 : Value) (H : Heap) : Prop :=
  W.bin .lss x_12 v2 H fun v3 H =>
  W.cond v3 H
  (fun H => W.indexAddr 1 own_0 x_12 H fun v4 H =>
   W.get v4 H fun v5 H =>
   W.bin .gtr v5 (.int .i64 0) H fun v6 H =>
   W.guarded v6 true (fun H k => k gains_1 H) H fun v7 H =>
   W.guarded v6 true (fun H k => k x_12 H) H fun v8 H =>
   W.guarded v6 true (fun H k => W.indexAddr 1 v7 v8 H k) H fun v9 H =>
   W.guarded v6 true (fun H k => W.get v9 H k) H fun v10 H =>
   W.guarded v6 true (fun H k => k v1 H) H fun v11 H =>
   W.guarded v6 true (fun H k => W.bin .lss v10 v11 H k) H fun v12 H =>
   W.pick v6 v12 (.bool false) H fun v13 H =>
   W.cond v13 H
   (fun H => Q (.bool false) H)
   (fun H => W.bin .add x_12 (.int .i64 1) H fun v14 H =>
    I1 (v14, ()) H))
  (fun H => Q (.bool true) H)
def f66.w (Q : Post) (own_0 : Value) (gains_1 : Value) (H : Heap) : Prop :=
  W.call Tryz.prog (.func (.func 94) #[] #[]) #[gains_1] H fun v1 H =>
  W.len own_0 H fun v2 H =>
  W.loop (S := St [12]) (fun I1 s H => f66.l1 Q v2 own_0 gains_1 v1 I1 s.1 H) ((.int .i64 0), ()) H
theorem f66.enter {Q : Post} {own_0 : Value} {gains_1 : Value} {H : Heap} (h : f66.w Q own_0 gains_1 H) : Runs Tryz.prog 66 #[own_0, gains_1] H Q :=
  fn_enter (ann := [(3, [12])]) (by kernel_rfl) Tryz.func66 rfl (by kernel_rfl) h (by kernel_rfl)

/- loop.example/g01343/impl.IsEquilibrium -/
def f10.w (Q : Post) (g_0 : Value) (x_1 : Value) (y_2 : Value) (H : Heap) : Prop :=
  W.box g_0 26 H fun v1 H =>
  W.getN 2 v1 H fun v2 H =>
  W.call Tryz.prog (.func (.func 28) #[] #[]) #[v2] H fun v3 H =>
  W.un .not v3 H fun v4 H =>
  W.cond v4 H
  (fun H => Q (.tuple #[(.bool false), (.int .i64 1)]) H)
  (fun H => W.getN 2 v1 H fun v5 H =>
   W.call Tryz.prog (.func (.func 48) #[] #[]) #[v5] H fun v6 H =>
   W.extract 0 v6 H fun v7 H =>
   W.extract 1 v6 H fun v8 H =>
   W.call Tryz.prog (.func (.func 65) #[] #[]) #[x_1, v7] H fun v9 H =>
   W.extract 0 v9 H fun v10 H =>
   W.extract 1 v9 H fun v11 H =>
   W.extract 2 v9 H fun v12 H =>
   W.call Tryz.prog (.func (.func 65) #[] #[]) #[y_2, v8] H fun v13 H =>
   W.extract 0 v13 H fun v14 H =>
   W.extract 1 v13 H fun v15 H =>
   W.extract 2 v13 H fun v16 H =>
   W.un .not v12 H fun v17 H =>
   W.guarded v17 false (fun H k => k v16 H) H fun v18 H =>
   W.guarded v17 false (fun H k => W.un .not v18 H k) H fun v19 H =>
   W.pick v17 (.bool true) v19 H fun v20 H =>
   W.cond v20 H
   (fun H => Q (.tuple #[(.bool false), (.int .i64 2)]) H)
   (fun H => W.getN 2 v1 H fun v21 H =>
    W.call Tryz.prog (.func (.func 67) #[] #[]) #[v21, (.int .i64 0), v14] H fun v22 H =>
    W.call Tryz.prog (.func (.func 66) #[] #[]) #[v10, v22] H fun v23 H =>
    W.guarded v23 true (fun H k => k v14 H) H fun v24 H =>
    W.guarded v23 true (fun H k => W.getN 2 v1 H k) H fun v25 H =>
    W.guarded v23 true (fun H k => k v10 H) H fun v26 H =>
    W.guarded v23 true (fun H k => W.call Tryz.prog (.func (.func 67) #[] #[]) #[v25, (.int .i64 1), v26] H k) H fun v27 H =>
    W.guarded v23 true (fun H k => W.call Tryz.prog (.func (.func 66) #[] #[]) #[v24, v27] H k) H fun v28 H =>
    W.pick v23 v28 (.bool false) H fun v29 H =>
    Q (.tuple #[v29, (.int .i64 0)]) H))
theorem f10.enter {Q : Post} {g_0 : Value} {x_1 : Value} {y_2 : Value} {H : Heap} (h : f10.w Q g_0 x_1 y_2 H) : Runs Tryz.prog 10 #[g_0, x_1, y_2] H Q :=
  fn_enter (ann := []) (by kernel_rfl) Tryz.func10 rfl (by kernel_rfl) h (by kernel_rfl)


theorem tog_all {m n : Int} {xs : List Frac} (hf : Frs xs) (hm : 1 ≤ m) {l : List Int} {d : Int} (h : tog m n xs = some (l, d)) : l.length = xs.length ∧ 1 ≤ d ∧ d ≤ m ∧ (∀ a ∈ l, -n ≤ a ∧ a ≤ n) ∧ l = xs.map (comNum d) ∧ d = comTo xs xs.length := by
  classical
  unfold tog at h
  by_cases hD : okDen m xs ∧ okNum n (comTo xs xs.length) xs
  · rw [if_pos hD] at h
    cases h
    refine ⟨by simp, comTo_pos hf (Nat.le_refl _), ?_, fun a ha => ?_, rfl, rfl⟩
    · cases hx : xs.length with
      | zero => simpa [comTo] using hm
      | succ k =>
        have := hD.1 k (by omega)
        exact this
    · obtain ⟨x, hx, rfl⟩ := List.mem_map.1 ha
      exact hD.2 x hx
  · rw [if_neg hD] at h
    cases h

/-- A mix's numerators with their common denominator. -/
noncomputable def mixN (xs : List Frac) (n : Nat) : Option (List Int × Int) := open Classical in
  if xs.length = n ∧ Frs xs then (match tog 1000000000 1000000000000 xs with | some (l, d) => if (∀ a ∈ l, 0 ≤ a) ∧ l.sum = d then some (l, d) else none | none => none) else none

theorem mixN_facts {xs : List Frac} {n : Nat} {l : List Int} {d : Int} (h : mixN xs n = some (l, d)) : xs.length = n ∧ Frs xs ∧ tog 1000000000 1000000000000 xs = some (l, d) ∧ (∀ a ∈ l, 0 ≤ a) ∧ l.sum = d := by
  classical
  unfold mixN at h
  split at h
  · rename_i h1
    split at h
    · rename_i l' d' ht
      split at h
      · rename_i h2
        cases h
        exact ⟨h1.1, h1.2, ht, h2.1, h2.2⟩
      · cases h
    · cases h
  · cases h

theorem mixN_len {xs : List Frac} {n : Nat} {l : List Int} {d : Int} (h : mixN xs n = some (l, d)) : l.length = n ∧ (∀ a ∈ l, a.natAbs ≤ 1000000000000) ∧ 1 ≤ d ∧ d ≤ 1000000000 := by
  obtain ⟨h1, h2, h3, h4, h5⟩ := mixN_facts h
  obtain ⟨g1, g2, g3, g4, _⟩ := tog_all h2 (by decide) h3
  exact ⟨g1.trans h1, fun a ha => by have := g4 a ha; omega, g2, g3⟩

theorem fn65 {H0 : Heap} {Q : Post} {v : Value} {xs : List Frac} {n : Nat} (hr : Has RFS H0 [v] xs) (hl : xs.length ≤ 1000)
    (h1 : mixN xs n = none → ∀ H', H0.Le H' → Q (.tuple #[.slice none 0 0, .int .i64 0, .bool false]) H')
    (h2 : ∀ l d, mixN xs n = some (l, d) → ∀ H' u, FreshG Rd.int 2 H0 u l H' → Q (.tuple #[u, .int .i64 d, .bool true]) H') : Runs Tryz.prog 65 #[v, .int .i64 (n : Nat)] H0 Q := by
  classical
  refine f65.enter ?_
  unfold f65.w
  refine Wl.lenH hr (Wi.neqC (fun hne => ?_) fun he => ?_)
  · simp only [gw]
    refine h1 ?_ _ (.refl _)
    unfold mixN
    rw [if_neg fun q => hne (by rw [q.1])]
  have he : xs.length = n := by omega
  simp only [gw]
  refine Wi.call (fn116 hr fun H t l ht => ?_)
  cases t with
  | false =>
    simp only [gw]
    refine h1 ?_ _ l
    unfold mixN
    rw [if_neg fun q => Bool.noConfusion (ht.2 q.2)]
  | true =>
  have hf := ht.1 rfl
  simp only [gw]
  refine Wi.call (fn75 (hr.le l) hf (by omega) (by decide) (by decide) (fun hn H' l' => ?_) fun li d hs H' u f => ?_)
  · simp only [gw]
    refine h1 ?_ _ (l.trans l')
    unfold mixN
    rw [if_pos ⟨he, hf⟩, hn]
  have hm : mixN xs n = if (∀ a ∈ li, 0 ≤ a) ∧ li.sum = d then some (li, d) else none := by
    unfold mixN
    rw [if_pos ⟨he, hf⟩, hs]
  obtain ⟨g1, g2, g3, g4, _⟩ := tog_all hf (by decide) hs
  have h := ((Loc.start H0).to l).addG f
  simp only [gw]
  refine Wi.call (fn82 (h.rd (cs := [u])) fun H t l2 ht => ?_)
  have h := h.to l2
  cases t with
  | false =>
    simp only [gw]
    refine h1 ?_ _ h.le
    rw [hm, if_neg fun q => Bool.noConfusion (ht.2 q.1)]
  | true =>
  have hp := ht.1 rfl
  simp only [gw]
  refine Wi.call (fn84 (B := 1000000000000) (h.rd (cs := [u])) (fun x hx => by have := g4 x hx; omega) (by rw [g1]; omega) (Wi.neqC (fun hne => ?_) fun he2 => ?_))
  · simp only [gw]
    refine h1 ?_ _ h.le
    rw [hm, if_neg fun q => hne q.2]
  · simp only [gw]
    exact h2 li d (by rw [hm, if_pos ⟨hp, he2⟩]) _ u (h.retGG (i := 0) rfl)

/-- What the choices get. -/
def gainsA (g : Game) (m : List Int) : List Int := g.1.map fun r => dot r m
def gainB (g : Game) (m : List Int) (j i : Nat) : Int := sumTo (fun i => mAt g.2 i j * m.getD i 0) i
def gainsB (g : Game) (m : List Int) : List Int := (List.range (lw g)).map fun j => gainB g m j g.1.length

theorem fn48 {H0 : Heap} {Q : Post} {cs : List Value} {g : Game} (hr : Has RGame H0 cs g) (hk : 0 < g.1.length) (hQ : ∀ H', H0.Le H' → Q (.tuple #[.int .i64 (g.1.length : Nat), .int .i64 (lw g : Nat)]) H') : Runs Tryz.prog 48 #[.agg cs.toArray] H0 Q := by
  obtain ⟨u1, u2, rfl, r1, r2⟩ := hasGame hr
  have h := ((Loc.start H0).lent r1).lent r2
  refine f48.enter (Wl.box h fun H b3 h => Wi.fieldAddr0 (Wl.get (b := b3) h rfl (Wl.len (v := u1) (xs := g.1) h (Wi.fieldAddr0 (Wl.get (b := b3) h rfl (Wl.at1H rfl (h.rd (cs := [u1]) (r := RSS) (x := g.1)) (i := 0) hk fun w hw => Wl.lenH hw ?_))))))
  rw [← lw_at hk]
  exact hQ _ h.le

theorem fnA67 {H0 : Heap} {Q : Post} {cs : List Value} {vm : Value} {g : Game} {m : List Int} (hr : Has RGame H0 cs g) (hg : IsGm g) (hm : Has RS H0 [vm] m) (hl : m.length = lw g) (hb : ∀ x ∈ m, x.natAbs ≤ 1000000000000) (hQ : ∀ H' u, FreshG Rd.int 2 H0 u (gainsA g m) H' → Q u H') :
    Runs Tryz.prog 67 #[.agg cs.toArray, .int .i64 0, vm] H0 Q := by
  obtain ⟨u1, u2, rfl, r1, r2⟩ := hasGame hr
  have k1 := hg.k1
  have k4 := hg.k4
  have l4 := hg.l4
  have h := (((Loc.start H0).lent hm).lent r1).lent hr
  refine f67.enter ?_
  unfold f67.w
  refine Wl.box (cs := [u1, u2]) h fun H b h => Wl.getA (b := b) h rfl (Wi.call (fn48 (h.rd (cs := [u1, u2]) (x := g)) (by omega) fun H l => ?_))
  have h := h.to l
  simp only [gw]
  refine Wi.eqlC (fun _ => Wi.tru ?_) fun q => absurd rfl q
  refine Wl.make (r := Rd.int) (z := 0) (m := g.1.length) (fun _ => ⟨rfl, rfl, by unfold I64; omega⟩) h (by omega) (by decide) fun H v h => ?_
  refine Wi.fieldAddr0 (Wl.get (b := b) h rfl (Wl.len (v := u1) (xs := g.1) h ?_))
  have e0 : List.replicate g.1.length (0 : Int) = (List.range g.1.length).map fun i => if i < 0 then dot (g.1.getD i []) m else 0 := by
    simp [List.map_const']
  rw [e0] at h
  refine W.for_rule g.1.length (fun i st H => st = (.int .i64 (i : Nat), ()) ∧ Ab.Loc H0 [.grow Rd.int 2 v ((List.range g.1.length).map fun j => if j < i then dot (g.1.getD j []) m else 0), .box b [u1, u2], .lent RGame [u1, u2] g, .lent RSS [u1] g.1, .lent RS [vm] m] H) ⟨rfl, h⟩ ?_
  rintro i st H J hi ⟨rfl, h⟩ hJ
  refine Wi.lssC (fun hlt => Wi.tru ?_) fun hge => Wi.fls ?_
  · have hik : i < g.1.length := by omega
    obtain ⟨e1, e2⟩ := hg.a _ (List.getElem_mem hik)
    have hA : ∀ x ∈ g.1[i], x.natAbs ≤ 20 := fun x hx => by have := e2 x hx; omega
    have hd := dot_abs hA hb
    have hlm : g.1[i].length * (20 * 1000000000000) ≤ 80000000000000 := by rw [e1]; omega
    refine Wl.at1H rfl (h.rd (cs := [u1]) (r := RSS) (x := g.1)) hik fun w hw => Wi.call (fn117 hw (h.rd (cs := [vm]) (r := RS) (x := m)) (by omega) hA hb (by omega) ?_)
    refine Wl.setG (v := v) (j := 0) h (i := i) (by simp; omega) (by unfold I64; omega) fun H h => Wi.add (by unfold I64; omega) (hJ _ _ hik ⟨rfl, ?_⟩)
    rw [range_set2 (g := fun j => if j < i + 1 then dot (g.1.getD j []) m else 0) (by show (if _ then _ else _) = _; rw [if_pos (by omega), getD_row hik]) fun k _ hne => by
      by_cases c : k < i
      · rw [if_pos c, if_pos (by omega)]
      · rw [if_neg c, if_neg (by omega)]] at h
    exact h
  · have hik : i = g.1.length := by omega
    have e : ((List.range g.1.length).map fun j => if j < i then dot (g.1.getD j []) m else 0) = gainsA g m := by
      unfold gainsA
      apply List.ext_getElem
      · simp
      · intro j h1 h2
        have hj : j < g.1.length := by simpa using h2
        simp only [List.getElem_map, List.getElem_range]
        rw [if_pos (by omega), getD_row hj]
    rw [e] at h
    exact hQ _ v (h.retGG (i := 0) rfl)

theorem fnB67 {H0 : Heap} {Q : Post} {cs : List Value} {vm : Value} {g : Game} {m : List Int} (hr : Has RGame H0 cs g) (hg : IsGm g) (hm : Has RS H0 [vm] m) (hl : m.length = g.1.length) (hb : ∀ x ∈ m, x.natAbs ≤ 1000000000000) (hQ : ∀ H' u, FreshG Rd.int 2 H0 u (gainsB g m) H' → Q u H') :
    Runs Tryz.prog 67 #[.agg cs.toArray, .int .i64 1, vm] H0 Q := by
  obtain ⟨u1, u2, rfl, r1, r2⟩ := hasGame hr
  have k1 := hg.k1
  have k4 := hg.k4
  have l4 := hg.l4
  have bl := hg.bl
  have h := (((Loc.start H0).lent hm).lent r2).lent hr
  refine f67.enter ?_
  unfold f67.w
  refine Wl.box (cs := [u1, u2]) h fun H b h => Wl.getA (b := b) h rfl (Wi.call (fn48 (h.rd (cs := [u1, u2]) (x := g)) (by omega) fun H l => ?_))
  have h := h.to l
  simp only [gw]
  refine Wi.eqlC (fun q => absurd q (by decide)) fun _ => Wi.fls ?_
  refine Wl.make (r := Rd.int) (z := 0) (m := lw g) (fun _ => ⟨rfl, rfl, by unfold I64; omega⟩) h (by omega) (by decide) fun H v h => ?_
  refine Wi.fieldAddr (Wl.get (b := b) (o := 1) h rfl (Wl.len (v := u2) (xs := g.2) h ?_))
  have hB : ∀ i j, (mAt g.2 i j * m.getD i 0).natAbs ≤ 20000000000000 := fun i j => by
    have h1 : (mAt g.2 i j).natAbs ≤ 20 := by
      by_cases hi : i < g.2.length
      · unfold mAt
        rw [getD_row hi]
        exact getD_abs (fun x hx => by have := (hg.b _ (List.getElem_mem hi)).2 x hx; omega) j
      · simp [mAt, List.getD_eq_getElem?_getD, List.getElem?_eq_none (show g.2.length ≤ i by omega)]
    have h2 := getD_abs hb i
    have := mul_abs h1 h2
    omega
  have hS : ∀ j i, i ≤ 4 → (gainB g m j i).natAbs ≤ 80000000000000 := fun j i hi => by
    have := sumTo_abs (f := fun i => mAt g.2 i j * m.getD i 0) (n := i) fun i _ => hB i j
    unfold gainB
    have h2 : i * 20000000000000 ≤ 4 * 20000000000000 := Nat.mul_le_mul_right _ hi
    omega
  have e0 : List.replicate (lw g) (0 : Int) = (List.range (lw g)).map fun j => gainB g m j 0 := by
    simp [gainB, sumTo, List.map_const']
  rw [e0] at h
  rw [bl]
  refine W.for_rule g.1.length (fun i st H => st = (.int .i64 (i : Nat), ()) ∧ Ab.Loc H0 [.grow Rd.int 2 v ((List.range (lw g)).map fun j => gainB g m j i), .box b [u1, u2], .lent RGame [u1, u2] g, .lent RSS [u2] g.2, .lent RS [vm] m] H) ⟨rfl, h⟩ ?_
  rintro i st H J hi ⟨rfl, h⟩ hJ
  refine Wi.lssC (fun hlt => Wi.tru ?_) fun hge => Wi.fls ?_
  · have hik : i < g.1.length := by omega
    have hib : i < g.2.length := by omega
    obtain ⟨e1, e2⟩ := hg.b _ (List.getElem_mem hib)
    refine Wl.atL (v := u2) rfl h hib fun w h => Wl.len (v := w) (xs := g.2[i]) h ?_
    rw [e1]
    have h : Ab.Loc H0 [.lent RS [w] g.2[i], .grow Rd.int 2 v ((List.range (lw g)).map fun j => if j < 0 then gainB g m j (i + 1) else gainB g m j i), .box b [u1, u2], .lent RGame [u1, u2] g, .lent RSS [u2] g.2, .lent RS [vm] m] H := by
      simpa using h
    refine W.for_rule (lw g) (fun j st H => st = (.int .i64 (j : Nat), ()) ∧ Ab.Loc H0 [.lent RS [w] g.2[i], .grow Rd.int 2 v ((List.range (lw g)).map fun c => if c < j then gainB g m c (i + 1) else gainB g m c i), .box b [u1, u2], .lent RGame [u1, u2] g, .lent RSS [u2] g.2, .lent RS [vm] m] H) ⟨rfl, h⟩ ?_
    rintro j st H J2 hj ⟨rfl, h⟩ hJ2
    refine Wi.lssC (fun hlt2 => Wi.tru ?_) fun hge2 => Wi.fls ?_
    · have hjl : j < lw g := by omega
      have hjr : j < g.2[i].length := by omega
      have him : i < m.length := by omega
      have em : mAt g.2 i j = g.2[i][j] := by unfold mAt; rw [getD_row hib, getD_at hjr]
      have h1 := hB i j
      rw [em, getD_at him] at h1
      have hnx : gainB g m j (i + 1) = gainB g m j i + g.2[i][j] * m[i] := by
        unfold gainB
        simp only [sumTo]
        rw [em, getD_at him]
      have h2 := hS j i (by omega)
      have h3 := hS j (i + 1) (by omega)
      refine Wl.atIntH (h.rd (cs := [w]) (r := RS) (x := g.2[i])) hjr fun _ => Wl.atIntH (h.rd (cs := [v]) (r := RS)) (i := j) (by simp; omega) fun _ => Wl.atIntH (h.rd (cs := [vm]) (r := RS) (x := m)) him fun _ => ?_
      simp only [List.getElem_map, List.getElem_range, Nat.lt_irrefl, if_false]
      refine Wi.mul (by unfold I64; omega) (Wi.add (by rw [← hnx]; unfold I64; omega) ?_)
      rw [← hnx]
      refine Wl.setG (v := v) (j := 1) h (i := j) (by simp; omega) (by unfold I64; omega) fun H h => Wi.add (by unfold I64; omega) (hJ2 _ _ hjl ⟨rfl, ?_⟩)
      rw [range_set2 (g := fun c => if c < j + 1 then gainB g m c (i + 1) else gainB g m c i) (by show (if _ then _ else _) = _; rw [if_pos (by omega)]) fun k _ hne => by
        by_cases c : k < j
        · rw [if_pos c, if_pos (by omega)]
        · rw [if_neg c, if_neg (by omega)]] at h
      exact h
    · have hjl : j = lw g := by omega
      have e : ((List.range (lw g)).map fun c => if c < j then gainB g m c (i + 1) else gainB g m c i) = (List.range (lw g)).map fun c => gainB g m c (i + 1) :=
        List.map_congr_left fun c hc => if_pos (by have : c < lw g := by simpa using hc
                                                   omega)
      rw [e] at h
      exact Wi.add (by unfold I64; omega) (hJ _ _ hik ⟨rfl, h.tl⟩)
  · have hik : i = g.1.length := by omega
    subst hik
    exact hQ _ v (h.retGG (i := 0) rfl)

theorem max2 {a b : Int} {κ κ' : IntKind} {H : Heap} {k : Post} (h : k (.int κ (if b > a then b else a)) H) : W.max2 (.int κ a) (.int κ' b) H k := h

theorem fn94 {H0 : Heap} {Q : Post} {v : Value} {l : List Int} (hr : Has RS H0 [v] l) (h0 : 0 < l.length) (hQ : ∀ r, r ∈ l → (∀ e ∈ l, e ≤ r) → Q (.int .i64 r) H0) : Runs Tryz.prog 94 #[v] H0 Q := by
  have h := (Loc.start H0).lent hr
  have hsm := hr.small
  refine f94.enter (Wl.len h (Wi.lssC (fun h => by omega) fun _ => Wi.fls (Wl.atInt h (i := 0) h0 fun _ => ?_)))
  unfold f94.l1
  refine W.for_rule (l.length - 1) (fun k s H' => H' = H0 ∧ ∃ r, s = (.int .i64 r, .int .i64 ((k + 1 : Nat) : Int), ()) ∧ r ∈ l ∧ ∀ j (hj : j < l.length), j ≤ k → l[j] ≤ r) ⟨rfl, l[0], rfl, List.getElem_mem h0, fun j hj hj0 => ?_⟩ ?_
  · have : j = 0 := by omega
    subst this
    exact Int.le_refl _
  rintro k s H' J hk ⟨rfl, r, rfl, hr2, hle⟩ hJ
  refine Wl.len h (Wi.lssC (fun hlt => Wi.tru ?_) fun hge => Wi.fls ?_)
  · have hkl : k + 1 < l.length := by omega
    refine Wl.atInt h (i := k + 1) hkl fun _ => max2 ?_
    refine Wi.add (by unfold I64; omega) (hJ _ _ (by omega) ⟨rfl, _, rfl, ?_, fun j hj hjk => ?_⟩)
    · split
      · exact List.getElem_mem hkl
      · exact hr2
    · by_cases e : j = k + 1
      · subst e
        split <;> omega
      · have := hle j hj (by omega)
        split <;> omega
  · refine hQ r hr2 fun e he => ?_
    obtain ⟨j, hj, rfl⟩ := List.mem_iff_getElem.1 he
    exact hle j hj (by omega)

def repOk (own gains : List Int) : Prop := ∀ i, i < own.length → 0 < own.getD i 0 → ∀ x ∈ gains, x ≤ gains.getD i 0

theorem fn66 {H0 : Heap} {Q : Post} {vo vg : Value} {own gains : List Int} (ho : Has RS H0 [vo] own) (hgn : Has RS H0 [vg] gains) (hl : own.length = gains.length) (h0 : 0 < gains.length) (hQ : ∀ t, (t = true ↔ repOk own gains) → Q (.bool t) H0) : Runs Tryz.prog 66 #[vo, vg] H0 Q := by
  have hsm := ho.small
  refine f66.enter ?_
  unfold f66.w
  refine Wi.call (fn94 hgn h0 fun r hr hle => Wl.lenH ho ?_)
  refine W.for_rule own.length (fun i st H => H = H0 ∧ st = (.int .i64 (i : Nat), ()) ∧ ∀ j, j < i → 0 < own.getD j 0 → r ≤ gains.getD j 0) ⟨rfl, rfl, fun j hj => by omega⟩ ?_
  rintro i st H J hi ⟨rfl, rfl, hno⟩ hJ
  refine Wi.lssC (fun hlt => Wi.tru ?_) fun hge => Wi.fls ?_
  · have hio : i < own.length := by omega
    have hig : i < gains.length := by omega
    have go : (0 < own.getD i 0 → r ≤ gains.getD i 0) → W.bin .add (.int .i64 (i : Nat)) (.int .i64 1) H fun v14 H => J (v14, ()) H := fun hp =>
      Wi.add (by unfold I64; omega) (hJ _ _ hio ⟨rfl, rfl, fun j hj => by
        by_cases c : j < i
        · exact hno j c
        · have : j = i := by omega
          subst this
          exact hp⟩)
    refine Wl.atIntH ho hio fun _ => Wi.gtrC (fun hp => ?_) fun hp => ?_
    · simp only [gw]
      refine Wl.atIntH hgn hig fun _ => Wi.lssC (fun hq => ?_) fun hq => ?_
      · simp only [gw]
        refine hQ false ⟨fun e => Bool.noConfusion e, fun e => ?_⟩
        have := e i hio (by rw [getD_at hio]; exact hp) r hr
        rw [getD_at hig] at this
        omega
      · simp only [gw]
        exact go fun _ => by rw [getD_at hig]; omega
    · simp only [gw]
      exact go fun e => by rw [getD_at hio] at e; omega
  · refine hQ true ⟨fun _ j hj hp x hx => Int.le_trans (hle x hx) (hno j (by omega) hp), fun _ => rfl⟩

noncomputable def ieRes (g : Game) (x y : List Frac) : Bool × Int := open Classical in
  if IsGm g then (match mixN x g.1.length, mixN y (lw g) with
    | some (a, _), some (b, _) => (decide (repOk a (gainsA g b) ∧ repOk b (gainsB g a)), 0)
    | _, _ => (false, 2)) else (false, 1)

theorem fn10 {H0 : Heap} {Q : Post} {cs : List Value} {vx vy : Value} {g : Game} {x y : List Frac} (hr : Has RGame H0 cs g) (hx : Has RFS H0 [vx] x) (hy : Has RFS H0 [vy] y) (hw : wGame g ≤ 1048576) (lx : x.length ≤ 1000) (ly : y.length ≤ 1000)
    (hQ : ∀ H', H0.Le H' → Q (.tuple #[.bool (ieRes g x y).1, .int .i64 (ieRes g x y).2]) H') : Runs Tryz.prog 10 #[.agg cs.toArray, vx, vy] H0 Q := by
  classical
  obtain ⟨u1, u2, rfl, r1, r2⟩ := hasGame hr
  have h := (((Loc.start H0).lent hy).lent hx).lent hr
  refine f10.enter ?_
  unfold f10.w
  refine Wl.box (cs := [u1, u2]) h fun H b h => Wl.getA (b := b) h rfl (Wi.call (fn28 (h.rd (cs := [u1, u2]) (x := g)) hw fun H t l ht => ?_))
  have h := h.to l
  cases t with
  | false =>
    simp only [gw]
    have := hQ H h.le
    unfold ieRes at this
    rw [if_neg (fun q => Bool.noConfusion (ht.2 q))] at this
    exact this
  | true =>
  have hg := ht.1 rfl
  have k1 := hg.k1
  have l1 := hg.l1
  simp only [gw]
  refine Wl.getA (b := b) h rfl (Wi.call (fn48 (h.rd (cs := [u1, u2]) (x := g)) (by omega) fun H l => ?_))
  have h := h.to l
  simp only [gw]
  have bad : ∀ H, H0.Le H → (mixN x g.1.length = none ∨ mixN y (lw g) = none) → Q (.tuple #[.bool false, .int .i64 2]) H := fun H l e => by
    have := hQ H l
    unfold ieRes at this
    rw [if_pos hg] at this
    rcases e with e | e
    · rw [e] at this; exact this
    · rw [e] at this
      cases hm : mixN x g.1.length with
      | none => rw [hm] at this; exact this
      | some p => obtain ⟨a, d⟩ := p; rw [hm] at this; exact this
  refine Wi.call (fn65 (h.rd (cs := [vx]) (r := RFS) (x := x)) lx (fun e1 H l => ?_) fun a da e1 H ua f => ?_)
  · have h := h.to l
    simp only [gw]
    refine Wi.call (fn65 (h.rd (cs := [vy]) (r := RFS) (x := y)) ly (fun e2 H l => ?_) fun a da e2 H ua f => ?_)
    · simp only [gw]
      exact bad _ (h.to l).le (.inl e1)
    · simp only [gw]
      exact bad _ (h.addG f).le (.inl e1)
  have h := h.addG f
  simp only [gw]
  refine Wi.call (fn65 (h.rd (cs := [vy]) (r := RFS) (x := y)) ly (fun e2 H l => ?_) fun bb db e2 H ub f => ?_)
  · simp only [gw]
    exact bad _ (h.to l).le (.inr e2)
  have h := h.addG f
  obtain ⟨al, ab, _⟩ := mixN_len e1
  obtain ⟨bl, bb2, _⟩ := mixN_len e2
  simp only [gw]
  have fin : ∀ H t, H0.Le H → (t = true ↔ repOk a (gainsA g bb) ∧ repOk bb (gainsB g a)) → Q (.tuple #[.bool t, .int .i64 0]) H := fun H t l ht => by
    have := hQ H l
    unfold ieRes at this
    rw [if_pos hg, e1, e2] at this
    have e : t = decide (repOk a (gainsA g bb) ∧ repOk bb (gainsB g a)) := by
      rw [Bool.eq_iff_iff, ht]; simp
    rw [e]
    exact this
  refine Wl.getA (b := b) h rfl (Wi.call (fnA67 (h.rd (cs := [u1, u2]) (x := g)) hg (h.rd (cs := [ub]) (r := RS) (x := bb)) bl bb2 fun H v f => ?_))
  have h := h.addG f
  refine Wi.call (fn66 (h.rd (cs := [ua]) (r := RS) (x := a)) (h.rd (cs := [v]) (r := RS) (x := gainsA g bb)) (by simp [gainsA, al]) (by simp [gainsA]; omega) fun t ht => ?_)
  cases t with
  | false =>
    simp only [gw]
    exact fin _ _ h.le ⟨fun e => Bool.noConfusion e, fun e => Bool.noConfusion (ht.2 e.1)⟩
  | true =>
  simp only [gw]
  refine Wl.getA (b := b) h rfl (Wi.call (fnB67 (h.rd (cs := [u1, u2]) (x := g)) hg (h.rd (cs := [ua]) (r := RS) (x := a)) al ab fun H v2 f => ?_))
  have h := h.addG f
  refine Wi.call (fn66 (h.rd (cs := [ub]) (r := RS) (x := bb)) (h.rd (cs := [v2]) (r := RS) (x := gainsB g a)) (by simp [gainsB, bl]) (by simp [gainsB]; omega) fun t ht2 => ?_)
  exact fin _ _ h.le ⟨fun e => ⟨ht.1 rfl, ht2.1 e⟩, fun e => ht2.2 e.2⟩

end Go.Proofs.YtbcfknboheghkaaGreat
/-! What remains when worse choices are taken away; the contract of the program's RemainingChoices. No condition. -/
namespace Go.Proofs.YtbcfknboheghkaaGreat
open Go.Ab

/- slices.DeleteFunc[[]int64,int64] -/
/- loop.example/g01343/impl.numbersTo -/
/- loop.example/g01343/impl.without -/
/- loop.example/g01343/impl.without$1 -/
/- loop.example/g01343/impl.beaten -/
/- loop.example/g01343/impl.beaten$1 -/
/- loop.example/g01343/impl.RemainingChoices -/
/- loop.example/g01343/impl.RemainingChoices$1 -/
/- loop.example/g01343/impl.RemainingChoices$2 -/
/-! ### Plain -/

def domT (t : Int → Int → Int) (own others : List Int) (i : Int) : Bool := own.any fun k => !others.any fun j => decide (t k j ≤ t i j)
def worstT (t : Int → Int → Int) (own others : List Int) : Int := match own.find? (domT t own others) with | some i => i | none => -1
def lessL (l : List Int) (n : Int) : List Int := l.filter fun x => !decide (x = n)

def remL (tA tB : Int → Int → Int) : Nat → List Int → List Int → List Int × List Int
  | 0, r, c => (r, c)
  | n + 1, r, c => if 0 ≤ worstT tA r c then remL tA tB n (lessL r (worstT tA r c)) c else if worstT tB c r < 0 then (r, c) else remL tA tB n r (lessL c (worstT tB c r))

def tabA (g : Game) (i j : Int) : Int := mAt g.1 i.toNat j.toNat
def tabB (g : Game) (j i : Int) : Int := mAt g.2 i.toNat j.toNat
def upL (n : Nat) : List Int := (List.range n).map fun (i : Nat) => ((i : Nat) : Int)
noncomputable def remRes (g : Game) : (List Int × List Int) × Int := open Classical in
  if IsGm g then (remL (tabA g) (tabB g) (nG g) (upL g.1.length) (upL (lw g)), 0) else (([], []), 1)

/-! ### The program's -/

/-- A function value that tells a table's numbers. -/
def AtF (fv : Value) (H : Heap) (I J : List Int) (t : Int → Int → Int) : Prop :=
  ∀ H' i j (K : Post), H.Le H' → i ∈ I → j ∈ J → (∀ H2, H'.Le H2 → K (.int .i64 (t i j)) H2) → W.call Tryz.prog fv #[.int .i64 i, .int .i64 j] H' K

end Go.Proofs.YtbcfknboheghkaaGreat
