/- The laws' own helpers: weighing and copying arguments. -/
import Derived.Test.YtdbdmlfnggbdiaaZabLaw5
namespace Go.Ab

/-! ### Weighing -/

def SzC {α : Type} (P : Program) (f : FuncId) (r : Rd α) (w : α → Nat) : Prop :=
  ∀ H bs v x (left : Int) (Q : Post), r.rel H bs [v] x → 0 ≤ left → left < 4611686018427387904 → (w x ≤ left → ∀ H', H.Le H' → Q (.int .i64 (left - w x)) H') →
    (left < w x → ∀ H', H.Le H' → Q (.int .i64 (-1)) H') → Runs P f #[v, .int .i64 left] H Q

def SzA {α : Type} (P : Program) (f : FuncId) (r : Rd α) (w : α → Nat) : Prop :=
  ∀ H bs cs x (left : Int) (Q : Post), r.rel H bs cs x → 0 ≤ left → left < 4611686018427387904 → (w x ≤ left → ∀ H', H.Le H' → Q (.int .i64 (left - w x)) H') →
    (left < w x → ∀ H', H.Le H' → Q (.int .i64 (-1)) H') → Runs P f #[.agg cs.toArray, .int .i64 left] H Q

/-- Weighing, what follows if it is too much, and if not. -/
def SzV {α : Type} (agg : Bool) (r : Rd α) (w : α → Nat) (M : Hld) : Prop :=
  ∀ H bs cs x (left : Int) A (K : Post), r.rel H bs cs x → 0 ≤ left → left < 4611686018427387904 → (w x ≤ left → ∀ H', H.Le H' → K (.int .i64 (left - w x)) H') →
    (left < w x → ∀ H', H.Le H' → A H') → M (valOf agg cs) (.int .i64 left) H A K

theorem SzV.one {α : Type} {P : Program} {f : FuncId} {r : Rd α} {w : α → Nat} (hr : r.n = 1) (h : SzC P f r w) :
    SzV false r w (fun v k H A K => W.call P (.func (.func f) #[] #[]) #[v, k] H fun v H => W.bin .lss v (.int .i64 0) H fun u H => W.cond u H A (K v)) := by
  intro H bs cs x left A K h1 hk hs hK hA
  have l1 := r.len h1
  rw [hr] at l1
  obtain ⟨u1, rfl⟩ := List.length_eq_one_iff.1 l1
  refine Wi.call (h _ _ _ _ _ _ h1 hk hs (fun hw H' l => Wi.lss ?_) fun hw H' l => Wi.lss ?_)
  · rw [show decide (left - (w x : Int) < 0) = false by simp; omega]
    exact Wi.fls (hK hw H' l)
  · exact Wi.tru (hA hw H' l)

theorem SzV.call {α : Type} {P : Program} {f : FuncId} {r : Rd α} {w : α → Nat} (h : SzA P f r w) :
    SzV true r w (fun v k H A K => W.call P (.func (.func f) #[] #[]) #[v, k] H fun v H => W.bin .lss v (.int .i64 0) H fun u H => W.cond u H A (K v)) := by
  intro H bs cs x left A K h1 hk hs hK hA
  refine Wi.call (h _ _ _ _ _ _ h1 hk hs (fun hw H' l => Wi.lss ?_) fun hw H' l => Wi.lss ?_)
  · rw [show decide (left - (w x : Int) < 0) = false by simp; omega]
    exact Wi.fls (hK hw H' l)
  · exact Wi.tru (hA hw H' l)

def szLenW (Q : Post) (a left : Value) (H : Heap) : Prop :=
  W.len a H fun v1 H => W.bin .sub left v1 H fun v2 H => W.bin .lss v2 (.int .i64 0) H fun v3 H => W.cond v3 H (fun H => Q (.int .i64 (-1)) H) (fun H => Q v2 H)

theorem SzC.len {α : Type} {P : Program} {f : FuncId} {r : Rd α} (enter : ∀ (Q : Post) (a k : Value) (H : Heap), szLenW Q a k H → Runs P f #[a, k] H Q) : SzC P f (Rd.slice r) List.length := by
  intro H bs v x left Q h h0 hs hK hA
  have hx := Rd.slice_small h
  obtain ⟨p1, e1, g1⟩ := Rd.slice_val h
  simp only [List.cons.injEq, and_true] at g1
  refine enter _ _ _ _ ?_
  unfold szLenW
  rw [g1]
  refine Wi.len (Wi.sub (by unfold I64; omega) (Wi.lss (Wi.cond (fun hlt => ?_) fun hge => ?_)))
  · exact hA (by simp at hlt; omega) H (.refl _)
  · exact hK (by simp at hge; omega) H (.refl _)

def szSliceW (n1 n2 : Nat) (M : Hld) (Q : Post) (a left : Value) (H : Heap) : Prop :=
  W.len a H fun v1 H => W.bin .sub left v1 H fun v2 H => W.bin .lss v2 (.int .i64 0) H fun v3 H => W.cond v3 H (fun H => Q (.int .i64 (-1)) H)
    (fun H => W.loop (S := St [n1, n2]) (fun I s H => W.len a H fun v4 H => W.bin .lss s.2.1 v4 H fun v5 H => W.cond v5 H
      (fun H => W.indexAddr 1 a s.2.1 H fun v6 H => W.get v6 H fun v7 H => M v7 s.1 H (fun H => Q (.int .i64 (-1)) H) (fun v8 H => W.bin .add s.2.1 (.int .i64 1) H fun v10 H => I (v8, v10, ()) H))
      (fun H => Q s.1 H)) (v2, .int .i64 0, ()) H)

def wl {α : Type} (w : α → Nat) (xs : List α) : Nat := xs.length + szl w xs

theorem SzC.slice {α : Type} {P : Program} {f : FuncId} {r : Rd α} (hr : r.n = 1) {w : α → Nat} {M : Hld} (hM : SzV false r w M) {n1 n2 : Nat}
    (enter : ∀ (Q : Post) (a k : Value) (H : Heap), szSliceW n1 n2 M Q a k H → Runs P f #[a, k] H Q) : SzC P f (Rd.slice r) (wl w) := by
  intro H bs v xs left Q h h0 hs hK hA
  have hx := Rd.slice_small h
  obtain ⟨p1, e1, g1⟩ := Rd.slice_val h
  simp only [List.cons.injEq, and_true] at g1
  refine enter _ _ _ _ ?_
  unfold szSliceW
  rw [g1]
  refine Wi.len (Wi.sub (by unfold I64; omega) (Wi.lss (Wi.cond (fun hlt => ?_) fun hge => ?_)))
  · exact hA (by simp [wl] at hlt ⊢; omega) H (.refl _)
  rw [← g1]
  refine W.loop_rule (fun s H' => ∃ zs ws, xs = zs ++ ws ∧ s = (.int .i64 (left - xs.length - szl w zs), .int .i64 zs.length, ()) ∧ 0 ≤ left - xs.length - szl w zs ∧ H.Le H')
    (fun s _ => match s.2.1 with | .int _ i => xs.length - i.toNat | _ => 0) ⟨[], xs, rfl, by simp [szl]; rfl, by simp [szl] at hge ⊢; omega, .refl _⟩ ?_
  rintro s H1 ⟨zs, ws, hxs, rfl, hpos, m⟩
  have hH := Rd.le _ h m
  rw [g1]
  simp only
  refine Wi.len (Wi.lss (Wi.cond (fun hlt => ?_) fun hge => ?_))
  · have hz : zs.length < xs.length := by
      simp only [decide_eq_true_eq] at hlt; omega
    cases ws with
    | nil => rw [hxs] at hz; simp at hz
    | cons x ws =>
      obtain ⟨b, o, e, kb, fs, q1, q2, s⟩ := Rd.slice_at hH hz
      obtain ⟨u, m1, r1⟩ := s.one hr hz
      rw [← g1, q1]
      have hget : xs[zs.length] = x := by simp [hxs]
      rw [hget] at r1
      have hszs : szl w xs = szl w zs + (w x + szl w ws) := by rw [hxs, szl_append]; rfl
      refine Wi.index hz (Wi.get s.blk m1 (hM _ _ _ _ _ _ _ r1 hpos (by omega) (fun hw H2 l2 => ?_) fun hw H2 l2 => ?_))
      · refine Wi.add (by unfold I64; omega) ⟨⟨zs ++ [x], ws, by rw [hxs]; simp, ?_, ?_, m.trans l2⟩, ?_⟩
        · simp only [szl_append, szl, List.length_append, List.length_singleton]
          congr 2
          omega
        · simp only [szl_append, szl]
          omega
        · simp only
          simp
          omega
      · exact hA (by simp only [wl]; omega) H2 (m.trans l2)
  · have hz : zs.length = xs.length := by
      have : zs.length ≤ xs.length := by rw [hxs]; simp
      simp only [decide_eq_false_iff_not] at hge
      omega
    have : ws = [] := by
      rw [hxs] at hz
      simp at hz
      exact hz
    subst this
    rw [List.append_nil] at hxs
    subst hxs
    have := hK (by simp only [wl]; omega) H1 m
    rw [show left - (wl w xs : Int) = left - xs.length - szl w xs by simp only [wl]; omega] at this
    exact this

/-! ### Structs weighed -/

inductive SfOK : Nat → {α : Type} → Rd α → (α → Nat) → List HFld → Prop
  | none {α : Type} {o : Nat} {r : Rd α} : SfOK o r sz0 []
  | one {α : Type} {o : Nat} {r : Rd α} {w : α → Nat} {agg : Bool} {M : Hld} {n : Nat} (hn : r.n = n) (ha : agg = false → n = 1) (h : SzV agg r w M) : SfOK o r w [⟨o, n, agg, M⟩]
  | pair {α β : Type} {o o' : Nat} {r : Rd α} {s : Rd β} {w : α → Nat} {w' : β → Nat} {fs gs : List HFld}
      (h1 : SfOK o r w fs) (ho : o + r.n = o') (h2 : SfOK o' s w' gs) : SfOK o (r.pair s) (szp w w') (fs ++ gs)

theorem szFields_ok {o : Nat} {α : Type} {r : Rd α} {w : α → Nat} {fs : List HFld} (h : SfOK o r w fs) : ∀ {H : Heap} {b : Nat} {kb : Blk} {bs : List Nat} {x : α} {k : Int} {A : Heap → Prop} {T : Post},
    H.blk b = some kb → b < H.next → o + r.n ≤ kb.cells.length → r.rel H bs ((kb.cells.drop o).take r.n) x → 0 ≤ k → k < 4611686018427387904 →
    (w x ≤ k → ∀ H', H.Le H' → T (.int .i64 (k - w x)) H') → (k < w x → ∀ H', H.Le H' → A H') → heldFields A T (pt b 0) fs (.int .i64 k) H := by
  induction h with
  | none =>
    intro H b kb bs x k A T g1 g2 g4 g5 g8 g9 hT hA
    have := hT (by simp [sz0]; exact g8) H (.refl _)
    simpa [sz0, heldFields] using this
  | one hn ha h =>
    subst hn
    intro H b kb bs x k A T g1 g2 g4 g5 g8 g9 hT hA
    exact Wi.fieldAddr0 (getW_ok ha g1 g4 (h _ _ _ _ _ _ _ g5 g8 g9 hT hA))
  | pair h1 ho h2 ih1 ih2 =>
    subst ho
    rename_i r s w w' fs gs
    intro H b kb bs x k A T g1 g2 g4 g5 g8 g9 hT hA
    simp only [Rd.pair] at g4
    obtain ⟨p1, p2, hp, q1, q2⟩ := Rd.pair_split g5
    rw [heldFields_append]
    refine ih1 g1 g2 (by omega) q1 g8 g9 (fun hw H1 l1 => ?_) fun hw H1 l1 => hA (by simp only [szp]; omega) H1 l1
    refine ih2 (l1.at g1 g2) (Nat.lt_of_lt_of_le g2 l1.next) (by omega) (Rd.le _ q2 l1) (by omega) (by omega) (fun hw2 H2 l2 => ?_) fun hw2 H2 l2 => hA (by simp only [szp]; omega) H2 (l1.trans l2)
    have := hT (by simp only [szp]; omega) H2 (l1.trans l2)
    rw [show k - (szp w w' x : Int) = k - w x.1 - w' x.2 by simp only [szp]; omega] at this
    exact this

theorem SzA.struct {α : Type} {P : Program} {f : FuncId} {r : Rd α} {w : α → Nat} {ty : TypeId} {fs : List HFld} (h : SfOK 0 r w fs)
    (enter : ∀ (Q : Post) (a k : Value) (H : Heap), heldStructW ty fs Q a k H → Runs P f #[a, k] H Q) : SzA P f r w := by
  intro H bs cs x k Q h1 hk hs hQ hA
  refine enter _ _ _ _ (Wi.box fun H1 l1 n1 k1 => ?_)
  have e1 : cs.take r.n = cs := List.take_of_length_le (by rw [r.len h1]; exact Nat.le_refl _)
  exact szFields_ok h k1 (by omega) (by simp [r.len h1]) (by simpa [e1] using Rd.le _ h1 l1) hk hs (fun hw H2 l2 => hQ hw H2 (l1.trans l2)) fun hw H2 l2 => hA hw H2 (l1.trans l2)

end Go.Ab
