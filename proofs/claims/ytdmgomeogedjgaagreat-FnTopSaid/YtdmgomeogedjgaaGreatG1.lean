/- The contract of mapped. No condition. -/
import Derived.Test.YtdmgomeogedjgaaGreatGDD
namespace Go.Proofs.YtdmgomeogedjgaaGreat
open Go.Ab

/- loop.example/g01343/impl.mapped -/
def f117.l2 (Q : Post) (v6 : Value) (to_1 : Value) (x_13 : Value) (v5 : Value) (I1 : St [13] → Heap → Prop) (I2 : St [20] → Heap → Prop) (x_20 : Value) (H : Heap) : Prop :=
  W.bin .lss x_20 v6 H fun v7 H =>
  W.cond v7 H
  (fun H => W.call Tryz.prog to_1 #[x_13, x_20] H fun v8 H =>
   W.indexAddr 1 v5 x_20 H fun v9 H =>
   W.put v9 v8 H fun _ H =>
   W.bin .add x_20 (.int .i64 1) H fun v10 H =>
   I2 (v10, ()) H)
  (fun H => W.bin .add x_13 (.int .i64 1) H fun v11 H =>
   I1 (v11, ()) H)
def f117.l1 (Q : Post) (v2 : Value) (v1 : Value) (to_1 : Value) (I1 : St [13] → Heap → Prop) (x_13 : Value) (H : Heap) : Prop :=
  W.bin .lss x_13 v2 H fun v3 H =>
  W.cond v3 H
  (fun H => W.indexAddr 1 v1 x_13 H fun v4 H =>
   W.get v4 H fun v5 H =>
   W.len v5 H fun v6 H =>
   W.loop (S := St [20]) (fun I2 s H => f117.l2 Q v6 to_1 x_13 v5 I1 I2 s.1 H) ((.int .i64 0), ()) H)
  (fun H => Q v1 H)
def f117.w (Q : Post) (m_0 : Value) (to_1 : Value) (H : Heap) : Prop :=
  W.call Tryz.prog (.func (.func 129) #[] #[]) #[m_0] H fun v1 H =>
  W.len v1 H fun v2 H =>
  W.loop (S := St [13]) (fun I1 s H => f117.l1 Q v2 v1 to_1 I1 s.1 H) ((.int .i64 0), ()) H
theorem f117.enter {Q : Post} {m_0 : Value} {to_1 : Value} {H : Heap} (h : f117.w Q m_0 to_1 H) : Runs Tryz.prog 117 #[m_0, to_1] H Q :=
  fn_enter (ann := [(3, [13]), (6, [20])]) (by kernel_rfl) Tryz.func117 rfl (by kernel_rfl) h (by kernel_rfl)


/-- A function value of two places that gives a number. -/
def Fun2F (fv : Value) (H : Heap) (m : List (List Int)) (f : Nat → Nat → Int) : Prop :=
  ∀ (H' : Heap) (i k : Nat) (K : Post) (hi : i < m.length), k < m[i].length → H.Le H' → (∀ H2, H'.Le H2 → I64 (f i k) → K (.int .i64 (f i k)) H2) → W.call Tryz.prog fv #[.int .i64 i, .int .i64 k] H' K

def mapF (f : Nat → Nat → Int) (m : List (List Int)) : List (List Int) := m.mapIdx fun i r => r.mapIdx fun k _ => f i k

theorem fn117 {H0 : Heap} {Q : Post} {v fv : Value} {m : List (List Int)} {f : Nat → Nat → Int} (hr : Has RSS H0 [v] m) (hm : okRows m) (hf : Fun2F fv H0 m f) (hQ : ∀ H' u, Fresh RSS H0 [u] (mapF f m) H' → Q u H') : Runs Tryz.prog 117 #[v, fv] H0 Q := by
  have hml := hm.1
  refine f117.enter (Wi.call (fn129 hr hm fun H u g => ?_))
  have h := (Loc.start H0).add g.fresh
  refine Wl.len h ?_
  obtain ⟨us, hus, h⟩ := h.heads (i := 0) rfl rfl
  refine W.for_rule m.length (fun i s H => s = (.int .i64 (i : Nat), ()) ∧ Ab.Loc H0 [.rows RS u us (mapTo (fun i r => r.mapIdx fun k _ => f i k) m i)] H) ⟨rfl, by rw [mapTo_zero]; exact h⟩ ?_
  rintro i s H J hi ⟨rfl, h⟩ hJ
  refine Wi.lssC (fun hlt => Wi.tru ?_) fun hge => Wi.fls ?_
  · have hix : i < m.length := by omega
    have hl := mapTo_length (fun i r => r.mapIdx fun k _ => f i k) m i
    have hget := mapTo_get (f := fun i r => r.mapIdx fun k _ => f i k) hix
    refine Wl.atRow rfl h (by omega) fun w hw hw2 => ?_
    rw [hget] at hw2
    have hrl := hm.2 _ (List.getElem_mem hix)
    refine Wl.lenH hw2 (W.for_rule m[i].length (fun k s H => s = (.int .i64 (k : Nat), ()) ∧ Ab.Loc H0 [.rows RS u us ((mapTo (fun i r => r.mapIdx fun k _ => f i k) m i).set i (mapTo (fun k _ => f i k) m[i] k))] H) ⟨rfl, ?_⟩ ?_)
    · rw [mapTo_zero, ← hget, List.set_getElem_self]
      exact h
    rintro k s H J2 hk ⟨rfl, h⟩ hJ2
    refine Wi.lssC (fun hlt2 => Wi.tru ?_) fun hge2 => Wi.fls ?_
    · have hkx : k < m[i].length := by omega
      have ha : i < ((mapTo (fun i r => r.mapIdx fun k _ => f i k) m i).set i (mapTo (fun k _ => f i k) m[i] k)).length := by rw [List.length_set]; omega
      have hg2 : ((mapTo (fun i r => r.mapIdx fun k _ => f i k) m i).set i (mapTo (fun k _ => f i k) m[i] k))[i] = mapTo (fun k _ => f i k) m[i] k := by simp
      refine hf H i k _ hix hkx h.le fun H2 l2 hb => ?_
      have h := h.to l2
      refine Wl.rowSet h (j := 0) rfl hw ha (by rw [hg2, mapTo_length]; exact hkx) hb fun H h => Wi.add (by unfold I64; omega) (hJ2 _ _ hkx ⟨rfl, ?_⟩)
      rw [hg2, List.set_set, mapTo_succ (f := fun k _ => f i k) hkx] at h
      exact h
    · have : k = m[i].length := by omega
      subst this
      refine Wi.add (by unfold I64; omega) (hJ _ _ hix ⟨rfl, ?_⟩)
      rw [mapTo_all, mapTo_succ (f := fun i r => r.mapIdx fun k _ => f i k) hix] at h
      exact h
  · have : i = m.length := by omega
    subst this
    rw [mapTo_all] at h
    exact hQ _ _ ((h.unrows (i := 0) rfl).ret (i := 0) rfl)

end Go.Proofs.YtdmgomeogedjgaaGreat
