/- The laws' helpers for lists of fractions: marking and telling marks. No condition. -/
import Derived.Test.YtbcfknboheghkaaF1
namespace Go.Proofs.Ytbcfknboheghkaa
open Go.Ab

/- loop.example/g01343/laws.markFracS -/
def f11.l1 (Q : Post) (a_0 : Value) (I1 : St [1, 5] → Heap → Prop) (k_1' : Value) (i_5 : Value) (H : Heap) : Prop :=
  W.len a_0 H fun v1 H =>
  W.bin .lss i_5 v1 H fun v2 H =>
  W.cond v2 H
  (fun H => W.indexAddr 2 a_0 i_5 H fun v3 H =>
   W.fieldAddr 0 v3 H fun v4 H =>
   W.put v4 k_1' H fun _ H =>
   W.bin .add k_1' (.int .i64 1) H fun v5 H =>
   W.indexAddr 2 a_0 i_5 H fun v6 H =>
   W.fieldAddr 1 v6 H fun v7 H =>
   W.put v7 v5 H fun _ H =>
   W.bin .add v5 (.int .i64 1) H fun v8 H =>
   W.bin .add i_5 (.int .i64 1) H fun v9 H =>
   I1 (v8, v9, ()) H)
  (fun H => Q k_1' H)
def f11.w (Q : Post) (a_0 : Value) (k_1 : Value) (H : Heap) : Prop :=
  W.loop (S := St [1, 5]) (fun I1 s H => f11.l1 Q a_0 I1 s.1 s.2.1 H) (k_1, (.int .i64 0), ()) H
theorem f11.enter {Q : Post} {a_0 : Value} {k_1 : Value} {H : Heap} (h : f11.w Q a_0 k_1 H) : Runs Try.prog 11 #[a_0, k_1] H Q :=
  fn_enter (ann := [(2, [1, 5])]) (by kernel_rfl) Try.func11 rfl (by kernel_rfl) h (by kernel_rfl)

/- loop.example/g01343/laws.heldFracS -/
def f12.l1 (Q : Post) (a_0 : Value) (I1 : St [1, 5] → Heap → Prop) (k_1' : Value) (i_5 : Value) (H : Heap) : Prop :=
  W.len a_0 H fun v1 H =>
  W.bin .lss i_5 v1 H fun v2 H =>
  W.cond v2 H
  (fun H => W.indexAddr 2 a_0 i_5 H fun v3 H =>
   W.fieldAddr 0 v3 H fun v4 H =>
   W.get v4 H fun v5 H =>
   W.bin .neq v5 k_1' H fun v6 H =>
   W.cond v6 H
   (fun H => Q (.int .i64 (-1)) H)
   (fun H => W.bin .add k_1' (.int .i64 1) H fun v7 H =>
    W.indexAddr 2 a_0 i_5 H fun v8 H =>
    W.fieldAddr 1 v8 H fun v9 H =>
    W.get v9 H fun v10 H =>
    W.bin .neq v10 v7 H fun v11 H =>
    W.cond v11 H
    (fun H => Q (.int .i64 (-1)) H)
    (fun H => W.bin .add v7 (.int .i64 1) H fun v12 H =>
     W.bin .add i_5 (.int .i64 1) H fun v13 H =>
     I1 (v12, v13, ()) H)))
  (fun H => Q k_1' H)
def f12.w (Q : Post) (a_0 : Value) (k_1 : Value) (H : Heap) : Prop :=
  W.loop (S := St [1, 5]) (fun I1 s H => f12.l1 Q a_0 I1 s.1 s.2.1 H) (k_1, (.int .i64 0), ()) H
theorem f12.enter {Q : Post} {a_0 : Value} {k_1 : Value} {H : Heap} (h : f12.w Q a_0 k_1 H) : Runs Try.prog 12 #[a_0, k_1] H Q :=
  fn_enter (ann := [(2, [1, 5])]) (by kernel_rfl) Try.func12 rfl (by kernel_rfl) h (by kernel_rfl)


theorem mark11 : MarkC Try.prog 11 RFS mkFS szFS := by
  intro H bs v x k Q h hnd hrw hk hs hQ
  rw [szFS_len] at hs hQ
  have hsm := (show Has RFS H [v] x from ⟨_, h⟩).small
  refine f11.enter ?_
  refine W.for_rule x.length (fun i s H' => s = (.int .i64 (k + 2 * (i : Nat)), .int .i64 (i : Nat), ()) ∧ Marked RFS H bs [v] (mkFS (x.take i) k ++ x.drop i) H') ⟨by simp; rfl, by simpa [mkl] using Marked.refl h hrw⟩ ?_
  rintro i s H1 J hi ⟨rfl, m⟩ hJ
  have hlen : (mkFS (x.take i) k ++ x.drop i).length = x.length := by rw [List.length_append, mkl_length]; simp; omega
  refine Wl.lenH ⟨_, m.rel⟩ (Wi.lssC (fun hlt => Wi.tru ?_) fun hge => Wi.fls ?_)
  · have hix : i < x.length := by omega
    refine Wi.setNum m.rel m.rw (by omega) (by unfold I64; omega) fun H2 m2 => Wi.add (by unfold I64; omega) (Wi.setDen m2.rel m2.rw (by rw [List.length_set]; omega) (by unfold I64; omega) fun H3 m3 => Wi.add (by unfold I64; omega) (Wi.add (by unfold I64; omega) (hJ _ _ hix ⟨by rw [show k + 2 * ((i : Nat) : Int) + 1 + 1 = k + 2 * ((i + 1 : Nat) : Int) by omega]; rfl, ?_⟩)))
    have := m.trans (m2.trans m3)
    rw [List.getElem_set_self, List.set_set, mkFS_step hix] at this
    exact this
  · have : i = x.length := by omega
    subst this
    rw [List.take_length, List.drop_length, List.append_nil] at m
    have := hQ _ m
    simpa using this

theorem held12 : HeldC Try.prog 12 RFS mkFS szFS := by
  intro H bs v x k Q h hk hs hQ
  rw [szFS_len] at hs hQ
  have hsm := (show Has RFS H [v] (mkFS x k) from ⟨_, h⟩).small
  have hlen : (mkFS x k).length = x.length := mkl_length x k
  refine f12.enter ?_
  refine W.for_rule x.length (fun i s H' => s = (.int .i64 (k + 2 * (i : Nat)), .int .i64 (i : Nat), ()) ∧ H.Le H') ⟨by simp; rfl, .refl _⟩ ?_
  rintro i s H1 J hi ⟨rfl, l⟩ hJ
  have hr : Has RFS H1 [v] (mkFS x k) := Has.le ⟨_, h⟩ l
  refine Wl.lenH hr (Wi.lssC (fun hlt => Wi.tru ?_) fun hge => Wi.fls ?_)
  · have hix : i < x.length := by omega
    have e := mkFS_at x k hix
    refine Wl.numFrH hr (by omega) fun _ => ?_
    rw [e]
    refine Wi.neqC (fun g => absurd rfl g) fun _ => Wi.fls (Wi.add (by unfold I64; omega) (Wl.denFrH hr (by omega) fun _ => ?_))
    rw [e]
    exact Wi.neqC (fun g => absurd rfl g) fun _ => Wi.fls (Wi.add (by unfold I64; omega) (Wi.add (by unfold I64; omega) (hJ _ _ hix ⟨by rw [show k + 2 * ((i : Nat) : Int) + 1 + 1 = k + 2 * ((i + 1 : Nat) : Int) by omega]; rfl, l⟩)))
  · have : i = x.length := by omega
    subst this
    exact hQ _ l

end Go.Proofs.Ytbcfknboheghkaa
