/- Contracts of l01Own and slices.Clone. No condition. -/
import Derived.Test.YtdmgomeogedjgaaGreatGAB
import Derived.Test.YtdmgomeogedjgaaGreatZabG5
namespace Go.Proofs.YtdmgomeogedjgaaGreat
open Go.Ab

/- slices.Clone[[]int64,int64] -/
def f96.w (Q : Post) (s_0 : Value) (H : Heap) : Prop :=
  W.eqNilR .eql s_0 (.slice none 0 0) H fun v1 H =>
  W.cond v1 H
  (fun H => Q (.slice none 0 0) H)
  (fun H => W.lit 0 [(.int .i64 0)] 2 [] H fun v2 H =>
   W.append 1 2 v2 s_0 H fun v3 H =>
   Q v3 H)
theorem f96.enter {Q : Post} {s_0 : Value} {H : Heap} (h : f96.w Q s_0 H) : Runs Tryz.prog 96 #[s_0] H Q :=
  fn_enter (ann := []) (by kernel_rfl) Tryz.func96 rfl (by kernel_rfl) h (by kernel_rfl)


theorem fn96 {H0 : Heap} {Q : Post} {v : Value} {xs : List Int} (hr : Has RS H0 [v] xs) (hlen : xs.length ≤ 16777216) (hQ : ∀ H' u, FreshG Rd.int 2 H0 u xs H' → Q u H') : Runs Tryz.prog 96 #[v] H0 Q := by
  refine f96.enter (Wl.isNilH hr (fun e => Wi.tru ?_) (Wi.fls ?_))
  · subst e
    exact hQ _ _ ((((Loc.start H0).nilG Rd.int 2)).retGG (i := 0) rfl)
  · exact Wl.lit0 Rd.int rfl ((Loc.start H0).lent hr) fun H u h => Wl.appendH (i := 0) rfl h rfl h.rd (by simpa using hlen) fun H' v' h => hQ _ _ (h.retGG (i := 0) rfl)

end Go.Proofs.YtdmgomeogedjgaaGreat
/-! The contract of l01Own. No condition. -/
namespace Go.Proofs.YtdmgomeogedjgaaGreat
open Go.Ab

/- loop.example/g01343/spec.l01Own -/
def f126.w (Q : Post) (list_0 : Value) (H : Heap) : Prop :=
  W.lit 0 [(.int .i64 0)] 2 [] H fun v1 H =>
  W.append 1 2 v1 list_0 H fun v2 H =>
  Q v2 H
theorem f126.enter {Q : Post} {list_0 : Value} {H : Heap} (h : f126.w Q list_0 H) : Runs Tryz.prog 126 #[list_0] H Q :=
  fn_enter (ann := []) (by kernel_rfl) Tryz.func126 rfl (by kernel_rfl) h (by kernel_rfl)


theorem fn126 {H0 : Heap} {Q : Post} {v : Value} {xs : List Int} (hr : Has RS H0 [v] xs) (hlen : xs.length ≤ 16777216) (hQ : ∀ H' u, FreshG Rd.int 2 H0 u xs H' → Q u H') : Runs Tryz.prog 126 #[v] H0 Q :=
  f126.enter (Wl.lit0 Rd.int rfl ((Loc.start H0).lent hr) fun H u h => Wl.appendH (i := 0) rfl h rfl h.rd (by simpa using hlen) fun H' v' h => hQ _ _ (h.retGG (i := 0) rfl))

end Go.Proofs.YtdmgomeogedjgaaGreat

/-! The contract of copyRows. No condition. -/
namespace Go.Proofs.YtdmgomeogedjgaaGreat
open Go.Ab

/- loop.example/g01343/impl.copyRows -/
def f129.l1 (Q : Post) (v1 : Value) (rows_0 : Value) (I1 : St [3, 8] → Heap → Prop) (out_3 : Value) (x_8 : Value) (H : Heap) : Prop :=
  W.bin .lss x_8 v1 H fun v2 H =>
  W.cond v2 H
  (fun H => W.indexAddr 1 rows_0 x_8 H fun v3 H =>
   W.get v3 H fun v4 H =>
   W.call Tryz.prog (.func (.func 96) #[] #[]) #[v4] H fun v5 H =>
   W.lit 1 [(.slice none 0 0)] 29 [(0, 1, v5)] H fun v6 H =>
   W.append 1 29 out_3 v6 H fun v7 H =>
   W.bin .add x_8 (.int .i64 1) H fun v8 H =>
   I1 (v7, v8, ()) H)
  (fun H => Q out_3 H)
def f129.w (Q : Post) (rows_0 : Value) (H : Heap) : Prop :=
  W.len rows_0 H fun v1 H =>
  W.loop (S := St [3, 8]) (fun I1 s H => f129.l1 Q v1 rows_0 I1 s.1 s.2.1 H) ((.slice none 0 0), (.int .i64 0), ()) H
theorem f129.enter {Q : Post} {rows_0 : Value} {H : Heap} (h : f129.w Q rows_0 H) : Runs Tryz.prog 129 #[rows_0] H Q :=
  fn_enter (ann := [(3, [3, 8])]) (by kernel_rfl) Tryz.func129 rfl (by kernel_rfl) h (by kernel_rfl)


/-- Rows that may be copied. -/
def okRows (m : List (List Int)) : Prop := m.length ≤ 1048576 ∧ ∀ r ∈ m, r.length ≤ 1048576

theorem fn129 {H0 : Heap} {Q : Post} {v : Value} {m : List (List Int)} (hr : Has RSS H0 [v] m) (hm : okRows m) (hQ : ∀ H' u, FreshG RS 29 H0 u m H' → Q u H') : Runs Tryz.prog 129 #[v] H0 Q := by
  refine f129.enter (Wl.lenH hr ?_)
  refine W.for_rule m.length (fun i s H => ∃ u, s = (u, .int .i64 (i : Nat), ()) ∧ Ab.Loc H0 [.grow RS 29 u (m.take i), .lent RSS [v] m] H) ⟨_, rfl, (((Loc.start H0).lent hr).nilG RS 29)⟩ ?_
  rintro i s H J hi ⟨u, rfl, h⟩ hJ
  have := hm.1
  refine Wi.lssC (fun hlt => Wi.tru ?_) fun hge => Wi.fls ?_
  · have hix : i < m.length := by omega
    refine Wl.at1 rfl h hix fun w hw => Wi.call (fn96 hw (by have := hm.2 _ (List.getElem_mem hix); omega) fun H2 u2 f => ?_)
    refine Wl.pushF rfl h f.fresh f.fresh.read.one (by simp; omega) fun H3 v' h => Wi.add (by unfold I64; omega) (hJ _ _ hix ⟨v', rfl, ?_⟩)
    rw [List.take_succ_eq_append_getElem hix]
    exact h
  · have : i = m.length := by omega
    subst this
    rw [List.take_length] at h
    exact hQ _ _ (h.retGG (i := 0) rfl)

end Go.Proofs.YtdmgomeogedjgaaGreat
