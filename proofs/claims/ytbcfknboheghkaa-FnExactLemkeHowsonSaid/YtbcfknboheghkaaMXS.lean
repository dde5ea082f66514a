/- Contracts of total and mixes, the program's. No condition. -/
import Derived.Test.YtbcfknboheghkaaMIX
import Derived.Test.YtbcfknboheghkaaCF
import Derived.Test.YtbcfknboheghkaaGM1
import Derived.Test.YtbcfknboheghkaaZabG8
namespace Go.Proofs.Ytbcfknboheghkaa
open Go.Ab

/- loop.example/g01343/impl.total -/
def f48.l1 (Q : Post) (v1 : Value) (list_0 : Value) (I1 : St [3, 8] → Heap → Prop) (n_3 : Value) (x_8 : Value) (H : Heap) : Prop :=
  W.bin .lss x_8 v1 H fun v2 H =>
  W.cond v2 H
  (fun H => W.indexAddr 1 list_0 x_8 H fun v3 H =>
   W.get v3 H fun v4 H =>
   W.bin .add n_3 v4 H fun v5 H =>
   W.bin .add x_8 (.int .i64 1) H fun v6 H =>
   I1 (v5, v6, ()) H)
  (fun H => Q n_3 H)
def f48.w (Q : Post) (list_0 : Value) (H : Heap) : Prop :=
  W.len list_0 H fun v1 H =>
  W.loop (S := St [3, 8]) (fun I1 s H => f48.l1 Q v1 list_0 I1 s.1 s.2.1 H) ((.int .i64 0), (.int .i64 0), ()) H
theorem f48.enter {Q : Post} {list_0 : Value} {H : Heap} (h : f48.w Q list_0 H) : Runs Try.prog 48 #[list_0] H Q :=
  fn_enter (ann := [(3, [3, 8])]) (by kernel_rfl) Try.func48 rfl (by kernel_rfl) h (by kernel_rfl)

/- (loop.example/g01343/impl.Game).mixes -/
def f30.w (Q : Post) (g_0 : Value) (z_1 : Value) (H : Heap) : Prop :=
  W.box g_0 29 H fun v1 H =>
  W.getN 2 v1 H fun v2 H =>
  W.call Try.prog (.func (.func 24) #[] #[]) #[v2] H fun v3 H =>
  W.extract 0 v3 H fun v4 H =>
  W.extract 1 v3 H fun v5 H =>
  W.slice 1 z_1 none (some v4) H fun v6 H =>
  W.slice 1 z_1 none (some v4) H fun v7 H =>
  W.callQ Try.prog (.func (.func 48) #[] #[]) #[v7] H fun v8 H =>
  W.callQ Try.prog (.func (.func 47) #[] #[]) #[v6, v8] H fun v9 H =>
  W.extract 0 v9 H fun v10 H =>
  W.extract 1 v9 H fun v11 H =>
  W.bin .neq v11 (.int .i64 0) H fun v12 H =>
  W.cond v12 H
  (fun H => Q (.tuple #[(.slice none 0 0), v11]) H)
  (fun H => W.slice 1 z_1 (some v4) none H fun v13 H =>
   W.slice 1 z_1 (some v4) none H fun v14 H =>
   W.callQ Try.prog (.func (.func 48) #[] #[]) #[v14] H fun v15 H =>
   W.callQ Try.prog (.func (.func 47) #[] #[]) #[v13, v15] H fun v16 H =>
   W.extract 0 v16 H fun v17 H =>
   W.extract 1 v16 H fun v18 H =>
   W.bin .neq v18 (.int .i64 0) H fun v19 H =>
   W.cond v19 H
   (fun H => Q (.tuple #[(.slice none 0 0), v18]) H)
   (fun H => W.lit 2 [(.slice none 0 0)] 26 [(0, 1, v10), (1, 1, v17)] H fun v20 H =>
    W.call Try.prog (.func (.func 49) #[] #[]) #[v20] H fun v21 H =>
    Q (.tuple #[v21, (.int .i64 0)]) H))
theorem f30.enter {Q : Post} {g_0 : Value} {z_1 : Value} {H : Heap} (h : f30.w Q g_0 z_1 H) : Runs Try.prog 30 #[g_0, z_1] H Q :=
  fn_enter (ann := []) (by kernel_rfl) Try.func30 rfl (by kernel_rfl) h (by kernel_rfl)


theorem sum_take {l : List Int} {B : Nat} (h : ∀ x ∈ l, x.natAbs ≤ B) (i : Nat) : (l.take i).sum.natAbs ≤ l.length * B := by
  have h1 := sum_abs (l := l.take i) fun x hx => h x (List.mem_of_mem_take hx)
  exact Nat.le_trans h1 (Nat.mul_le_mul_right _ (by simp; omega))

theorem fn48 {H0 : Heap} {Q : Post} {v : Value} {l : List Int} {B : Nat} (hr : Has RS H0 [v] l) (hB : ∀ x ∈ l, x.natAbs ≤ B) (hs : l.length * B < 9223372036854775808) (hQ : Q (.int .i64 l.sum) H0) : Runs Try.prog 48 #[v] H0 Q := by
  have hsm := hr.small
  refine f48.enter (Wl.lenH hr (W.for_rule l.length (fun i s H => H = H0 ∧ s = (.int .i64 (l.take i).sum, .int .i64 (i : Nat), ())) ⟨rfl, by simp; rfl⟩ ?_))
  rintro i s H J hi ⟨rfl, rfl⟩ hJ
  refine Wi.lssC (fun hlt => Wi.tru ?_) fun hge => Wi.fls ?_
  · have hix : i < l.length := by omega
    have h1 := sum_take hB (i + 1)
    rw [sum_step hix] at h1
    exact Wl.atIntH hr hix fun _ => Wi.add (by unfold I64; omega) (Wi.add (by unfold I64; omega) (hJ _ _ hix ⟨rfl, by rw [sum_step hix]; rfl⟩))
  · have : i = l.length := by omega
    subst this
    rw [List.take_length]
    exact hQ

theorem sum5 {l : List Int} (hl : l.length ≤ 5) (h : ∀ x ∈ l, x.natAbs ≤ 1920000000) : l.sum.natAbs ≤ 9600000000 := by
  have h1 := sum_abs h
  have := Nat.mul_le_mul_right 1920000000 hl
  omega

theorem fnC30 {H0 : Heap} {Q : Post} {cs : List Value} {vz : Value} {g : Game} {z : List Int} (hr : Has RGame H0 cs g) (hg : IsGm g) (hz : Has RS H0 [vz] z) (hcut : ∀ (H : Heap) (K : Post), H0.Le H → (∀ w, Has RS H [w] (z.drop g.1.length) → K w H) → W.slice 1 vz (some (.int .i64 g.1.length)) none H K) (hzl : z.length = nG g) (hza : ∀ x ∈ z, x.natAbs ≤ 1920000000)
    (h1 : (z.take g.1.length).sum ≠ 0) (h2 : (z.drop g.1.length).sum ≠ 0) (hQ : ∀ H' u, Fresh RFS H0 [u] (mixV g.1.length z).1 H' → Q (.tuple #[u, .int .i64 (mixV g.1.length z).2]) H') : Runs Try.prog 30 #[.agg cs.toArray, vz] H0 Q := by
  obtain ⟨u1, u2, rfl, r1, r2⟩ := hasGame hr
  have k1 := hg.k1; have kl := hg.kl
  have hk0 : 0 < g.1.length := by omega
  have hlw := lw_at hk0
  have hnn : nG g = g.1.length + lw g := rfl
  have hbad : ∀ H c, H0.Le H → c = 3 → ¬ ((frAll (z.take g.1.length) (z.take g.1.length).sum).2 = 0 ∧ (frAll (z.drop g.1.length) (z.drop g.1.length).sum).2 = 0) → Q (.tuple #[.slice none 0 0, .int .i64 c]) H := fun H c l e hn => by
    subst e
    have e : mixV g.1.length z = ([], 3) := by unfold mixV; rw [if_neg hn]
    have := hQ H (.slice none 0 0) (by rw [e]; exact fresh_nil l)
    rw [e] at this
    exact this
  have ta : ∀ x ∈ z.take g.1.length, x.natAbs ≤ 1920000000 := fun x hx => hza x (List.mem_of_mem_take hx)
  have da : ∀ x ∈ z.drop g.1.length, x.natAbs ≤ 1920000000 := fun x hx => hza x (List.mem_of_mem_drop hx)
  have tl : (z.take g.1.length).length ≤ 5 := by simp; omega
  have dl : (z.drop g.1.length).length ≤ 5 := by simp; omega
  have ts := sum5 tl ta
  have ds := sum5 dl da
  have h := (((Loc.start H0).lent r1).lent r2).lent hz
  refine f30.enter ?_
  unfold f30.w
  refine Wl.box h fun H b h => Wl.getA h rfl (Wi.call (f24.enter (Wl.box h fun H b3 h => Wi.fieldAddr0 (Wl.get h rfl (Wl.len h (Wi.fieldAddr0 (Wl.get h rfl (Wl.at1 (i := 0) rfl h hk0 fun w hw => Wl.lenH hw ?_))))))))
  have h := h.tl
  simp only [gw]
  refine Wl.cutLoH (h.rd (cs := [vz])) (by omega) fun va ha => Wl.cutLoH (h.rd (cs := [vz])) (by omega) fun vb hb => Wi.callQ (fn48 (B := 1920000000) hb ta (by omega) ⟨.refl _, ?_⟩)
  refine Wi.callQ (fn47 (d := (z.take g.1.length).sum) ha (fun x hx => by have := ta x hx; unfold B64; omega) (by unfold B64; omega) h1 (by omega) fun H x f => ⟨f.le, ?_⟩)
  have h := h.add f
  simp only [gw]
  refine Wi.neqC (fun hne => Wi.tru (hbad _ _ h.le ((frAll_code _ _).resolve_left hne) fun q => hne q.1)) fun he => Wi.fls ?_
  refine hcut _ _ h.le fun va ha => hcut _ _ h.le fun vb hb => Wi.callQ (fn48 (B := 1920000000) hb da (by omega) ⟨.refl _, ?_⟩)
  refine Wi.callQ (fn47 (d := (z.drop g.1.length).sum) ha (fun x hx => by have := da x hx; unfold B64; omega) (by unfold B64; omega) h2 (by omega) fun H y f => ⟨f.le, ?_⟩)
  have h := h.add f
  simp only [gw]
  refine Wi.neqC (fun hne => Wi.tru (hbad _ _ h.le ((frAll_code _ _).resolve_left hne) fun q => hne q.2)) fun he2 => Wi.fls ?_
  have hmix : mixV g.1.length z = ((frAll (z.take g.1.length) (z.take g.1.length).sum).1 ++ (frAll (z.drop g.1.length) (z.drop g.1.length).sum).1, 0) := by unfold mixV; rw [if_pos ⟨he, he2⟩]
  have l1 := frAll_len (z.take g.1.length) (z.take g.1.length).sum
  have l2 := frAll_len (z.drop g.1.length) (z.drop g.1.length).sum
  generalize (frAll (z.take g.1.length) (z.take g.1.length).sum).1 = xs at *
  generalize (frAll (z.drop g.1.length) (z.drop g.1.length).sum).1 = ys at *
  obtain ⟨bsx, qx⟩ := h.rd (cs := [x])
  obtain ⟨bsy, qy⟩ := h.rd (cs := [y])
  have ex := Has.one ⟨_, qx⟩
  have ey := Has.one ⟨_, qy⟩
  refine Wi.lit (cells := [x, y]) (by simp [fillA, ex, ey, reps]) fun H1 le1 n1' kk1 => ?_
  have h := h.to le1
  have hv : Has (Rd.slice RFS) H1 [.slice (some (adr _ 0)) 2 (2 * 2)] [xs, ys] := ⟨_, .inr ⟨_, 0, _, _, fun i => if i = 0 then bsx else bsy, rfl, rfl, ⟨by omega, kk1, by simp, by simp, by simp [Rd.slice], fun i hi => by
    match i, hi with
    | 0, _ => exact Rd.le _ qx le1
    | 1, _ => exact Rd.le _ qy le1⟩⟩⟩
  refine Wi.call (concat49 _ _ [xs, ys] _ hv (by simp; omega) fun H w3 j => ?_)
  have eF : ([xs, ys] : List (List Frac)).flatten = xs ++ ys := by simp
  rw [eF] at j
  have h := h.add j.plain.fresh
  have := hQ H w3 (by rw [hmix]; exact h.ret (i := 0) rfl)
  rw [hmix] at this
  exact this

end Go.Proofs.Ytbcfknboheghkaa
