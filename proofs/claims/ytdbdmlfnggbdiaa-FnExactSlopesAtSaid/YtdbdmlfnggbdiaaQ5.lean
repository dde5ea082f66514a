/- The contract of the program's ValueAt. No condition. -/
import Derived.Test.YtdbdmlfnggbdiaaQ2
namespace Go.Proofs.Ytdbdmlfnggbdiaa
open Go.Ab

theorem tog_small {xs : List Frac} (hf : Frs xs) {l : List Int} {d : Int} : tog 10000 10000000 xs = some (l, d) ↔ tog 1000000000 1000000000000 xs = some (l, d) ∧ d ≤ 10000 ∧ ∀ a ∈ l, -10000000 ≤ a ∧ a ≤ 10000000 := by
  unfold tog
  constructor
  · intro h
    split at h
    · rename_i g
      simp only [Option.some.injEq, Prod.mk.injEq] at h
      obtain ⟨rfl, rfl⟩ := h
      refine ⟨?_, ?_, fun a ha => ?_⟩
      · rw [if_pos ⟨fun i hi => by have := g.1 i hi; omega, fun a ha => by have := g.2 a ha; omega⟩]
      · cases hx : xs.length with
        | zero => simp [comTo]
        | succ k => exact g.1 k (by omega)
      · obtain ⟨b, hb, rfl⟩ := List.mem_map.1 ha
        exact g.2 b hb
    · cases h
  · rintro ⟨h, hd, hl⟩
    split at h
    · rename_i g
      simp only [Option.some.injEq, Prod.mk.injEq] at h
      obtain ⟨rfl, rfl⟩ := h
      have g1 : okDen 10000 xs := fun i hi => by
        have := comTo_mono hf (i := i + 1) (d := xs.length - (i + 1)) (by omega)
        rw [show i + 1 + (xs.length - (i + 1)) = xs.length by omega] at this
        exact Int.le_trans this hd
      rw [if_pos ⟨g1, fun a ha => hl _ (List.mem_map.2 ⟨a, ha, rfl⟩)⟩]
    · cases h


/- loop.example/g01343/impl.ValueAt -/
def f25.w (Q : Post) (p_0 : Value) (x_1 : Value) (H : Heap) : Prop :=
  W.box p_0 39 H fun v1 H =>
  W.new [(.int .i64 0), (.int .i64 0)] 47 H fun v2 H =>
  W.getN 4 v1 H fun v3 H =>
  W.call Try.prog (.func (.func 56) #[] #[]) #[v3, x_1, (.int .i64 10000), (.int .i64 10000000)] H fun v4 H =>
  W.extract 0 v4 H fun v5 H =>
  W.extract 1 v4 H fun v6 H =>
  W.extract 2 v4 H fun v7 H =>
  W.bin .neq v7 (.int .i64 0) H fun v8 H =>
  W.cond v8 H
  (fun H => W.build [(.int .i64 0), (.int .i64 0)] [] H fun v9 H =>
   W.putN 2 v2 v9 H fun _ H =>
   W.getN 2 v2 H fun v10 H => Q (.tuple #[v10, v7]) H)
  (fun H => W.fieldAddr 0 v1 H fun v11 H =>
   W.get v11 H fun v12 H =>
   W.callQ Try.prog (.func (.func 62) #[] #[]) #[v12, v5, v5] H fun v13 H =>
   W.bin .mul (.int .i64 2) v6 H fun v14 H =>
   W.fieldAddr 1 v1 H fun v15 H =>
   W.get v15 H fun v16 H =>
   W.callQ Try.prog (.func (.func 57) #[] #[]) #[v16, v5] H fun v17 H =>
   W.bin .mul v14 v17 H fun v18 H =>
   W.bin .add v13 v18 H fun v19 H =>
   W.bin .mul (.int .i64 2) v6 H fun v20 H =>
   W.bin .mul v20 v6 H fun v21 H =>
   W.callQ Try.prog (.func (.func 61) #[] #[]) #[v19, v21] H fun v22 H =>
   W.extract 0 v22 H fun v23 H =>
   W.extract 1 v22 H fun v24 H =>
   W.putN 2 v2 v23 H fun _ H =>
   W.getN 2 v2 H fun v25 H => Q (.tuple #[v25, v24]) H)
theorem f25.enter {Q : Post} {p_0 : Value} {x_1 : Value} {H : Heap} (h : f25.w Q p_0 x_1 H) : Runs Try.prog 25 #[p_0, x_1] H Q :=
  fn_enter (ann := []) (by kernel_rfl) Try.func25 rfl (by kernel_rfl) h (by kernel_rfl)


/-- Twice the value times the denominator twice. -/
def vaNum (p : Prg) (l : List Int) (d : Int) : Int := formV p.1 l l + 2 * d * dot p.2.1 l

noncomputable def vaRes (p : Prg) (xs : List Frac) : Frac × Int := open Classical in
  if IsPrg p ∧ Frs xs then (if xs.length = p.2.1.length then (match tog 10000 10000000 xs with | none => ((0, 0), 3) | some (l, d) => fracT (vaNum p l d) (2 * d * d)) else ((0, 0), 2)) else ((0, 0), 1)

theorem abs7 {l : List Int} (h : ∀ a ∈ l, -10000000 ≤ a ∧ a ≤ 10000000) : ∀ a ∈ l, a.natAbs ≤ 10000000 := fun a ha => by have := h a ha; omega

theorem va_bounds {p : Prg} (hp : IsPrg p) {l : List Int} {d : Int} (hl : l.length = p.2.1.length) (hd : 1 ≤ d ∧ d ≤ 10000) (ha : ∀ a ∈ l, a.natAbs ≤ 10000000) :
    (formV p.1 l l).natAbs ≤ 50000000000000000 ∧ (dot p.2.1 l).natAbs ≤ 5000000000 ∧ (2 * d * dot p.2.1 l).natAbs ≤ 20000 * 5000000000 ∧ (2 * d * d).natAbs ≤ 20000 * 10000 := by
  have n1 := hp.n1; have nm := hp.nm; have dl := hp.dl
  have hr : ∀ r ∈ p.1, r.length ≤ 5 ∧ ∀ e ∈ r, e.natAbs ≤ 20 := fun r hr => ⟨by have := (hp.d r hr).1; omega, fun e he => by have := (hp.d r hr).2 e he; omega⟩
  have hc : ∀ e ∈ p.2.1, e.natAbs ≤ 100 := fun e he => by have := hp.c e he; omega
  have h1 : (formV p.1 l l).natAbs ≤ p.1.length * (10000000 * (5 * (20 * 10000000))) := sumTo_abs fun i _ => mul_abs (getD_abs ha i) (row_dot hr ha i)
  have h2 := dot_abs hc ha
  have h3 := mul5 (n := p.1.length) (N := 10000000 * (5 * (20 * 10000000))) (by omega)
  have h4 := mul5 (n := p.2.1.length) (N := 100 * 10000000) (by omega)
  have h5 : (dot p.2.1 l).natAbs ≤ 5000000000 := by omega
  exact ⟨by omega, h5, mul_abs (by omega) h5, mul_abs (by omega) (by omega)⟩

theorem fn25 {H0 : Heap} {Q : Post} {cs : List Value} {vx : Value} {p : Prg} {xs : List Frac} (hr : Has RPrg H0 cs p) (hx : Has RFS H0 [vx] xs) (hw : wPrg p ≤ 1048576) (hl : xs.length ≤ 1048576)
    (hQ : ∀ H', H0.Le H' → Q (.tuple #[.agg (frC (vaRes p xs).1).toArray, .int .i64 (vaRes p xs).2]) H') : Runs Try.prog 25 #[.agg cs.toArray, vx] H0 Q := by
  obtain ⟨u1, u2, u3, u4, rfl, r1, r2, r3, r4⟩ := hasPrg hr
  refine f25.enter ?_
  unfold f25.w
  have hz : ∀ H (a : Frac) c, H0.Le H → vaRes p xs = (a, c) → Q (.tuple #[.agg (frC a).toArray, .int .i64 c]) H := fun H a c l e => by
    have := hQ H l
    rw [e] at this
    exact this
  have h := ((((Loc.start H0).lent hx).lent r2).lent r1).lent hr
  refine Wl.box h fun H b h => Wl.new h fun H b2 h => Wl.getA h rfl (Wi.call (fn56 (h.rd (cs := [u1, u2, u3, u4])) (h.rd (cs := [vx])) hw hl (by omega) (by omega) (fun g H l => ?_) (fun hp hf g H l => ?_) (fun hp hf he g H l => ?_) fun hp hf he l d g H u f => ?_))
  · have h := h.to l
    simp only [gw]
    exact Wi.neqC (fun _ => Wi.tru (Wi.build (cells := frC (0, 0)) rfl (Wl.putA h rfl rfl rfl fun H h => Wl.getA h rfl (hz _ _ _ h.le (by simp only [vaRes, if_neg g]))))) fun e => absurd e (by decide)
  · have h := h.to l
    simp only [gw]
    exact Wi.neqC (fun _ => Wi.tru (Wi.build (cells := frC (0, 0)) rfl (Wl.putA h rfl rfl rfl fun H h => Wl.getA h rfl (hz _ _ _ h.le (by simp only [vaRes, if_pos (And.intro hp hf), if_neg g]))))) fun e => absurd e (by decide)
  · have h := h.to l
    simp only [gw]
    exact Wi.neqC (fun _ => Wi.tru (Wi.build (cells := frC (0, 0)) rfl (Wl.putA h rfl rfl rfl fun H h => Wl.getA h rfl (hz _ _ _ h.le (by simp only [vaRes, if_pos (And.intro hp hf), if_pos he, g]))))) fun e => absurd e (by decide)
  have h := h.add f
  obtain ⟨f1, f2, f3, f4⟩ := tog_facts hf (by omega) g
  have fa := abs7 f4
  have n1 := hp.n1; have nm := hp.nm; have dl := hp.dl
  obtain ⟨b1, b2', b3, b4⟩ := va_bounds hp (f1.trans he) ⟨f2, f3⟩ fa
  have hres : vaRes p xs = fracT (vaNum p l d) (2 * d * d) := by simp only [vaRes, if_pos (And.intro hp hf), if_pos he, g]
  have hM : ∀ r ∈ p.1, (r.length ≤ 5 ∧ ∀ e ∈ r, e.natAbs ≤ 20) ∧ r.length ≤ l.length := fun r hr => by
    have := hp.d r hr
    exact ⟨⟨by omega, fun e he => by have := this.2 e he; omega⟩, by omega⟩
  have hca : ∀ e ∈ p.2.1, e.natAbs ≤ 100 := fun e he => by have := hp.c e he; omega
  have h5 := mul5 (n := p.1.length) (N := 10000000 * (5 * (20 * 10000000))) (by omega)
  have h6 := mul5 (n := p.2.1.length) (N := 100 * 10000000) (by omega)
  have hd0 : 2 * d * d ≠ 0 := by
    have : 0 < 2 * d * d := Int.mul_pos (by omega) (by omega)
    omega
  simp only [gw]
  refine Wi.neqC (fun e => absurd rfl e) fun _ => Wi.fls (Wi.fieldAddr0 (Wl.get h rfl (Wi.callQ (fn62 (N := 5) (M := 20) (X := 10000000) (Y := 10000000) (h.rd (cs := [u1])) (h.rd (cs := [u])) (h.rd (cs := [u])) (by omega) hM fa fa (by omega) (by omega) ⟨.refl _, ?_⟩))))
  refine Wi.mul (by unfold I64; omega) (Wi.fieldAddr0 (Wl.get h rfl (Wi.callQ (fn57 (h.rd (cs := [u2])) (h.rd (cs := [u])) (by omega) hca fa (by omega) ⟨.refl _, ?_⟩))))
  refine Wi.mul (by unfold I64; omega) (Wi.add (by unfold I64; omega) (Wi.mul (by unfold I64; omega) (Wi.mul (by unfold I64; omega) ?_)))
  refine Wi.callQ (fn61 (by unfold B64; omega) (by unfold B64; omega) hd0 fun H l2 => ⟨l2, ?_⟩)
  have h := h.to l2
  simp only [g11, g12]
  refine Wl.putA (vs := frC _) h rfl rfl rfl fun H h => Wl.getA h rfl ?_
  have := hQ _ h.le
  rw [hres] at this
  exact this

end Go.Proofs.Ytdbdmlfnggbdiaa
