/- The contract of the program's IsPlace. No condition. -/
import Derived.Test.YtdbdmlfnggbdiaaQ1
import Derived.Test.YtdbdmlfnggbdiaaM1
import Derived.Test.YtdbdmlfnggbdiaaQ4
namespace Go.Proofs.Ytdbdmlfnggbdiaa
open Go.Ab

/- (loop.example/g01343/impl.Program).at -/
def f56.w (Q : Post) (p_0 : Value) (x_1 : Value) (most_2 : Value) (parts_3 : Value) (H : Heap) : Prop :=
  W.box p_0 39 H fun v1 H =>
  W.getN 4 v1 H fun v2 H =>
  W.call Try.prog (.func (.func 65) #[] #[]) #[v2] H fun v3 H =>
  W.un .not v3 H fun v4 H =>
  W.guarded v4 false (fun H k => k x_1 H) H fun v5 H =>
  W.guarded v4 false (fun H k => W.call Try.prog (.func (.func 66) #[] #[]) #[v5] H k) H fun v6 H =>
  W.guarded v4 false (fun H k => W.un .not v6 H k) H fun v7 H =>
  W.pick v4 (.bool true) v7 H fun v8 H =>
  W.cond v8 H
  (fun H => Q (.tuple #[(.slice none 0 0), (.int .i64 0), (.int .i64 1)]) H)
  (fun H => W.len x_1 H fun v9 H =>
   W.fieldAddr 1 v1 H fun v10 H =>
   W.get v10 H fun v11 H =>
   W.len v11 H fun v12 H =>
   W.bin .neq v9 v12 H fun v13 H =>
   W.cond v13 H
   (fun H => Q (.tuple #[(.slice none 0 0), (.int .i64 0), (.int .i64 2)]) H)
   (fun H => W.call Try.prog (.func (.func 97) #[] #[]) #[x_1, most_2, parts_3] H fun v14 H =>
    W.extract 0 v14 H fun v15 H =>
    W.extract 1 v14 H fun v16 H =>
    W.extract 2 v14 H fun v17 H =>
    W.un .not v17 H fun v18 H =>
    W.cond v18 H
    (fun H => Q (.tuple #[(.slice none 0 0), (.int .i64 0), (.int .i64 3)]) H)
    (fun H => Q (.tuple #[v15, v16, (.int .i64 0)]) H)))
theorem f56.enter {Q : Post} {p_0 : Value} {x_1 : Value} {most_2 : Value} {parts_3 : Value} {H : Heap} (h : f56.w Q p_0 x_1 most_2 parts_3 H) : Runs Try.prog 56 #[p_0, x_1, most_2, parts_3] H Q :=
  fn_enter (ann := []) (by kernel_rfl) Try.func56 rfl (by kernel_rfl) h (by kernel_rfl)

/- loop.example/g01343/impl.IsPlace -/
def f21.l1 (Q : Post) (v10 : Value) (v9 : Value) (v4 : Value) (v1 : Value) (v5 : Value) (I1 : St [24] → Heap → Prop) (x_24 : Value) (H : Heap) : Prop :=
  W.bin .lss x_24 v10 H fun v11 H =>
  W.cond v11 H
  (fun H => W.indexAddr 1 v9 x_24 H fun v12 H =>
   W.get v12 H fun v13 H =>
   W.callQ Try.prog (.func (.func 57) #[] #[]) #[v13, v4] H fun v14 H =>
   W.fieldAddr 3 v1 H fun v15 H =>
   W.get v15 H fun v16 H =>
   W.indexAddr 1 v16 x_24 H fun v17 H =>
   W.get v17 H fun v18 H =>
   W.bin .mul v18 v5 H fun v19 H =>
   W.bin .lss v14 v19 H fun v20 H =>
   W.cond v20 H
   (fun H => Q (.tuple #[(.bool false), (.int .i64 0)]) H)
   (fun H => W.bin .add x_24 (.int .i64 1) H fun v21 H =>
    I1 (v21, ()) H))
  (fun H => W.call Try.prog (.func (.func 52) #[] #[]) #[v4] H fun v22 H =>
   Q (.tuple #[v22, (.int .i64 0)]) H)
def f21.w (Q : Post) (p_0 : Value) (x_1 : Value) (H : Heap) : Prop :=
  W.box p_0 39 H fun v1 H =>
  W.getN 4 v1 H fun v2 H =>
  W.call Try.prog (.func (.func 56) #[] #[]) #[v2, x_1, (.int .i64 1000000000), (.int .i64 1000000000000)] H fun v3 H =>
  W.extract 0 v3 H fun v4 H =>
  W.extract 1 v3 H fun v5 H =>
  W.extract 2 v3 H fun v6 H =>
  W.bin .neq v6 (.int .i64 0) H fun v7 H =>
  W.cond v7 H
  (fun H => Q (.tuple #[(.bool false), v6]) H)
  (fun H => W.fieldAddr 2 v1 H fun v8 H =>
   W.get v8 H fun v9 H =>
   W.len v9 H fun v10 H =>
   W.loop (S := St [24]) (fun I1 s H => f21.l1 Q v10 v9 v4 v1 v5 I1 s.1 H) ((.int .i64 0), ()) H)
theorem f21.enter {Q : Post} {p_0 : Value} {x_1 : Value} {H : Heap} (h : f21.w Q p_0 x_1 H) : Runs Try.prog 21 #[p_0, x_1] H Q :=
  fn_enter (ann := [(5, [24])]) (by kernel_rfl) Try.func21 rfl (by kernel_rfl) h (by kernel_rfl)


theorem tog_facts {m n : Int} {xs : List Frac} (hf : Frs xs) (hm : 1 ≤ m) {l : List Int} {d : Int} (h : tog m n xs = some (l, d)) : l.length = xs.length ∧ 1 ≤ d ∧ d ≤ m ∧ ∀ a ∈ l, -n ≤ a ∧ a ≤ n := by
  unfold tog at h
  split at h
  · rename_i g
    simp only [Option.some.injEq, Prod.mk.injEq] at h
    obtain ⟨rfl, rfl⟩ := h
    refine ⟨by simp, comTo_pos hf (Nat.le_refl _), ?_, fun a ha => ?_⟩
    · cases hx : xs.length with
      | zero => simp [comTo]; omega
      | succ k =>
        have := g.1 k (by omega)
        exact this
    · obtain ⟨b, hb, rfl⟩ := List.mem_map.1 ha
      exact g.2 b hb
  · cases h

/-- The numbers make a place. -/
def plOK (p : Prg) (l : List Int) (d : Int) : Prop := (∀ j, j < p.2.2.1.length → p.2.2.2.getD j 0 * d ≤ dot (p.2.2.1.getD j []) l) ∧ ∀ a ∈ l, 0 ≤ a

noncomputable def plRes (p : Prg) (xs : List Frac) : Bool × Int := open Classical in
  if IsPrg p ∧ Frs xs then (if xs.length = p.2.1.length then (match tog 1000000000 1000000000000 xs with | none => (false, 3) | some (l, d) => (decide (plOK p l d), 0)) else (false, 2)) else (false, 1)

theorem abs12 {n : Int} {k : Nat} {l : List Int} (h : ∀ a ∈ l, -n ≤ a ∧ a ≤ n) (hk : n = k) : ∀ a ∈ l, a.natAbs ≤ k := fun a ha => by have := h a ha; omega

theorem fn56 {H0 : Heap} {Q : Post} {cs : List Value} {vx : Value} {p : Prg} {xs : List Frac} {m n : Int} (hr : Has RPrg H0 cs p) (hx : Has RFS H0 [vx] xs) (hw : wPrg p ≤ 1048576) (hl : xs.length ≤ 1048576) (hm : 1 ≤ m ∧ m ≤ 1000000000) (hn : 0 ≤ n ∧ n ≤ 1000000000000)
    (e1 : ¬ (IsPrg p ∧ Frs xs) → ∀ H', H0.Le H' → Q (.tuple #[.slice none 0 0, .int .i64 0, .int .i64 1]) H')
    (e2 : IsPrg p → Frs xs → xs.length ≠ p.2.1.length → ∀ H', H0.Le H' → Q (.tuple #[.slice none 0 0, .int .i64 0, .int .i64 2]) H')
    (e3 : IsPrg p → Frs xs → xs.length = p.2.1.length → tog m n xs = none → ∀ H', H0.Le H' → Q (.tuple #[.slice none 0 0, .int .i64 0, .int .i64 3]) H')
    (e4 : IsPrg p → Frs xs → xs.length = p.2.1.length → ∀ l d, tog m n xs = some (l, d) → ∀ H' u, Fresh RS H0 [u] l H' → Q (.tuple #[u, .int .i64 d, .int .i64 0]) H') :
    Runs Try.prog 56 #[.agg cs.toArray, vx, .int .i64 m, .int .i64 n] H0 Q := by
  obtain ⟨u1, u2, u3, u4, rfl, r1, r2, r3, r4⟩ := hasPrg hr
  refine f56.enter ?_
  unfold f56.w
  have h := (((Loc.start H0).lent hx).lent r2).lent hr
  refine Wl.box h fun H b h => Wl.getA h rfl (Wi.call (fn65 (h.rd (cs := [u1, u2, u3, u4])) hw fun H t l ht => ?_))
  have h := h.to l
  cases t with
  | false =>
    simp only [gw]
    exact e1 (fun g => Bool.noConfusion (ht.2 g.1)) _ h.le
  | true =>
  have hp := ht.1 rfl
  simp only [gw]
  refine Wi.call (fn66 (h.rd (cs := [vx])) fun H t l hf => ?_)
  have h := h.to l
  cases t with
  | false =>
    simp only [gw]
    exact e1 (fun g => Bool.noConfusion (hf.2 g.2)) _ h.le
  | true =>
  have hf := hf.1 rfl
  simp only [gw]
  refine Wl.len h (Wi.fieldAddr0 (Wl.get h rfl (Wl.len h (Wi.neqC (fun hne => Wi.tru (e2 hp hf (fun g => hne (by rw [g])) _ h.le)) fun he => Wi.fls ?_))))
  have he : xs.length = p.2.1.length := by omega
  refine Wi.call (fn97 (h.rd (cs := [vx])) hf hl hm hn (fun g H l => ?_) fun l d g H u f => ?_)
  · have h := h.to l
    simp only [gw]
    exact e3 hp hf he g _ h.le
  · have h := h.add f.fresh
    simp only [gw]
    exact e4 hp hf he _ _ g _ _ (h.ret (i := 0) rfl)

theorem fn21 {H0 : Heap} {Q : Post} {cs : List Value} {vx : Value} {p : Prg} {xs : List Frac} (hr : Has RPrg H0 cs p) (hx : Has RFS H0 [vx] xs) (hw : wPrg p ≤ 1048576) (hl : xs.length ≤ 1048576)
    (hQ : ∀ H', H0.Le H' → Q (.tuple #[.bool (plRes p xs).1, .int .i64 (plRes p xs).2]) H') : Runs Try.prog 21 #[.agg cs.toArray, vx] H0 Q := by
  obtain ⟨u1, u2, u3, u4, rfl, r1, r2, r3, r4⟩ := hasPrg hr
  refine f21.enter ?_
  unfold f21.w
  have hz : ∀ H t c, H0.Le H → plRes p xs = (t, c) → Q (.tuple #[.bool t, .int .i64 c]) H := fun H t c l e => by
    have := hQ H l
    rw [e] at this
    exact this
  have h := ((((Loc.start H0).lent hx).lent r4).lent r3).lent hr
  refine Wl.box h fun H b h => Wl.getA h rfl (Wi.call (fn56 (h.rd (cs := [u1, u2, u3, u4])) (h.rd (cs := [vx])) hw hl (by omega) (by omega) (fun g H l => ?_) (fun hp hf g H l => ?_) (fun hp hf he g H l => ?_) fun hp hf he l d g H u f => ?_))
  · have h := h.to l
    simp only [gw]
    exact Wi.neqC (fun _ => Wi.tru (hz _ _ _ h.le (by simp only [plRes, if_neg g]))) fun e => absurd e (by decide)
  · have h := h.to l
    simp only [gw]
    exact Wi.neqC (fun _ => Wi.tru (hz _ _ _ h.le (by simp only [plRes, if_pos (And.intro hp hf), if_neg g]))) fun e => absurd e (by decide)
  · have h := h.to l
    simp only [gw]
    exact Wi.neqC (fun _ => Wi.tru (hz _ _ _ h.le (by simp only [plRes, if_pos (And.intro hp hf), if_pos he, g]))) fun e => absurd e (by decide)
  have h := h.add f
  have hres : ∀ t : Bool, (t = true ↔ plOK p l d) → plRes p xs = (t, 0) := fun t ht => by
    simp only [plRes, if_pos (And.intro hp hf), if_pos he, g]
    congr 1
    rw [Bool.eq_iff_iff, ht]
    simp
  obtain ⟨f1, f2, f3, f4⟩ := tog_facts hf (by omega) g
  have fa := abs12 (k := 1000000000000) f4 rfl
  have n1 := hp.n1; have nm := hp.nm; have dl := hp.dl; have al := hp.al
  simp only [gw]
  refine Wi.neqC (fun e => absurd rfl e) fun _ => Wi.fls (Wi.fieldAddr0 (Wl.get h rfl (Wl.len h ?_)))
  refine W.all_rule p.2.2.1.length (fun j => decide (p.2.2.2.getD j 0 * d ≤ dot (p.2.2.1.getD j []) l)) (fun j H1 J hj _ l1 hJ => ?_) fun H1 J hall l1 => ?_
  · have h := h.to l1
    have hjb : j < p.2.2.2.length := by omega
    have ha := hp.a _ (List.getElem_mem hj)
    have hb := hp.b _ (List.getElem_mem hjb)
    have haa : ∀ e ∈ p.2.2.1[j], e.natAbs ≤ 20 := fun e he => by have := ha.2 e he; omega
    have h5 := mul5 (n := p.2.2.1[j].length) (N := 20 * 1000000000000) (by omega)
    have hbd : (p.2.2.2[j] * d).natAbs ≤ 100 * 1000000000 := mul_abs (by omega) (by omega)
    refine Wi.lssC (fun _ => Wi.tru ?_) fun h => by omega
    refine Wl.at1 rfl h hj fun w hw => Wi.callQ (fn57 hw (h.rd (cs := [u])) (by omega) haa fa (by omega) ⟨.refl _, ?_⟩)
    refine Wi.fieldAddr0 (Wl.get h rfl (Wl.atInt h hjb fun _ => Wi.mul (by unfold I64; omega) (Wi.lssC (fun hlt => Wi.tru ?_) fun hge => Wi.fls (Wi.add (by unfold I64; omega) (hJ ?_ _ (.refl _))))))
    · refine hz _ _ _ h.le (hres false ⟨fun e => Bool.noConfusion e, fun g => ?_⟩)
      have := g.1 j hj
      rw [getD_at hjb, getD_row hj] at this
      omega
    · rw [getD_at hjb, getD_row hj]
      exact decide_eq_true (by omega)
  · have h := h.to l1
    refine Wi.lssC (fun h => by omega) fun _ => Wi.fls (Wi.call (fn52 (h.rd (cs := [u])) fun H2 t l2 ht => ?_))
    exact hz _ _ _ (h.le.trans l2) (hres t ⟨fun e => ⟨fun j hj => of_decide_eq_true (hall j hj), ht.1 e⟩, fun g => ht.2 g.2⟩)

end Go.Proofs.Ytdbdmlfnggbdiaa
