/- The contracts of SlopesAt, the program's and the reference's. No condition. -/
import Derived.Test.YtdbdmlfnggbdiaaQ6
import Derived.Test.YtdbdmlfnggbdiaaU0
namespace Go.Proofs.Ytdbdmlfnggbdiaa
open Go.Ab

/- loop.example/g01343/impl.SlopesAt -/
def f30.w (Q : Post) (p_0 : Value) (x_1 : Value) (H : Heap) : Prop :=
  W.box p_0 39 H fun v1 H =>
  W.getN 4 v1 H fun v2 H =>
  W.call Try.prog (.func (.func 56) #[] #[]) #[v2, x_1, (.int .i64 10000), (.int .i64 10000000)] H fun v3 H =>
  W.extract 0 v3 H fun v4 H =>
  W.extract 1 v3 H fun v5 H =>
  W.extract 2 v3 H fun v6 H =>
  W.bin .neq v6 (.int .i64 0) H fun v7 H =>
  W.cond v7 H
  (fun H => Q (.tuple #[(.slice none 0 0), v6]) H)
  (fun H => W.getN 4 v1 H fun v8 H =>
   W.call Try.prog (.func (.func 71) #[] #[]) #[v8, v4, v5] H fun v9 H =>
   W.call Try.prog (.func (.func 70) #[] #[]) #[v9, v5] H fun v10 H =>
   W.extract 0 v10 H fun v11 H =>
   W.extract 1 v10 H fun v12 H =>
   Q (.tuple #[v11, v12]) H)
theorem f30.enter {Q : Post} {p_0 : Value} {x_1 : Value} {H : Heap} (h : f30.w Q p_0 x_1 H) : Runs Try.prog 30 #[p_0, x_1] H Q :=
  fn_enter (ann := []) (by kernel_rfl) Try.func30 rfl (by kernel_rfl) h (by kernel_rfl)

/- loop.example/g01343/spec.SlopesAt -/
def f29.l2 (Q : Post) (v4 : Value) (v1 : Value) (i_10 : Value) (v5 : Value) (out_9 : Value) (I1 : St [9, 10] → Heap → Prop) (I2 : St [11, 12] → Heap → Prop) (sum_11 : Value) (k_12 : Value) (H : Heap) : Prop :=
  W.len v4 H fun v16 H =>
  W.bin .lss k_12 v16 H fun v17 H =>
  W.cond v17 H
  (fun H => W.fieldAddr 0 v1 H fun v18 H =>
   W.get v18 H fun v19 H =>
   W.indexAddr 1 v19 i_10 H fun v20 H =>
   W.get v20 H fun v21 H =>
   W.indexAddr 1 v21 k_12 H fun v22 H =>
   W.get v22 H fun v23 H =>
   W.indexAddr 1 v4 k_12 H fun v24 H =>
   W.get v24 H fun v25 H =>
   W.bin .mul v23 v25 H fun v26 H =>
   W.bin .add sum_11 v26 H fun v27 H =>
   W.bin .add k_12 (.int .i64 1) H fun v28 H =>
   I2 (v27, v28, ()) H)
  (fun H => W.call Try.prog (.func (.func 60) #[] #[]) #[sum_11, v5] H fun v29 H =>
   W.call Try.prog (.func (.func 59) #[] #[]) #[v29] H fun v30 H =>
   W.extract 0 v30 H fun v31 H =>
   W.extract 1 v30 H fun v32 H =>
   W.new [(.int .i64 0), (.int .i64 0)] 47 H fun v33 H =>
   W.putN 2 v33 v31 H fun _ H =>
   W.bin .neq v32 (.int .i64 0) H fun v34 H =>
   W.cond v34 H
   (fun H => Q (.tuple #[(.slice none 0 0), v32]) H)
   (fun H => W.getN 2 v33 H fun v35 H =>
    W.lit 1 [(.int .i64 0), (.int .i64 0)] 47 [(0, 2, v35)] H fun v36 H =>
    W.append 2 47 out_9 v36 H fun v37 H =>
    W.bin .add i_10 (.int .i64 1) H fun v38 H =>
    I1 (v37, v38, ()) H))
def f29.l1 (Q : Post) (v4 : Value) (v1 : Value) (v5 : Value) (I1 : St [9, 10] → Heap → Prop) (out_9 : Value) (i_10 : Value) (H : Heap) : Prop :=
  W.len v4 H fun v9 H =>
  W.bin .lss i_10 v9 H fun v10 H =>
  W.cond v10 H
  (fun H => W.fieldAddr 1 v1 H fun v11 H =>
   W.get v11 H fun v12 H =>
   W.indexAddr 1 v12 i_10 H fun v13 H =>
   W.get v13 H fun v14 H =>
   W.bin .mul v14 v5 H fun v15 H =>
   W.loop (S := St [11, 12]) (fun I2 s H => f29.l2 Q v4 v1 i_10 v5 out_9 I1 I2 s.1 s.2.1 H) (v15, (.int .i64 0), ()) H)
  (fun H => Q (.tuple #[out_9, (.int .i64 0)]) H)
def f29.w (Q : Post) (p_0 : Value) (x_1 : Value) (H : Heap) : Prop :=
  W.box p_0 39 H fun v1 H =>
  W.getN 4 v1 H fun v2 H =>
  W.call Try.prog (.func (.func 58) #[] #[]) #[v2, x_1] H fun v3 H =>
  W.extract 0 v3 H fun v4 H =>
  W.extract 1 v3 H fun v5 H =>
  W.extract 2 v3 H fun v6 H =>
  W.bin .neq v6 (.int .i64 0) H fun v7 H =>
  W.cond v7 H
  (fun H => Q (.tuple #[(.slice none 0 0), v6]) H)
  (fun H => W.lit 0 [(.int .i64 0), (.int .i64 0)] 47 [] H fun v8 H =>
   W.loop (S := St [9, 10]) (fun I1 s H => f29.l1 Q v4 v1 v5 I1 s.1 s.2.1 H) (v8, (.int .i64 0), ()) H)
theorem f29.enter {Q : Post} {p_0 : Value} {x_1 : Value} {H : Heap} (h : f29.w Q p_0 x_1 H) : Runs Try.prog 29 #[p_0, x_1] H Q :=
  fn_enter (ann := [(6, [9, 10]), (10, [11, 12])]) (by kernel_rfl) Try.func29 rfl (by kernel_rfl) h (by kernel_rfl)


/-- The slopes of a program, times the denominator. -/
def slopesD (p : Prg) (d : Int) (x : List Int) : List Int := (List.range p.1.length).map fun i => p.2.1.getD i 0 * d + dot (p.1.getD i []) x

theorem slopesD_at (p : Prg) (d : Int) (x : List Int) {i : Nat} (hi : i < (slopesD p d x).length) : (slopesD p d x)[i] = p.2.1.getD i 0 * d + dot (p.1.getD i []) x := by simp [slopesD]

theorem sl_abs {p : Prg} (hp : IsPrg p) {l : List Int} {d : Int} (hd : LeA d 10000) (hA : ∀ e ∈ l, e.natAbs ≤ 10000000) (i : Nat) : LeA (p.2.1.getD i 0 * d) 1000000 ∧ LeA (dot (p.1.getD i []) l) 1000000000 := by
  have hr : ∀ r ∈ p.1, r.length ≤ 5 ∧ ∀ e ∈ r, e.natAbs ≤ 20 := fun r hr => ⟨by have := (hp.d r hr).1; have := hp.nm; omega, fun e he => abs20 ((hp.d r hr).2 e he)⟩
  exact ⟨Nat.le_trans (mul_abs (getD_abs (fun e he => abs100 (hp.c e he)) i) hd) (by decide), Nat.le_trans (row_dot hr hA i) (by decide)⟩

theorem slopesD_abs {p : Prg} (hp : IsPrg p) {l : List Int} {d : Int} (hd : LeA d 10000) (hA : ∀ e ∈ l, e.natAbs ≤ 10000000) : ∀ e ∈ slopesD p d l, B64 e := fun e he => by
  simp only [slopesD, List.mem_map] at he
  obtain ⟨i, _, rfl⟩ := he
  obtain ⟨h1, h2⟩ := sl_abs hp hd hA i
  have := h1.add h2
  unfold LeA at this
  unfold B64
  omega

theorem fnD71 {H0 : Heap} {Q : Post} {cs : List Value} {vx : Value} {p : Prg} {x : List Int} {d : Int} (hr : Has RPrg H0 cs p) (hx : Has RS H0 [vx] x) (hp : IsPrg p) (hl : x.length = p.2.1.length) (hd : LeA d 10000) (hX : ∀ e ∈ x, e.natAbs ≤ 10000000)
    (hQ : ∀ H' u, Fresh RS H0 [u] (slopesD p d x) H' → Q u H') : Runs Try.prog 71 #[.agg cs.toArray, vx, .int .i64 d] H0 Q := by
  obtain ⟨u1, u2, u3, u4, rfl, r1, r2, r3, r4⟩ := hasPrg hr
  have n1 := hp.n1; have nm := hp.nm; have dl := hp.dl
  refine f71.enter ?_
  unfold f71.w
  have h := (((Loc.start H0).lent r1).lent r2).lent hx
  refine Wl.box h fun H b h => Wi.fieldAddr0 (Wl.get h rfl (Wl.len h ?_))
  have h := h.nilG Rd.int 2
  refine W.for_rule p.1.length (fun i s H => ∃ u, s = (u, .int .i64 (i : Nat), ()) ∧ Ab.Loc H0 [.grow Rd.int 2 u ((List.range i).map fun i => p.2.1.getD i 0 * d + dot (p.1.getD i []) x), .box b [u1, u2, u3, u4], .lent RS [vx] x, .lent RS [u2] p.2.1, .lent RSS [u1] p.1] H) ⟨_, rfl, h⟩ ?_
  rintro i s H J hi ⟨u, rfl, h⟩ hJ
  refine Wi.lssC (fun hlt => Wi.tru ?_) fun hge => Wi.fls ?_
  · have hix : i < p.1.length := by omega
    have hic : i < p.2.1.length := by omega
    have hrow := hp.d _ (List.getElem_mem hix)
    have hda : ∀ e ∈ p.1[i], e.natAbs ≤ 20 := fun e he => abs20 (hrow.2 e he)
    obtain ⟨s1, s2⟩ := sl_abs hp hd hX i
    have e : p.2.1.getD i 0 * d + dot (p.1.getD i []) x = p.2.1[i] * d + dot p.1[i] x := by rw [getD_at hic, getD_row hix]
    have hn := (s1.add s2).i64 (by decide)
    rw [e] at hn
    rw [getD_at hic] at s1
    refine Wl.at1 rfl h hix fun w hw => Wi.fieldAddr0 (Wl.get h rfl (Wl.atInt h hic fun _ => Wi.mul (s1.i64 (by decide)) (Wi.callQ (fn57 hw (h.rd (cs := [vx])) (by omega) hda hX (by omega) ⟨.refl _, Wi.add hn ?_⟩))))
    refine Wl.pushP (r := Rd.int) (x := p.2.1[i] * d + dot p.1[i] x) rfl rfl rfl (fun _ => ⟨rfl, rfl, hn⟩) h (by simp; omega) fun H u' h => Wi.add (by unfold I64; omega) (hJ _ _ hix ⟨u', rfl, ?_⟩)
    rw [List.range_succ, List.map_append]
    simp only [List.map_cons, List.map_nil]
    rw [e]
    exact h
  · have : i = p.1.length := by omega
    subst this
    exact hQ _ _ ((h.asData (i := 0) rfl).ret (i := 0) rfl)

noncomputable def saRes (p : Prg) (xs : List Frac) : List Frac × Int := open Classical in
  if IsPrg p ∧ Frs xs then (if xs.length = p.2.1.length then (match tog 10000 10000000 xs with | none => ([], 3) | some (l, d) => frAll (slopesD p d l) d) else ([], 2)) else ([], 1)

theorem saRes_sz (p : Prg) (xs : List Frac) : szFS (saRes p xs).1 ≤ 1048576 := by
  rw [szFS_len]
  unfold saRes
  split
  · rename_i hp
    have n1 := hp.1.n1; have nm := hp.1.nm; have dl := hp.1.dl
    split
    · cases tog 10000 10000000 xs with
      | none => simp
      | some q =>
        have := frAll_len (slopesD p q.2 q.1) q.2
        rw [show (slopesD p q.2 q.1).length = p.1.length by simp [slopesD]] at this
        show 2 * (frAll (slopesD p q.2 q.1) q.2).1.length ≤ 1048576
        omega
    · simp
  · simp

theorem fn30 {H0 : Heap} {Q : Post} {cs : List Value} {vx : Value} {p : Prg} {xs : List Frac} (hr : Has RPrg H0 cs p) (hx : Has RFS H0 [vx] xs) (hw : wPrg p ≤ 1048576) (hl : xs.length ≤ 1048576)
    (hQ : ∀ H' u, Fresh RFS H0 [u] (saRes p xs).1 H' → Q (.tuple #[u, .int .i64 (saRes p xs).2]) H') : Runs Try.prog 30 #[.agg cs.toArray, vx] H0 Q := by
  obtain ⟨u1, u2, u3, u4, rfl, r1, r2, r3, r4⟩ := hasPrg hr
  refine f30.enter ?_
  unfold f30.w
  have hz : ∀ H c, H0.Le H → saRes p xs = ([], c) → Q (.tuple #[.slice none 0 0, .int .i64 c]) H := fun H c l e => by
    have := hQ H (.slice none 0 0) (by rw [e]; exact fresh_nil l)
    rw [e] at this
    exact this
  have h := ((((Loc.start H0).lent hx).lent r2).lent r1).lent hr
  refine Wl.box h fun H b h => Wl.getA h rfl (Wi.call (fn56 (h.rd (cs := [u1, u2, u3, u4])) (h.rd (cs := [vx])) hw hl (by omega) (by omega) (fun g H l => ?_) (fun hp hf g H l => ?_) (fun hp hf he g H l => ?_) fun hp hf he l d g H u f => ?_))
  · simp only [gw]
    exact Wi.neqC (fun _ => Wi.tru (hz _ _ (h.to l).le (by simp only [saRes, if_neg g]))) fun e => absurd e (by decide)
  · simp only [gw]
    exact Wi.neqC (fun _ => Wi.tru (hz _ _ (h.to l).le (by simp only [saRes, if_pos (And.intro hp hf), if_neg g]))) fun e => absurd e (by decide)
  · simp only [gw]
    exact Wi.neqC (fun _ => Wi.tru (hz _ _ (h.to l).le (by simp only [saRes, if_pos (And.intro hp hf), if_pos he, g]))) fun e => absurd e (by decide)
  have h := h.add f
  obtain ⟨f1, f2, f3, f4⟩ := tog_facts hf (by omega) g
  have fa := abs7 f4
  have n1 := hp.n1; have nm := hp.nm; have dl := hp.dl
  have hdA : LeA d 10000 := by unfold LeA; omega
  have hres : saRes p xs = frAll (slopesD p d l) d := by simp only [saRes, if_pos (And.intro hp hf), if_pos he, g]
  simp only [gw]
  refine Wi.neqC (fun e => absurd rfl e) fun _ => Wi.fls (Wl.getA h rfl (Wi.call (fnD71 (h.rd (cs := [u1, u2, u3, u4])) (h.rd (cs := [u])) hp (f1.trans he) hdA fa fun H w g2 => ?_)))
  have h := h.add g2
  refine Wi.call (fn70 (h.rd (cs := [w])) (slopesD_abs hp hdA fa) (by unfold B64; omega) (by omega) (by simp [slopesD]; omega) fun H z g3 => ?_)
  have h := h.add g3
  simp only [gw]
  have := hQ H z (by rw [hres]; exact h.ret (i := 0) rfl)
  rw [hres] at this
  exact this

theorem sa_l2 {H0 H : Heap} {Q : Post} {L : List (Atom H0.next)} {vu u1 u2 u3 u4 vo : Value} {b : Nat} {p : Prg} {l : List Int} {d : Int} (h : Ab.Loc H0 L H) [RdV L [vu] RS l] [RdV L [u1] RSS p.1] [RdB L b [u1, u2, u3, u4]] (hp : IsPrg p) (hl : l.length = p.2.1.length) (hd : LeA d 10000) (hA : ∀ e ∈ l, e.natAbs ≤ 10000000)
    {i : Nat} (hic : i < p.2.1.length) {J : St [9, 10] → Heap → Prop}
    (hK : W.call Try.prog (.func (.func 60) #[] #[]) #[.int .i64 (p.2.1.getD i 0 * d + dot (p.1.getD i []) l), .int .i64 d] H fun v29 H => W.call Try.prog (.func (.func 59) #[] #[]) #[v29] H fun v30 H => W.extract 0 v30 H fun v31 H => W.extract 1 v30 H fun v32 H => W.new [.int .i64 0, .int .i64 0] 47 H fun v33 H => W.putN 2 v33 v31 H fun _ H =>
      W.bin .neq v32 (.int .i64 0) H fun v34 H => W.cond v34 H (fun H => Q (.tuple #[.slice none 0 0, v32]) H) fun H => W.getN 2 v33 H fun v35 H => W.lit 1 [.int .i64 0, .int .i64 0] 47 [(0, 2, v35)] H fun v36 H => W.append 2 47 vo v36 H fun v37 H => W.bin .add (.int .i64 (i : Nat)) (.int .i64 1) H fun v38 H => J (v37, v38, ()) H) :
    W.loop (S := St [11, 12]) (fun I2 s H => f29.l2 Q vu (pt b 0) (.int .i64 (i : Nat)) (.int .i64 d) vo J I2 s.1 s.2.1 H) (.int .i64 (p.2.1.getD i 0 * d), .int .i64 0, ()) H := by
  have n1 := hp.n1; have nm := hp.nm; have dl := hp.dl
  have hid : i < p.1.length := by omega
  have hrow := hp.d _ (List.getElem_mem hid)
  have hrl := hrow.1
  have n5 : p.2.1.length ≤ 5 := by omega
  obtain ⟨s1, s2⟩ := sl_abs hp hd hA i
  refine W.for_rule p.2.1.length (fun k s H' => H' = H ∧ s = (.int .i64 (p.2.1.getD i 0 * d + sumTo (dotF (p.1.getD i []) l) k), .int .i64 (k : Nat), ())) ⟨rfl, by simp only [sumTo, Int.add_zero]; rfl⟩ ?_
  rintro k s H2 J3 hk ⟨rfl, rfl⟩ hJ3
  refine Wl.len h (Wi.lssC (fun hlt2 => Wi.tru ?_) fun hge2 => Wi.fls ?_)
  · have hkl : k < l.length := by omega
    have hkd : k < p.1[i].length := by omega
    have hkn : k < p.2.1.length := by omega
    have t : ∀ j, LeA (dotF (p.1.getD i []) l j) (20 * 10000000) := fun j => mul_abs (by rw [getD_row hid]; exact getD_abs (fun e he => abs20 (hrow.2 e he)) j) (getD_abs hA j)
    have s3 : LeA (sumTo (dotF (p.1.getD i []) l) k) (5 * (20 * 10000000)) := Nat.le_trans (sumTo_abs fun j _ => t j) (mul5 (by omega))
    have t1 := t k
    have e1 : dotF (p.1.getD i []) l k = p.1[i][k] * l[k] := by simp only [dotF]; rw [getD_row hid, getD_at hkd, getD_at hkl]
    have o2 := ((s1.add s3).add t1).i64 (by decide)
    have o1 := t1.i64 (by decide)
    rw [e1] at o1 o2
    refine Wi.fieldAddr0 (Wl.get h rfl (Wl.at1 rfl h hid fun w hw => Wl.atIntH hw hkd fun _ => Wl.atInt h hkl fun _ => Wi.mul o1 (Wi.add o2 (Wi.add (i64_succ (show k ≤ 5 by omega) (Nat.le_refl _)) (hJ3 _ _ hkn ⟨rfl, ?_⟩)))))
    simp only [sumTo]
    rw [e1, ← Int.add_assoc]
    rfl
  · have : k = p.2.1.length := by omega
    subst this
    have e : sumTo (dotF (p.1.getD i []) l) p.2.1.length = dot (p.1.getD i []) l := by unfold dot; rw [getD_row hid, hrl]
    rw [e]
    exact hK

theorem fn29 {H0 : Heap} {Q : Post} {cs : List Value} {vx : Value} {p : Prg} {xs : List Frac} (hr : Has RPrg H0 cs p) (hx : Has RFS H0 [vx] xs) (hw : wPrg p ≤ 1048576) (hl : xs.length ≤ 1048576)
    (hQ : ∀ H' u, Fresh RFS H0 [u] (saRes p xs).1 H' → Q (.tuple #[u, .int .i64 (saRes p xs).2]) H') : Runs Try.prog 29 #[.agg cs.toArray, vx] H0 Q := by
  obtain ⟨u1, u2, u3, u4, rfl, r1, r2, r3, r4⟩ := hasPrg hr
  refine f29.enter ?_
  unfold f29.w
  have hz : ∀ H c, H0.Le H → saRes p xs = ([], c) → Q (.tuple #[.slice none 0 0, .int .i64 c]) H := fun H c l e => by
    have := hQ H (.slice none 0 0) (by rw [e]; exact fresh_nil l)
    rw [e] at this
    exact this
  have h := ((((Loc.start H0).lent hx).lent r2).lent r1).lent hr
  refine Wl.box h fun H b h => Wl.getA h rfl (Wi.call (fn58 (h.rd (cs := [u1, u2, u3, u4])) (h.rd (cs := [vx])) hw hl (fun g H l => ?_) (fun hp hf g H l => ?_) (fun hp hf he g H l => ?_) fun hp hf he l d g H u f => ?_))
  · simp only [gw]
    exact Wi.neqC (fun _ => Wi.tru (hz _ _ (h.to l).le (by simp only [saRes, if_neg g]))) fun e => absurd e (by decide)
  · simp only [gw]
    exact Wi.neqC (fun _ => Wi.tru (hz _ _ (h.to l).le (by simp only [saRes, if_pos (And.intro hp hf), if_neg g]))) fun e => absurd e (by decide)
  · simp only [gw]
    exact Wi.neqC (fun _ => Wi.tru (hz _ _ (h.to l).le (by simp only [saRes, if_pos (And.intro hp hf), if_pos he, g]))) fun e => absurd e (by decide)
  have h := h.add f
  obtain ⟨f1, f2, f3, f4⟩ := tog_facts hf (by omega) g
  have hll : l.length = p.2.1.length := f1.trans he
  have fa := abs7 f4
  have n1 := hp.n1; have nm := hp.nm; have dl := hp.dl
  have hdA : LeA d 10000 := by unfold LeA; omega
  have hsl : (slopesD p d l).length = p.2.1.length := by simp [slopesD]; exact dl
  have hres : saRes p xs = frAll (slopesD p d l) d := by simp only [saRes, if_pos (And.intro hp hf), if_pos he, g]
  simp only [gw]
  refine Wi.neqC (fun e => absurd rfl e) fun _ => Wi.fls (Wl.lit0 RFrac (ty := 47) rfl h fun H y h => ?_)
  refine W.for_rule p.2.1.length (fun i s H => ∃ y, s = (y, .int .i64 (i : Nat), ()) ∧ Ab.Loc H0 [.grow RFrac 47 y (((slopesD p d l).take i).map fun n => (fracT n d).1), .data RS [u] l, .box b [u1, u2, u3, u4], .lent RPrg [u1, u2, u3, u4] p, .lent RSS [u1] p.1, .lent RS [u2] p.2.1, .lent RFS [vx] xs] H ∧ ∀ j (hj : j < (slopesD p d l).length), j < i → (fracT (slopesD p d l)[j] d).2 = 0) ⟨_, rfl, h, fun j _ hj => by omega⟩ ?_
  rintro i s H J hi ⟨y, rfl, h, hok⟩ hJ
  refine Wl.len h (Wi.lssC (fun hlt => Wi.tru ?_) fun hge => Wi.fls ?_)
  · have hic : i < p.2.1.length := by omega
    have his : i < (slopesD p d l).length := by omega
    obtain ⟨s1, s2⟩ := sl_abs hp hdA fa i
    have s1' := s1.i64 (by decide)
    rw [getD_at hic] at s1'
    refine Wi.fieldAddr0 (Wl.get h rfl (Wl.atInt h hic fun _ => Wi.mul s1' ?_))
    rw [← getD_at hic]
    have hsB : B64 (p.2.1.getD i 0 * d + dot (p.1.getD i []) l) := by
      have := s1.add s2
      unfold LeA at this
      unfold B64
      omega
    refine sa_l2 (u1 := u1) (u2 := u2) (u3 := u3) (u4 := u4) h hp hll hdA fa hic (Wi.call (fn60 hsB (by unfold B64; omega) (by omega) fun H l1 => Wi.call (fn59 fun H l2 => ?_)))
    have h := h.to (l1.trans l2)
    have ht : (if isFr 1000000000 (frac (p.2.1.getD i 0 * d + dot (p.1.getD i []) l) d) = true then (frac (p.2.1.getD i 0 * d + dot (p.1.getD i []) l) d, 0) else ((0, 0), 3) : Frac × Int) = fracT (slopesD p d l)[i] d := by rw [slopesD_at]; rfl
    rw [ht]
    simp only [g11, g12]
    refine Wl.new h fun H b3 h => Wl.putA (vs := frC _) h rfl rfl rfl fun H h => Wi.neqC (fun hne => Wi.tru ?_) fun he2 => Wi.fls (Wl.getA h rfl ?_)
    · obtain ⟨e1, e2⟩ := frAll_bad his hne
      rw [e2]
      exact hz _ _ h.le (hres.trans e1)
    · refine Wl.pushP (r := RFrac) (x := (fracT (slopesD p d l)[i] d).1) rfl rfl rfl (frac_rel (fracT_i64 _ _)) h.tl (by simp; omega) fun H u' h => Wi.add (i64_succ (show i ≤ 5 by omega) (Nat.le_refl _)) (hJ _ _ hic ⟨u', rfl, ?_, fun j hj hji => ?_⟩)
      · rw [List.take_succ_eq_append_getElem his, List.map_append]
        exact h
      · by_cases e : j = i
        · subst e; exact he2
        · exact hok j hj (by omega)
  · have : i = p.2.1.length := by omega
    subst this
    rw [← hsl, List.take_length] at h
    have e := frAll_ok fun j hj => hok j hj (by omega)
    have := hQ H y (by rw [hres, e]; exact (h.asData (i := 0) rfl).ret (i := 0) rfl)
    rw [hres, e] at this
    exact this

end Go.Proofs.Ytdbdmlfnggbdiaa
