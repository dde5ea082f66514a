/- The text of the function that tells how many sets a problem has. No condition. -/
import Derived.Test.YtdchibdcfdbcpaaGreatGCC
import Derived.Test.YtdchibdcfdbcpaaGreatGAA
import Derived.Test.YtdchibdcfdbcpaaGreatGBB
import Derived.Test.YtdchibdcfdbcpaaGreatZabG5
import Derived.Test.YtdchibdcfdbcpaaGreatGEE
import Derived.Test.YtdchibdcfdbcpaaGreatGQQ
namespace Go.Proofs.YtdchibdcfdbcpaaGreat
open Go.Ab

/- (loop.example/g01343/impl.Problem).all -/
def f61.w (Q : Post) (p_0 : Value) (H : Heap) : Prop :=
  W.box p_0 62 H fun v1 H =>
  W.fieldAddr 1 v1 H fun v2 H =>
  W.get v2 H fun v3 H =>
  W.len v3 H fun v4 H =>
  W.bin .shl (.int .i64 1) v4 H fun v5 H =>
  Q v5 H
theorem f61.enter {Q : Post} {p_0 : Value} {H : Heap} (h : f61.w Q p_0 H) : Runs Tryz.prog 61 #[p_0] H Q :=
  fn_enter (ann := []) (by kernel_rfl) Tryz.func61 rfl (by kernel_rfl) h (by kernel_rfl)


end Go.Proofs.YtdchibdcfdbcpaaGreat
/-! Contracts of the tests of sets. No condition. -/
namespace Go.Proofs.YtdchibdcfdbcpaaGreat
open Go.Ab



abbrev setOk (n : Nat) (s : Int) : Bool := inR 0 (((2 ^ n : Nat) : Int) - 1) s

theorem pow5 {n : Nat} (h : n ≤ 5) : 2 ^ n ≤ 32 := Nat.pow_le_pow_right (n := 2) (j := 5) (by decide) h

def setC (p : Prob) (s : Int) : Int := if isProb p = true then (if setOk p.2.length s = true then 0 else 2) else 1



end Go.Proofs.YtdchibdcfdbcpaaGreat

/-! Contracts of slices.Grow and slices.Concat, numbers. No condition. -/
namespace Go.Proofs.YtdchibdcfdbcpaaGreat
open Go.Ab

/- slices.Grow[[]int64,int64] -/
def f116.j1 (Q : Post) (s_0' : Value) (H : Heap) : Prop :=
  Q s_0' H
def f116.w (Q : Post) (s_0 : Value) (n_1 : Value) (H : Heap) : Prop :=
  W.bin .lss n_1 (.int .i64 0) H fun v1 H =>
  W.cond v1 H
  (fun H => W.no H)
  (fun H => W.cap s_0 H fun v2 H =>
   W.len s_0 H fun v3 H =>
   W.bin .sub v2 v3 H fun v4 H =>
   W.bin .sub n_1 v4 H fun v5 H =>
   W.bin .gtr v5 (.int .i64 0) H fun v6 H =>
   W.cond v6 H
   (fun H => W.cap s_0 H fun v7 H =>
    W.slice 1 s_0 none (some v7) H fun v8 H =>
    W.appendZ [(.int .i64 0)] 2 v8 v5 H fun v9 H =>
    W.len s_0 H fun v10 H =>
    W.slice 1 v9 none (some v10) H fun v11 H =>
    f116.j1 Q v11 H)
   (fun H => f116.j1 Q s_0 H))
theorem f116.enter {Q : Post} {s_0 : Value} {n_1 : Value} {H : Heap} (h : f116.w Q s_0 n_1 H) : Runs Tryz.prog 116 #[s_0, n_1] H Q :=
  fn_enter (ann := []) (by kernel_rfl) Tryz.func116 rfl (by kernel_rfl) h (by kernel_rfl)

/- slices.Concat[[]int64,int64] -/
def f83.l2 (Q : Post) (v10 : Value) (slices_0 : Value) (I2 : St [6, 27] → Heap → Prop) (newslice_6 : Value) (x_27 : Value) (H : Heap) : Prop :=
  W.bin .lss x_27 v10 H fun v11 H =>
  W.cond v11 H
  (fun H => W.indexAddr 1 slices_0 x_27 H fun v12 H =>
   W.get v12 H fun v13 H =>
   W.append 1 2 newslice_6 v13 H fun v14 H =>
   W.bin .add x_27 (.int .i64 1) H fun v15 H =>
   I2 (v14, v15, ()) H)
  (fun H => Q newslice_6 H)
def f83.l1 (Q : Post) (v1 : Value) (slices_0 : Value) (I1 : St [3, 11] → Heap → Prop) (size_3 : Value) (x_11 : Value) (H : Heap) : Prop :=
  W.bin .lss x_11 v1 H fun v2 H =>
  W.cond v2 H
  (fun H => W.indexAddr 1 slices_0 x_11 H fun v3 H =>
   W.get v3 H fun v4 H =>
   W.len v4 H fun v5 H =>
   W.bin .add size_3 v5 H fun v6 H =>
   W.bin .lss v6 (.int .i64 0) H fun v7 H =>
   W.cond v7 H
   (fun H => W.no H)
   (fun H => W.bin .add x_11 (.int .i64 1) H fun v8 H =>
    I1 (v6, v8, ()) H))
  (fun H => W.call Tryz.prog (.func (.func 116) #[] #[]) #[(.slice none 0 0), size_3] H fun v9 H =>
   W.len slices_0 H fun v10 H =>
   W.loop (S := St [6, 27]) (fun I2 s H => f83.l2 Q v10 slices_0 I2 s.1 s.2.1 H) (v9, (.int .i64 0), ()) H)
def f83.w (Q : Post) (slices_0 : Value) (H : Heap) : Prop :=
  W.len slices_0 H fun v1 H =>
  W.loop (S := St [3, 11]) (fun I1 s H => f83.l1 Q v1 slices_0 I1 s.1 s.2.1 H) ((.int .i64 0), (.int .i64 0), ()) H
theorem f83.enter {Q : Post} {slices_0 : Value} {H : Heap} (h : f83.w Q slices_0 H) : Runs Tryz.prog 83 #[slices_0] H Q :=
  fn_enter (ann := [(3, [3, 11]), (11, [6, 27])]) (by kernel_rfl) Tryz.func83 rfl (by kernel_rfl) h (by kernel_rfl)


theorem grow116 : GrowF Tryz.prog 116 [.int .i64 0] 1 2 := fun _ _ _ _ h => f116.enter h
theorem concat83 : ConcatF Tryz.prog 83 Rd.int 2 := fun _ _ _ _ h hl hQ =>
  f83.enter (concat_ok (r := Rd.int) (n1 := 3) (n2 := 11) (n3 := 6) (n4 := 27) grow116 rfl rfl h hl hQ)

end Go.Proofs.YtdchibdcfdbcpaaGreat

/-! Numbers times -1. No condition. -/
namespace Go.Proofs.YtdchibdcfdbcpaaGreat
open Go.Ab

/- loop.example/g01343/impl.negative -/
def f52.l1 (Q : Post) (v2 : Value) (v1 : Value) (I1 : St [10] → Heap → Prop) (x_10 : Value) (H : Heap) : Prop :=
  W.bin .lss x_10 v2 H fun v3 H =>
  W.cond v3 H
  (fun H => W.indexAddr 1 v1 x_10 H fun v4 H =>
   W.get v4 H fun v5 H =>
   W.un .neg v5 H fun v6 H =>
   W.indexAddr 1 v1 x_10 H fun v7 H =>
   W.put v7 v6 H fun _ H =>
   W.bin .add x_10 (.int .i64 1) H fun v8 H =>
   I1 (v8, ()) H)
  (fun H => Q v1 H)
def f52.w (Q : Post) (list_0 : Value) (H : Heap) : Prop :=
  W.call Tryz.prog (.func (.func 74) #[] #[]) #[list_0] H fun v1 H =>
  W.len v1 H fun v2 H =>
  W.loop (S := St [10]) (fun I1 s H => f52.l1 Q v2 v1 I1 s.1 H) ((.int .i64 0), ()) H
theorem f52.enter {Q : Post} {list_0 : Value} {H : Heap} (h : f52.w Q list_0 H) : Runs Tryz.prog 52 #[list_0] H Q :=
  fn_enter (ann := [(3, [10])]) (by kernel_rfl) Tryz.func52 rfl (by kernel_rfl) h (by kernel_rfl)


theorem fn52 {H0 : Heap} {Q : Post} {v : Value} {xs : List Int} (hr : Has RS H0 [v] xs) (hlen : xs.length ≤ 16777216) (hx : ∀ x ∈ xs, I64 (-x)) (hQ : ∀ H' u, Fresh RS H0 [u] (neg xs) H' → Q u H') : Runs Tryz.prog 52 #[v] H0 Q := by
  refine f52.enter (Wi.call (fn74 hr hlen fun H u f => ?_))
  have h := (Loc.start H0).add f.fresh
  refine Wl.len h (W.for_rule xs.length (fun i s H => s = (.int .i64 (i : Nat), ()) ∧ Ab.Loc H0 [.data RS [u] (mapTo (fun _ x => -x) xs i)] H) ⟨rfl, by rw [mapTo_zero]; exact h⟩ ?_)
  rintro i s H J hi ⟨rfl, h⟩ hJ
  refine Wi.lssC (fun hlt => Wi.tru ?_) fun hge => Wi.fls ?_
  · have hix : i < xs.length := by omega
    have hl := mapTo_length (fun _ x => -x) xs i
    refine Wl.atInt h (by omega) fun _ => ?_
    rw [mapTo_get hix]
    refine Wi.neg (hx _ (List.getElem_mem hix)) (Wl.setInt h (by omega) (hx _ (List.getElem_mem hix)) fun H h => Wi.add (by unfold I64; omega) (hJ _ _ hix ⟨rfl, ?_⟩))
    rw [← mapTo_succ hix]
    exact h
  · have : i = xs.length := by omega
    subst this
    rw [mapTo_all, neg_idx] at h
    exact hQ _ _ (h.ret (i := 0) rfl)

end Go.Proofs.YtdchibdcfdbcpaaGreat

/-! Contracts of the program's problem and ProgramProblem. No condition. -/
namespace Go.Proofs.YtdchibdcfdbcpaaGreat
open Go.Ab

/- (loop.example/g01343/impl.Program).problem -/
def f60.l2 (Q : Post) (v8 : Value) (v1 : Value) (x_26 : Value) (v17 : Value) (I1 : St [26] → Heap → Prop) (I2 : St [7, 36] → Heap → Prop) (row_7 : Value) (x_36 : Value) (H : Heap) : Prop :=
  W.bin .lss x_36 v8 H fun v24 H =>
  W.cond v24 H
  (fun H => W.fieldAddr 2 v1 H fun v25 H =>
   W.get v25 H fun v26 H =>
   W.indexAddr 1 v26 x_36 H fun v27 H =>
   W.get v27 H fun v28 H =>
   W.indexAddr 1 v28 x_26 H fun v29 H =>
   W.get v29 H fun v30 H =>
   W.un .neg v30 H fun v31 H =>
   W.lit 1 [(.int .i64 0)] 2 [(0, 1, v31)] H fun v32 H =>
   W.append 1 2 row_7 v32 H fun v33 H =>
   W.bin .add x_36 (.int .i64 1) H fun v34 H =>
   I2 (v33, v34, ()) H)
  (fun H => W.fieldAddr 0 v17 H fun v35 H =>
   W.get v35 H fun v36 H =>
   W.lit 1 [(.slice none 0 0)] 25 [(0, 1, row_7)] H fun v37 H =>
   W.append 1 25 v36 v37 H fun v38 H =>
   W.fieldAddr 0 v17 H fun v39 H =>
   W.put v39 v38 H fun _ H =>
   W.bin .add x_26 (.int .i64 1) H fun v40 H =>
   I1 (v40, ()) H)
def f60.l3 (Q : Post) (v43 : Value) (v42 : Value) (v17 : Value) (v8 : Value) (v2 : Value) (I3 : St [62] → Heap → Prop) (x_62 : Value) (H : Heap) : Prop :=
  W.bin .lss x_62 v43 H fun v44 H =>
  W.cond v44 H
  (fun H => W.indexAddr 1 v42 x_62 H fun v45 H =>
   W.get v45 H fun v46 H =>
   W.fieldAddr 0 v17 H fun v47 H =>
   W.get v47 H fun v48 H =>
   W.callQ Tryz.prog (.func (.func 74) #[] #[]) #[v46] H fun v49 H =>
   W.appendZ [(.int .i64 0)] 2 v49 v8 H fun v50 H =>
   W.chk (fun H k => W.get v47 H k) v48 H (W.lit 1 [(.slice none 0 0)] 25 [(0, 1, v50)] H fun v51 H =>
   W.append 1 25 v48 v51 H fun v52 H =>
   W.fieldAddr 0 v17 H fun v53 H =>
   W.put v53 v52 H fun _ H =>
   W.bin .add x_62 (.int .i64 1) H fun v54 H =>
   I3 (v54, ()) H))
  (fun H => W.getN 2 v17 H fun v55 H =>
   W.putN 2 v2 v55 H fun _ H =>
   W.getN 2 v2 H fun v56 H => Q v56 H)
def f60.l1 (Q : Post) (v5 : Value) (v1 : Value) (v8 : Value) (v17 : Value) (v2 : Value) (I1 : St [26] → Heap → Prop) (x_26 : Value) (H : Heap) : Prop :=
  W.bin .lss x_26 v5 H fun v18 H =>
  W.cond v18 H
  (fun H => W.fieldAddr 0 v1 H fun v19 H =>
   W.get v19 H fun v20 H =>
   W.indexAddr 1 v20 x_26 H fun v21 H =>
   W.get v21 H fun v22 H =>
   W.call Tryz.prog (.func (.func 74) #[] #[]) #[v22] H fun v23 H =>
   W.loop (S := St [7, 36]) (fun I2 s H => f60.l2 Q v8 v1 x_26 v17 I1 I2 s.1 s.2.1 H) (v23, (.int .i64 0), ()) H)
  (fun H => W.fieldAddr 2 v1 H fun v41 H =>
   W.get v41 H fun v42 H =>
   W.len v42 H fun v43 H =>
   W.loop (S := St [62]) (fun I3 s H => f60.l3 Q v43 v42 v17 v8 v2 I3 s.1 H) ((.int .i64 0), ()) H)
def f60.w (Q : Post) (p_0 : Value) (H : Heap) : Prop :=
  W.box p_0 27 H fun v1 H =>
  W.new [(.slice none 0 0), (.slice none 0 0)] 62 H fun v2 H =>
  W.fieldAddr 1 v1 H fun v3 H =>
  W.get v3 H fun v4 H =>
  W.len v4 H fun v5 H =>
  W.fieldAddr 3 v1 H fun v6 H =>
  W.get v6 H fun v7 H =>
  W.len v7 H fun v8 H =>
  W.fieldAddr 1 v1 H fun v9 H =>
  W.get v9 H fun v10 H =>
  W.fieldAddr 3 v1 H fun v11 H =>
  W.get v11 H fun v12 H =>
  W.callQ Tryz.prog (.func (.func 52) #[] #[]) #[v12] H fun v13 H =>
  W.lit 2 [(.slice none 0 0)] 25 [(0, 1, v10), (1, 1, v13)] H fun v14 H =>
  W.callQ Tryz.prog (.func (.func 83) #[] #[]) #[v14] H fun v15 H =>
  W.build [(.slice none 0 0), (.slice none 0 0)] [(1, 1, v15)] H fun v16 H =>
  W.new [(.slice none 0 0), (.slice none 0 0)] 62 H fun v17 H =>
  W.putN 2 v17 v16 H fun _ H =>
  W.loop (S := St [26]) (fun I1 s H => f60.l1 Q v5 v1 v8 v17 v2 I1 s.1 H) ((.int .i64 0), ()) H
theorem f60.enter {Q : Post} {p_0 : Value} {H : Heap} (h : f60.w Q p_0 H) : Runs Tryz.prog 60 #[p_0] H Q :=
  fn_enter (ann := [(4, [26]), (8, [7, 36]), (15, [62])]) (by kernel_rfl) Tryz.func60 rfl (by kernel_rfl) h (by kernel_rfl)

/- loop.example/g01343/impl.ProgramProblem -/
def f35.w (Q : Post) (p_0 : Value) (H : Heap) : Prop :=
  W.box p_0 27 H fun v1 H =>
  W.new [(.slice none 0 0), (.slice none 0 0)] 62 H fun v2 H =>
  W.getN 4 v1 H fun v3 H =>
  W.call Tryz.prog (.func (.func 28) #[] #[]) #[v3] H fun v4 H =>
  W.un .not v4 H fun v5 H =>
  W.cond v5 H
  (fun H => W.build [(.slice none 0 0), (.slice none 0 0)] [] H fun v6 H =>
   W.putN 2 v2 v6 H fun _ H =>
   W.getN 2 v2 H fun v7 H => Q (.tuple #[v7, (.int .i64 1)]) H)
  (fun H => W.getN 4 v1 H fun v8 H =>
   W.call Tryz.prog (.func (.func 60) #[] #[]) #[v8] H fun v9 H =>
   W.putN 2 v2 v9 H fun _ H =>
   W.getN 2 v2 H fun v10 H => Q (.tuple #[v10, (.int .i64 0)]) H)
theorem f35.enter {Q : Post} {p_0 : Value} {H : Heap} (h : f35.w Q p_0 H) : Runs Tryz.prog 35 #[p_0] H Q :=
  fn_enter (ann := []) (by kernel_rfl) Tryz.func35 rfl (by kernel_rfl) h (by kernel_rfl)


theorem fn60 {H0 : Heap} {Q : Post} {cs : List Value} {p : Prg} (hr : Has RPrg H0 cs p) (hp : IsPrg p) (hQ : ∀ H' w1 w2, Fresh RProblem H0 [w1, w2] (prgProblem p) H' → Q (.agg #[w1, w2]) H') :
    Runs Tryz.prog 60 #[.agg cs.toArray] H0 Q := by
  obtain ⟨u1, u2, u3, u4, rfl, r1, r2, r3, r4⟩ := hasPrg hr
  have n1 := hp.n1; have nm := hp.nm; have dl := hp.dl; have al := hp.al
  have nb : ∀ x ∈ p.2.2.2, I64 (-x) := fun x hx => by have := hp.b x hx; unfold I64; omega
  refine f60.enter ?_
  unfold f60.w
  have h := ((((Loc.start H0).lent r1).lent r2).lent r3).lent r4
  refine Wl.box h fun H b h => Wl.new h fun H b2 h => Wi.fieldAddr0 (Wl.get h rfl (Wl.len h (Wi.fieldAddr0 (Wl.get h rfl (Wl.len h (Wi.fieldAddr0 (Wl.get h rfl (Wi.fieldAddr0 (Wl.get h rfl (Wi.callQ (fn52 h.rd (by omega) nb fun H w f => ⟨f.le, ?_⟩)))))))))))
  have h := h.add f
  -- the right side
  obtain ⟨bs2, q2⟩ := h.rd (cs := [u2])
  obtain ⟨bsw, qw⟩ := f.read
  have e2 := Has.one ⟨_, q2⟩
  have ew := Has.one ⟨_, qw⟩
  refine Wi.lit (cells := [u2, w]) (by simp [fillA, e2, ew, reps]) fun H1 l1 n1' k1 => ?_
  have h := h.to l1
  have hv : Has (Rd.slice RS) H1 [.slice (some (adr _ 0)) 2 (2 * 2)] [p.2.1, neg p.2.2.2] := ⟨_, .inr ⟨_, 0, _, _, fun i => if i = 0 then bs2 else bsw, rfl, rfl, ⟨by omega, k1, by simp, by simp, by simp [Rd.slice], fun i hi => by
    match i, hi with
    | 0, _ => exact Rd.le _ q2 l1
    | 1, _ => exact Rd.le _ qw l1⟩⟩⟩
  refine Wi.callQ (concat83 _ _ [p.2.1, neg p.2.2.2] _ hv (by simp [neg]; omega) fun H w2 j => ⟨j.le, ?_⟩)
  have eF : ([p.2.1, neg p.2.2.2] : List (List Int)).flatten = p.2.1 ++ neg p.2.2.2 := by simp
  rw [eF] at j
  have h := (h.add j.plain.fresh).nilG RS 25
  have k2 := j.plain.fresh.read
  refine Wi.build (cells := [.slice none 0 0, w2]) (by simp [fillA, k2.one]) (Wl.new h fun H b3 h => Wl.putA h rfl rfl (by have := k2.cell; simpa [isCell] using this) fun H h => ?_)
  have kall : ∀ (g : Value) (H : Heap) (xs : List (List Int)), Has RSS H [g] xs → [g, w2].all isCell = true := fun g H xs hg => by
    have k1 := hg.cell
    have k3 := k2.cell
    simp only [List.all_cons, List.all_nil, Bool.and_true] at k1 k3 ⊢
    rw [k1, k3]
    rfl
  refine W.for_rule p.2.1.length (fun i s H => ∃ g, s = (.int .i64 (i : Nat), ()) ∧ Ab.Loc H0 [.box b3 [g, w2], .grow RS 25 g (prgTop p i), .data RS [w2] (p.2.1 ++ neg p.2.2.2), .data RS [w] (neg p.2.2.2), .box b2 [.slice none 0 0, .slice none 0 0], .box b [u1, u2, u3, u4], .lent RS [u4] p.2.2.2, .lent RSS [u3] p.2.2.1, .lent RS [u2] p.2.1, .lent RSS [u1] p.1] H) ⟨_, rfl, h⟩ ?_
  rintro i s H J hi ⟨g, rfl, h⟩ hJ
  refine Wi.lssC (fun hlt => Wi.tru ?_) fun hge => Wi.fls ?_
  · have hix : i < p.1.length := by omega
    have hd := hp.d _ (List.getElem_mem hix)
    refine Wi.fieldAddr0 (Wl.get h rfl (Wl.at1 rfl h hix fun v hv => Wi.call (fn74 hv (by omega) fun H r f => ?_)))
    have h := h.addG f
    refine W.for_rule p.2.2.2.length (fun j s H => ∃ r, s = (r, .int .i64 (j : Nat), ()) ∧ Ab.Loc H0 [.grow Rd.int 2 r (p.1[i] ++ (List.range j).map fun j => -((p.2.2.1.getD j []).getD i 0)), .box b3 [g, w2], .grow RS 25 g (prgTop p i), .data RS [w2] (p.2.1 ++ neg p.2.2.2), .data RS [w] (neg p.2.2.2), .box b2 [.slice none 0 0, .slice none 0 0], .box b [u1, u2, u3, u4], .lent RS [u4] p.2.2.2, .lent RSS [u3] p.2.2.1, .lent RS [u2] p.2.1, .lent RSS [u1] p.1] H)
      ⟨r, rfl, by simpa using h⟩ ?_
    rintro j s H J2 hj ⟨r, rfl, h⟩ hJ2
    refine Wi.lssC (fun hlt2 => Wi.tru ?_) fun hge2 => Wi.fls ?_
    · have hja : j < p.2.2.1.length := by omega
      have ha := hp.a _ (List.getElem_mem hja)
      have hia : i < p.2.2.1[j].length := by omega
      have hx := ha.2 _ (List.getElem_mem hia)
      have hn : I64 (-p.2.2.1[j][i]) := by unfold I64; omega
      refine Wi.fieldAddr0 (Wl.get h rfl (Wl.at1 rfl h hja fun v hv => Wl.atIntH hv hia fun _ => Wi.neg hn (Wl.pushP (r := Rd.int) (x := -p.2.2.1[j][i]) rfl rfl rfl (fun _ => ⟨rfl, rfl, hn⟩) h (by simp; omega) fun H r' h => Wi.add (by unfold I64; omega) (hJ2 _ _ (by omega) ⟨r', rfl, ?_⟩))))
      rw [List.range_succ, List.map_append]
      simp only [List.map_cons, List.map_nil]
      rw [show (p.2.2.1.getD j []).getD i 0 = p.2.2.1[j][i] by simp [List.getD_eq_getElem?_getD, List.getElem?_eq_getElem hja, List.getElem?_eq_getElem hia], ← List.append_assoc]
      exact h
    · have : j = p.2.2.2.length := by omega
      subst this
      refine Wi.fieldAddr0 (Wl.get h rfl (Wl.pushG h (by rw [prgTop_len]; omega) fun H g' h => Wi.fieldAddr0 (Wl.put h (h.rd (cs := [g'])).cell1 (by simp) fun H h => Wi.add (by unfold I64; omega) (hJ _ _ (by omega) ⟨g', rfl, ?_⟩))))
      rw [prgTop_succ, show p.1.getD i [] = p.1[i] by simp [List.getD_eq_getElem?_getD, List.getElem?_eq_getElem hix]]
      exact h
  · have : i = p.2.1.length := by omega
    subst this
    refine Wi.fieldAddr0 (Wl.get h rfl (Wl.len h ?_))
    refine W.for_rule p.2.2.1.length (fun j s H => ∃ g, s = (.int .i64 (j : Nat), ()) ∧ Ab.Loc H0 [.box b3 [g, w2], .grow RS 25 g (prgTop p p.2.1.length ++ prgLow p j), .data RS [w2] (p.2.1 ++ neg p.2.2.2), .data RS [w] (neg p.2.2.2), .box b2 [.slice none 0 0, .slice none 0 0], .box b [u1, u2, u3, u4], .lent RS [u4] p.2.2.2, .lent RSS [u3] p.2.2.1, .lent RS [u2] p.2.1, .lent RSS [u1] p.1] H) ⟨g, rfl, by simpa [prgLow] using h⟩ ?_
    rintro j s H J2 hj ⟨g, rfl, h⟩ hJ2
    refine Wi.lssC (fun hlt2 => Wi.tru ?_) fun hge2 => Wi.fls ?_
    · have hja : j < p.2.2.1.length := by omega
      have ha := hp.a _ (List.getElem_mem hja)
      refine Wl.at1 rfl h hja fun v hv => Wi.fieldAddr0 (Wl.get h rfl (Wi.callQ (fn74 hv (by omega) fun H r f => ⟨f.le, ?_⟩)))
      have h := h.addG f
      have l1 := prgTop_len p p.2.1.length
      have l2 := prgLow_len p j
      refine Wl.appendZ (r := Rd.int) (z := 0) (fun _ => ⟨rfl, rfl, by unfold I64; omega⟩) h (by omega) fun H r' h => Wi.chk (Wl.get h rfl ⟨rfl, rfl⟩) <| Wl.pushG h (by simp; omega) fun H g' h => Wi.fieldAddr0 (Wl.put h (h.rd (cs := [g'])).cell1 (by simp) fun H h => Wi.add (by unfold I64; omega) (hJ2 _ _ (by omega) ⟨g', rfl, ?_⟩))
      rw [prgLow_succ p hja, ← List.append_assoc]
      exact h
    · have : j = p.2.2.1.length := by omega
      subst this
      refine Wl.getA h rfl (Wl.putA h rfl rfl (kall _ _ _ (h.rd (cs := [g]))) fun H h => Wl.getA h rfl (hQ _ _ _ ?_))
      exact (h.asData (i := 1) rfl).ret2 (i := 1) (j := 2) rfl rfl (by omega)

theorem fn35 {H0 : Heap} {Q : Post} {cs : List Value} {p : Prg} (hr : Has RPrg H0 cs p) (hw : wPrg p ≤ 1048576) (hQ : ∀ H' cs', Fresh RProblem H0 cs' (ppRes p).1 H' → Q (.tuple #[.agg cs'.toArray, .int .i64 (ppRes p).2]) H') :
    Runs Tryz.prog 35 #[.agg cs.toArray] H0 Q := by
  refine f35.enter ?_
  unfold f35.w
  have h := (Loc.start H0).lent hr
  have hl := hr.len
  refine Wl.box h fun H b h => Wl.new h fun H b2 h => Wl.getA h hl (Wi.call (fn28 h.rd hw fun H t l ht => ?_))
  have h := h.to l
  cases t with
  | false =>
    simp only [g7, g10]
    refine Wi.build (cells := [.slice none 0 0, .slice none 0 0]) rfl (Wl.putA h rfl rfl rfl fun H h => Wl.getA h rfl ?_)
    have hp : ¬ IsPrg p := fun g => Bool.noConfusion (ht.2 g)
    have := hQ H [.slice none 0 0, .slice none 0 0]
    simp only [ppRes, if_neg hp] at this
    exact this (fresh_nil2 h.le)
  | true =>
    have hp := ht.1 rfl
    simp only [g8, g9]
    refine Wl.getA h hl (Wi.call (fn60 h.rd hp fun H w1 w2 f => ?_))
    have h := h.add f
    refine Wl.putA (vs := [w1, w2]) h rfl rfl f.read.cell fun H h => Wl.getA h rfl ?_
    have := hQ H [w1, w2]
    simp only [ppRes, if_pos hp] at this
    exact this (h.ret (i := 0) rfl)

end Go.Proofs.YtdchibdcfdbcpaaGreat

/-! The contract of the program's MinimumOf. No condition. -/
namespace Go.Proofs.YtdchibdcfdbcpaaGreat
open Go.Ab

/- loop.example/g01343/impl.MinimumOf -/
def f10.l1 (Q : Post) (v20 : Value) (v18 : Value) (v2 : Value) (v1 : Value) (v17 : Value) (I1 : St [33] → Heap → Prop) (x_33 : Value) (H : Heap) : Prop :=
  W.bin .lss x_33 v20 H fun v21 H =>
  W.cond v21 H
  (fun H => W.getN 2 v18 H fun v22 H =>
   W.call Tryz.prog (.func (.func 62) #[] #[]) #[v22, x_33] H fun v23 H =>
   W.extract 0 v23 H fun v24 H =>
   W.extract 1 v23 H fun v25 H =>
   W.extract 2 v23 H fun v26 H =>
   W.un .not v26 H fun v27 H =>
   W.guarded v27 false (fun H k => k v24 H) H fun v28 H =>
   W.guarded v27 false (fun H k => W.call Tryz.prog (.func (.func 63) #[] #[]) #[v28] H k) H fun v29 H =>
   W.guarded v27 false (fun H k => W.un .not v29 H k) H fun v30 H =>
   W.pick v27 (.bool true) v30 H fun v31 H =>
   W.cond v31 H
   (fun H => W.bin .add x_33 (.int .i64 1) H fun v32 H =>
    I1 (v32, ()) H)
   (fun H => W.call Tryz.prog (.func (.func 64) #[] #[]) #[v24, x_33] H fun v33 H =>
    W.call Tryz.prog (.func (.func 65) #[] #[]) #[v33, v25] H fun v34 H =>
    W.extract 0 v34 H fun v35 H =>
    W.extract 1 v34 H fun v36 H =>
    W.bin .neq v36 (.int .i64 0) H fun v37 H =>
    W.cond v37 H
    (fun H => W.build [(.int .i64 0), (.int .i64 0)] [] H fun v38 H =>
     W.putN 2 v2 v38 H fun _ H =>
     W.getN 2 v2 H fun v39 H => Q (.tuple #[(.slice none 0 0), (.slice none 0 0), v39, v36]) H)
    (fun H => W.fieldAddr 1 v1 H fun v40 H =>
     W.get v40 H fun v41 H =>
     W.slice 1 v33 none (some v17) H fun v42 H =>
     W.callQ Tryz.prog (.func (.func 67) #[] #[]) #[v41, v42] H fun v43 H =>
     W.fieldAddr 3 v1 H fun v44 H =>
     W.get v44 H fun v45 H =>
     W.slice 1 v33 (some v17) none H fun v46 H =>
     W.callQ Tryz.prog (.func (.func 67) #[] #[]) #[v45, v46] H fun v47 H =>
     W.bin .add v43 v47 H fun v48 H =>
     W.bin .mul (.int .i64 2) v25 H fun v49 H =>
     W.callQ Tryz.prog (.func (.func 66) #[] #[]) #[v48, v49] H fun v50 H =>
     W.extract 0 v50 H fun v51 H =>
     W.extract 1 v50 H fun v52 H =>
     W.new [(.int .i64 0), (.int .i64 0)] 34 H fun v53 H =>
     W.putN 2 v53 v51 H fun _ H =>
     W.bin .neq v52 (.int .i64 0) H fun v54 H =>
     W.cond v54 H
     (fun H => W.build [(.int .i64 0), (.int .i64 0)] [] H fun v55 H =>
      W.putN 2 v2 v55 H fun _ H =>
      W.getN 2 v2 H fun v56 H => Q (.tuple #[(.slice none 0 0), (.slice none 0 0), v56, v52]) H)
     (fun H => W.slice 2 v35 none (some v17) H fun v57 H =>
      W.callQ Tryz.prog (.func (.func 68) #[] #[]) #[v57] H fun v58 H =>
      W.slice 2 v35 (some v17) none H fun v59 H =>
      W.callQ Tryz.prog (.func (.func 68) #[] #[]) #[v59] H fun v60 H =>
      W.getN 2 v53 H fun v61 H =>
      W.putN 2 v2 v61 H fun _ H =>
      W.getN 2 v2 H fun v62 H => Q (.tuple #[v58, v60, v62, (.int .i64 0)]) H))))
  (fun H => W.build [(.int .i64 0), (.int .i64 0)] [] H fun v63 H =>
   W.putN 2 v2 v63 H fun _ H =>
   W.getN 2 v2 H fun v64 H => Q (.tuple #[(.slice none 0 0), (.slice none 0 0), v64, (.int .i64 4)]) H)
def f10.w (Q : Post) (p_0 : Value) (H : Heap) : Prop :=
  W.box p_0 27 H fun v1 H =>
  W.new [(.int .i64 0), (.int .i64 0)] 34 H fun v2 H =>
  W.getN 4 v1 H fun v3 H =>
  W.call Tryz.prog (.func (.func 28) #[] #[]) #[v3] H fun v4 H =>
  W.un .not v4 H fun v5 H =>
  W.cond v5 H
  (fun H => W.build [(.int .i64 0), (.int .i64 0)] [] H fun v6 H =>
   W.putN 2 v2 v6 H fun _ H =>
   W.getN 2 v2 H fun v7 H => Q (.tuple #[(.slice none 0 0), (.slice none 0 0), v7, (.int .i64 1)]) H)
  (fun H => W.getN 4 v1 H fun v8 H =>
   W.call Tryz.prog (.func (.func 59) #[] #[]) #[v8] H fun v9 H =>
   W.un .not v9 H fun v10 H =>
   W.cond v10 H
   (fun H => W.build [(.int .i64 0), (.int .i64 0)] [] H fun v11 H =>
    W.putN 2 v2 v11 H fun _ H =>
    W.getN 2 v2 H fun v12 H => Q (.tuple #[(.slice none 0 0), (.slice none 0 0), v12, (.int .i64 5)]) H)
   (fun H => W.getN 4 v1 H fun v13 H =>
    W.callQ Tryz.prog (.func (.func 60) #[] #[]) #[v13] H fun v14 H =>
    W.fieldAddr 1 v1 H fun v15 H =>
    W.get v15 H fun v16 H =>
    W.len v16 H fun v17 H =>
    W.new [(.slice none 0 0), (.slice none 0 0)] 62 H fun v18 H =>
    W.putN 2 v18 v14 H fun _ H =>
    W.chk (fun H k => W.get v15 H k) v16 H (W.getN 2 v18 H fun v19 H =>
    W.call Tryz.prog (.func (.func 61) #[] #[]) #[v19] H fun v20 H =>
    W.loop (S := St [33]) (fun I1 s H => f10.l1 Q v20 v18 v2 v1 v17 I1 s.1 H) ((.int .i64 0), ()) H)))
theorem f10.enter {Q : Post} {p_0 : Value} {H : Heap} (h : f10.w Q p_0 H) : Runs Tryz.prog 10 #[p_0] H Q :=
  fn_enter (ann := [(7, [33])]) (by kernel_rfl) Tryz.func10 rfl (by kernel_rfl) h (by kernel_rfl)


theorem frAll_full {l : List Int} {d : Int} (h : (frAll l d).2 = 0) : (frAll l d).1.length = l.length := by
  unfold frAll at h ⊢
  split
  · simp
  · rename_i g
    rw [if_neg g] at h
    cases h

theorem fn10 {H0 : Heap} {Q : Post} {cs : List Value} {g : Prg} (hr : Has RPrg H0 cs g) (hw : wPrg g ≤ 1048576)
    (hQ : ∀ H' u w, Fresh (RFS.pair RFS) H0 [u, w] ((moRes g).1, (moRes g).2.1) H' → Q (.tuple #[u, w, .agg (frC (moRes g).2.2.1).toArray, .int .i64 (moRes g).2.2.2]) H') : Runs Tryz.prog 10 #[.agg cs.toArray] H0 Q := by
  obtain ⟨u1, u2, u3, u4, rfl, r1, r2, r3, r4⟩ := hasPrg hr
  have hz : ∀ H c, H0.Le H → moRes g = ([], [], (0, 0), c) → Q (.tuple #[.slice none 0 0, .slice none 0 0, .agg (frC (0, 0)).toArray, .int .i64 c]) H := fun H c l e => by
    have := hQ H (.slice none 0 0) (.slice none 0 0) (by rw [e]; exact fresh_nil2 l)
    rw [e] at this
    exact this
  have h := ((((Loc.start H0).lent r2).lent r4).lent hr)
  refine f10.enter ?_
  unfold f10.w
  refine Wl.box h fun H b h => Wl.new h fun H b2 h => Wl.getA h rfl (Wi.call (fn28 (h.rd (cs := [u1, u2, u3, u4])) hw fun H t l ht => ?_))
  have h := h.to l
  cases t with
  | false =>
    simp only [gw]
    exact Wi.build (cells := frC (0, 0)) rfl (Wl.putA h rfl rfl rfl fun H h => Wl.getA h rfl (hz _ _ h.le (by unfold moRes; rw [if_neg (fun g => Bool.noConfusion (ht.2 g))])))
  | true =>
  have hp := ht.1 rfl
  simp only [gw]
  refine Wl.getA h rfl (Wi.call (fn59 (h.rd (cs := [u1, u2, u3, u4])) hp fun H l => ?_))
  have h := h.to l
  cases hc : semiL g.2.1.length g.1 with
  | false =>
    simp only [gw]
    exact Wi.build (cells := frC (0, 0)) rfl (Wl.putA h rfl rfl rfl fun H h => Wl.getA h rfl (hz _ _ h.le (by unfold moRes; rw [if_pos hp, if_neg (by rw [hc]; exact Bool.false_ne_true)])))
  | true =>
  simp only [gw]
  have hpb := prg_pb hp
  have hn := hpb.n5
  have hql := hpb.ql
  have h32 := pow5 hn
  have n1 := hp.n1
  refine Wl.getA h rfl (Wi.callQ (fn60 (h.rd (cs := [u1, u2, u3, u4])) hp fun H w1 w2 f => ⟨f.le, ?_⟩))
  have h := h.add f
  refine Wi.fieldAddr (Wl.get h rfl (Wl.len h (Wl.new h fun H b3 h => Wl.putA h rfl (h.rd (cs := [w1, w2])).len (h.rd (cs := [w1, w2])).cell fun H h => Wi.chk (Wl.get h rfl ⟨rfl, rfl⟩) (Wl.getA h rfl ?_))))
  refine Wi.call (f61.enter (Wl.box h fun H b4 h => Wi.fieldAddr (Wl.get h rfl ?_)))
  obtain ⟨y1, y2, ey, _, q2⟩ := hasProb (h.rd (cs := [w1, w2]))
  cases ey
  refine Wl.lenH q2 (Wi.shl1 (by omega) ?_)
  have h := h.tl
  rw [hql]
  have hsome := fun x => moRes_some (g := g) (s := x) hp hc
  have hnone := moRes_none (g := g) hp hc
  change (∀ x, x < 2 ^ (g.2.1.length + g.2.2.2.length) → _) at hsome
  change ((∀ j, j < 2 ^ (g.2.1.length + g.2.2.2.length) → _) → _) at hnone
  generalize hN : 2 ^ (g.2.1.length + g.2.2.2.length) = N at *
  refine W.for_rule N (fun x st H => st = (.int .i64 (x : Nat), ()) ∧ Ab.Loc H0 [.box b3 [w1, w2], .data RProblem [w1, w2] (prgProblem g), .box b2 [.int .i64 0, .int .i64 0], .box b [u1, u2, u3, u4], .lent RPrg [u1, u2, u3, u4] g, .lent RS [u4] g.2.2.2, .lent RS [u2] g.2.1] H ∧ ∀ j, j < x → mcB (nOf g) (prgProblem g) j = false) ⟨rfl, h, fun j hj => by omega⟩ ?_
  rintro x st H J hx ⟨rfl, h, hbef⟩ hJ
  refine Wi.lssC (fun hlt => Wi.tru ?_) fun hge => Wi.fls ?_
  · have hxN : x < N := by omega
    have hI : I64 ((x : Int) + 1) := by unfold I64; omega
    have next : mcB (nOf g) (prgProblem g) x = false → ∀ j, j < x + 1 → mcB (nOf g) (prgProblem g) j = false := fun hm j hj => by
      by_cases e : j = x
      · subst e; exact hm
      · exact hbef j (by omega)
    refine Wl.getA h rfl (Wi.call (fn62 (h.rd (cs := [w1, w2])) hpb (by omega) (fun hz0 H l => ?_) fun hnz H w f => ?_))
    · have h := h.to l
      simp only [gw]
      exact Wi.add hI (hJ _ _ hxN ⟨rfl, h, next (mcB_no hz0)⟩)
    · have h := h.add f
      simp only [gw]
      refine Wi.call (fn63 (h.rd (cs := [w])) fun H t l ht => ?_)
      have h := h.to l
      have hm : mcB (nOf g) (prgProblem g) x = t := by
        rw [mcB_of hnz, Bool.eq_iff_iff, List.all_eq_true]
        show _ ↔ t = true
        rw [ht]
        simp [ptOf]
      cases t with
      | false =>
        simp only [gw]
        exact Wi.add hI (hJ _ _ hxN ⟨rfl, h.tl, next hm⟩)
      | true =>
      simp only [gw]
      have hmo := hsome x hxN hm hbef
      have hDa : (moD g x).natAbs ≤ 384000000 := by
        have := colL_leib (n := nOf g) x hn hpb.m
        show (((det (nOf g) (mAt (colL (nOf g) (prgProblem g).1 x))).natAbs : Nat) : Int).natAbs ≤ _
        omega
      have hD0 : moD g x ≠ 0 := by
        show (((det (nOf g) (mAt (colL (nOf g) (prgProblem g).1 x))).natAbs : Nat) : Int) ≠ 0
        have : det (nOf g) (mAt (colL (nOf g) (prgProblem g).1 x)) ≠ 0 := hnz
        omega
      have hza := moZ_abs hp x
      have hzl := moZ_len g x
      have hsa := moSum_abs hp x
      have hn5 : nOf g ≤ 5 := hn
      refine Wi.call (fnG64 (h.rd (cs := [w])) (ptOf_len x) hn (by omega) fun H z f => ?_)
      have h := (h.addG f).asG (i := 0) rfl
      have h : Ab.Loc H0 (.data (Rd.gslice Rd.int 2) [z] (moZ g x) :: _) H := h
      refine Wi.call (fnG65 (d := moD g x) (h.rd (cs := [z])).ofG1 (fun n hn => by have := hza n hn; unfold B64; omega) (by unfold B64; omega) hD0 (by omega) fun H y f => ?_)
      have h := (h.addG f).asG (i := 0) rfl
      simp only [gw]
      refine Wi.neqC (fun hne => Wi.tru ?_) fun he => Wi.fls ?_
      · exact Wi.build (cells := frC (0, 0)) rfl (Wl.putA h rfl rfl rfl fun H h => Wl.getA h rfl (hz _ _ h.le (by rw [hmo]; unfold moAt; rw [if_neg hne])))
      have hyl := frAll_full he
      rw [hzl] at hyl
      have hnof : nOf g = g.2.1.length + g.2.2.2.length := rfl
      refine Wi.fieldAddr (Wl.get h rfl (Wl.cutLoH (h.rd (cs := [z])).ofG1 (by omega) fun v hv => Wi.callQ (fn67 (h.rd (cs := [u2])) hv (by simp; omega) (A := 100) (B := 1920000000) (fun e he => by have := hp.c e he; omega) (fun e he => hza e (List.mem_of_mem_take he)) (by omega) ⟨.refl _, ?_⟩)))
      refine Wi.fieldAddr (Wl.get h rfl (Wl.cutHiG rfl (h.rd (cs := [z])) (by omega) fun v hv => Wi.callQ (fn67 (h.rd (cs := [u4])) hv (by simp; omega) (A := 100) (B := 1920000000) (fun e he => by have := hp.b e he; omega) (fun e he => hza e (List.mem_of_mem_drop he)) (by omega) ⟨.refl _, ?_⟩)))
      refine Wi.add (by unfold I64; omega) ?_
      have e2 : (2 * moD g x).natAbs ≤ 768000000 := by omega
      refine Wi.mul (by show I64 (2 * moD g x); unfold I64; omega) (Wi.callQ (fn66 (n := moSum g (moZ g x)) (d := 2 * moD g x) (by unfold B64 moSum; omega) (by unfold B64; omega) (by omega) fun H l => ⟨l, ?_⟩))
      have h := h.to l
      simp only [gw]
      refine Wl.new h fun H b5 h => Wl.putA (vs := frC _) h rfl rfl rfl fun H h => Wi.neqC (fun hne => Wi.tru ?_) fun he3 => Wi.fls ?_
      · exact Wi.build (cells := frC (0, 0)) rfl (Wl.putA h rfl rfl rfl fun H h => Wl.getA h rfl (hz _ _ h.le (by rw [hmo]; unfold moAt; rw [if_pos he, if_neg hne])))
      refine Wl.cutLoH (h.rd (cs := [y])).ofG1 (by omega) fun v hv => Wi.callQ (fn68 hv (by simp; omega) fun H c1 f => ⟨f.le, ?_⟩)
      have h := (h.addG f).asData (i := 0) rfl
      refine Wl.cutHiG rfl (h.rd (cs := [y])) (by omega) fun v hv => Wi.callQ (fn68 hv (by simp; omega) fun H c2 f => ⟨f.le, ?_⟩)
      have h := (h.addG f).asData (i := 0) rfl
      refine Wl.getA h rfl (Wl.putA h rfl rfl rfl fun H h => Wl.getA h rfl ?_)
      have hfin : moAt g x = ((frAll (moZ g x) (moD g x)).1.take g.2.1.length, (frAll (moZ g x) (moD g x)).1.drop g.2.1.length, (fracT (moSum g (moZ g x)) (2 * moD g x)).1, 0) := by
        unfold moAt
        rw [if_pos he, if_pos he3]
      have := hQ H c1 c2 (by rw [hmo, hfin]; exact h.ret2 (i := 1) (j := 0) rfl rfl (by decide))
      rw [hmo, hfin] at this
      exact this
  · have : x = N := by omega
    subst this
    exact Wi.build (cells := frC (0, 0)) rfl (Wl.putA h rfl rfl rfl fun H h => Wl.getA h rfl (hz _ _ h.le (hnone hbef)))

end Go.Proofs.YtdchibdcfdbcpaaGreat
