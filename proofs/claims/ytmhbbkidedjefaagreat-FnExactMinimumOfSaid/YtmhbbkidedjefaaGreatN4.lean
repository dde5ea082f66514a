/- Contracts of the program's problem and ProgramProblem. No condition. -/
import Derived.Test.YtmhbbkidedjefaaGreatN3
import Derived.Test.YtmhbbkidedjefaaGreatC2
namespace Go.Proofs.YtmhbbkidedjefaaGreat
open Go.Ab

/- loop.example/g01343/impl.negative -/
def f53.l1 (Q : Post) (v2 : Value) (v1 : Value) (I1 : St [10] → Heap → Prop) (x_10 : Value) (H : Heap) : Prop :=
  W.bin .lss x_10 v2 H fun v3 H =>
  W.cond v3 H
  (fun H => W.indexAddr 1 v1 x_10 H fun v4 H =>
   W.get v4 H fun v5 H =>
   W.un .neg v5 H fun v6 H =>
   W.indexAddr 1 v1 x_10 H fun v7 H =>
   W.put v7 v6 H fun _ H =>
   W.bin .add x_10 (.int .i64 1) H fun v8 H =>
   I1 (v8, ()) H)
  (fun H => Q v1 H)
def f53.w (Q : Post) (list_0 : Value) (H : Heap) : Prop :=
  W.call Tryz.prog (.func (.func 54) #[] #[]) #[list_0] H fun v1 H =>
  W.len v1 H fun v2 H =>
  W.loop (S := St [10]) (fun I1 s H => f53.l1 Q v2 v1 I1 s.1 H) ((.int .i64 0), ()) H
theorem f53.enter {Q : Post} {list_0 : Value} {H : Heap} (h : f53.w Q list_0 H) : Runs Tryz.prog 53 #[list_0] H Q :=
  fn_enter (ann := [(3, [10])]) (by kernel_rfl) Tryz.func53 rfl (by kernel_rfl) h (by kernel_rfl)

/- (loop.example/g01343/impl.Program).problem -/
def f27.l2 (Q : Post) (v8 : Value) (v1 : Value) (x_26 : Value) (v17 : Value) (I1 : St [26] → Heap → Prop) (I2 : St [7, 36] → Heap → Prop) (row_7 : Value) (x_36 : Value) (H : Heap) : Prop :=
  W.bin .lss x_36 v8 H fun v24 H =>
  W.cond v24 H
  (fun H => W.fieldAddr 2 v1 H fun v25 H =>
   W.get v25 H fun v26 H =>
   W.indexAddr 1 v26 x_36 H fun v27 H =>
   W.get v27 H fun v28 H =>
   W.indexAddr 1 v28 x_26 H fun v29 H =>
   W.get v29 H fun v30 H =>
   W.un .neg v30 H fun v31 H =>
   W.lit 1 [(.int .i64 0)] 2 [(0, 1, v31)] H fun v32 H =>
   W.append 1 2 row_7 v32 H fun v33 H =>
   W.bin .add x_36 (.int .i64 1) H fun v34 H =>
   I2 (v33, v34, ()) H)
  (fun H => W.fieldAddr 0 v17 H fun v35 H =>
   W.get v35 H fun v36 H =>
   W.lit 1 [(.slice none 0 0)] 23 [(0, 1, row_7)] H fun v37 H =>
   W.append 1 23 v36 v37 H fun v38 H =>
   W.fieldAddr 0 v17 H fun v39 H =>
   W.put v39 v38 H fun _ H =>
   W.bin .add x_26 (.int .i64 1) H fun v40 H =>
   I1 (v40, ()) H)
def f27.l3 (Q : Post) (v43 : Value) (v42 : Value) (v17 : Value) (v8 : Value) (v2 : Value) (I3 : St [62] → Heap → Prop) (x_62 : Value) (H : Heap) : Prop :=
  W.bin .lss x_62 v43 H fun v44 H =>
  W.cond v44 H
  (fun H => W.indexAddr 1 v42 x_62 H fun v45 H =>
   W.get v45 H fun v46 H =>
   W.fieldAddr 0 v17 H fun v47 H =>
   W.get v47 H fun v48 H =>
   W.callQ Tryz.prog (.func (.func 54) #[] #[]) #[v46] H fun v49 H =>
   W.appendZ [(.int .i64 0)] 2 v49 v8 H fun v50 H =>
   W.chk (fun H k => W.get v47 H k) v48 H (W.lit 1 [(.slice none 0 0)] 23 [(0, 1, v50)] H fun v51 H =>
   W.append 1 23 v48 v51 H fun v52 H =>
   W.fieldAddr 0 v17 H fun v53 H =>
   W.put v53 v52 H fun _ H =>
   W.bin .add x_62 (.int .i64 1) H fun v54 H =>
   I3 (v54, ()) H))
  (fun H => W.getN 2 v17 H fun v55 H =>
   W.putN 2 v2 v55 H fun _ H =>
   W.getN 2 v2 H fun v56 H => Q v56 H)
def f27.l1 (Q : Post) (v5 : Value) (v1 : Value) (v8 : Value) (v17 : Value) (v2 : Value) (I1 : St [26] → Heap → Prop) (x_26 : Value) (H : Heap) : Prop :=
  W.bin .lss x_26 v5 H fun v18 H =>
  W.cond v18 H
  (fun H => W.fieldAddr 0 v1 H fun v19 H =>
   W.get v19 H fun v20 H =>
   W.indexAddr 1 v20 x_26 H fun v21 H =>
   W.get v21 H fun v22 H =>
   W.call Tryz.prog (.func (.func 54) #[] #[]) #[v22] H fun v23 H =>
   W.loop (S := St [7, 36]) (fun I2 s H => f27.l2 Q v8 v1 x_26 v17 I1 I2 s.1 s.2.1 H) (v23, (.int .i64 0), ()) H)
  (fun H => W.fieldAddr 2 v1 H fun v41 H =>
   W.get v41 H fun v42 H =>
   W.len v42 H fun v43 H =>
   W.loop (S := St [62]) (fun I3 s H => f27.l3 Q v43 v42 v17 v8 v2 I3 s.1 H) ((.int .i64 0), ()) H)
def f27.w (Q : Post) (p_0 : Value) (H : Heap) : Prop :=
  W.box p_0 32 H fun v1 H =>
  W.new [(.slice none 0 0), (.slice none 0 0)] 44 H fun v2 H =>
  W.fieldAddr 1 v1 H fun v3 H =>
  W.get v3 H fun v4 H =>
  W.len v4 H fun v5 H =>
  W.fieldAddr 3 v1 H fun v6 H =>
  W.get v6 H fun v7 H =>
  W.len v7 H fun v8 H =>
  W.fieldAddr 1 v1 H fun v9 H =>
  W.get v9 H fun v10 H =>
  W.fieldAddr 3 v1 H fun v11 H =>
  W.get v11 H fun v12 H =>
  W.callQ Tryz.prog (.func (.func 53) #[] #[]) #[v12] H fun v13 H =>
  W.lit 2 [(.slice none 0 0)] 23 [(0, 1, v10), (1, 1, v13)] H fun v14 H =>
  W.callQ Tryz.prog (.func (.func 52) #[] #[]) #[v14] H fun v15 H =>
  W.build [(.slice none 0 0), (.slice none 0 0)] [(1, 1, v15)] H fun v16 H =>
  W.new [(.slice none 0 0), (.slice none 0 0)] 44 H fun v17 H =>
  W.putN 2 v17 v16 H fun _ H =>
  W.loop (S := St [26]) (fun I1 s H => f27.l1 Q v5 v1 v8 v17 v2 I1 s.1 H) ((.int .i64 0), ()) H
theorem f27.enter {Q : Post} {p_0 : Value} {H : Heap} (h : f27.w Q p_0 H) : Runs Tryz.prog 27 #[p_0] H Q :=
  fn_enter (ann := [(4, [26]), (8, [7, 36]), (15, [62])]) (by kernel_rfl) Tryz.func27 rfl (by kernel_rfl) h (by kernel_rfl)


theorem fn53 {H0 : Heap} {Q : Post} {v : Value} {xs : List Int} (hr : Has RS H0 [v] xs) (hlen : xs.length ≤ 16777216) (hx : ∀ x ∈ xs, I64 (-x)) (hQ : ∀ H' u, Fresh RS H0 [u] (neg xs) H' → Q u H') : Runs Tryz.prog 53 #[v] H0 Q := by
  refine f53.enter (Wi.call (fn54 hr hlen fun H u f => ?_))
  have h := (Loc.start H0).add f.fresh
  refine Wl.len h (W.for_rule xs.length (fun i s H => s = (.int .i64 (i : Nat), ()) ∧ Ab.Loc H0 [.data RS [u] (mapTo (fun _ x => -x) xs i)] H) ⟨rfl, by rw [mapTo_zero]; exact h⟩ ?_)
  rintro i s H J hi ⟨rfl, h⟩ hJ
  refine Wi.lssC (fun hlt => Wi.tru ?_) fun hge => Wi.fls ?_
  · have hix : i < xs.length := by omega
    have hl := mapTo_length (fun _ x => -x) xs i
    refine Wl.atInt h (by omega) fun _ => ?_
    rw [mapTo_get hix]
    refine Wi.neg (hx _ (List.getElem_mem hix)) (Wl.setInt h (by omega) (hx _ (List.getElem_mem hix)) fun H h => Wi.add (by unfold I64; omega) (hJ _ _ hix ⟨rfl, ?_⟩))
    rw [← mapTo_succ hix]
    exact h
  · have : i = xs.length := by omega
    subst this
    rw [mapTo_all, neg_idx] at h
    exact hQ _ _ (h.ret (i := 0) rfl)

theorem fn27 {H0 : Heap} {Q : Post} {cs : List Value} {p : Prg} (hr : Has RPrg H0 cs p) (hp : IsPrg p) (hQ : ∀ H' w1 w2, Fresh RProblem H0 [w1, w2] (prgProblem p) H' → Q (.agg #[w1, w2]) H') :
    Runs Tryz.prog 27 #[.agg cs.toArray] H0 Q := by
  obtain ⟨u1, u2, u3, u4, rfl, r1, r2, r3, r4⟩ := hasPrg hr
  have n1 := hp.n1; have nm := hp.nm; have dl := hp.dl; have al := hp.al
  have nb : ∀ x ∈ p.2.2.2, I64 (-x) := fun x hx => by have := hp.b x hx; unfold I64; omega
  refine f27.enter ?_
  unfold f27.w
  have h := ((((Loc.start H0).lent r1).lent r2).lent r3).lent r4
  refine Wl.box h fun H b h => Wl.new h fun H b2 h => Wi.fieldAddr0 (Wl.get h rfl (Wl.len h (Wi.fieldAddr0 (Wl.get h rfl (Wl.len h (Wi.fieldAddr0 (Wl.get h rfl (Wi.fieldAddr0 (Wl.get h rfl (Wi.callQ (fn53 h.rd (by omega) nb fun H w f => ⟨f.le, ?_⟩)))))))))))
  have h := h.add f
  -- the right side
  obtain ⟨bs2, q2⟩ := h.rd (cs := [u2])
  obtain ⟨bsw, qw⟩ := f.read
  have e2 := Has.one ⟨_, q2⟩
  have ew := Has.one ⟨_, qw⟩
  refine Wi.lit (cells := [u2, w]) (by simp [fillA, e2, ew, reps]) fun H1 l1 n1' k1 => ?_
  have h := h.to l1
  have hv : Has (Rd.slice RS) H1 [.slice (some (adr _ 0)) 2 (2 * 2)] [p.2.1, neg p.2.2.2] := ⟨_, .inr ⟨_, 0, _, _, fun i => if i = 0 then bs2 else bsw, rfl, rfl, ⟨by omega, k1, by simp, by simp, by simp [Rd.slice], fun i hi => by
    match i, hi with
    | 0, _ => exact Rd.le _ q2 l1
    | 1, _ => exact Rd.le _ qw l1⟩⟩⟩
  refine Wi.callQ (concat52 _ _ [p.2.1, neg p.2.2.2] _ hv (by simp [neg]; omega) fun H w2 j => ⟨j.le, ?_⟩)
  have eF : ([p.2.1, neg p.2.2.2] : List (List Int)).flatten = p.2.1 ++ neg p.2.2.2 := by simp
  rw [eF] at j
  have h := (h.add j.plain.fresh).nilG RS 23
  have k2 := j.plain.fresh.read
  refine Wi.build (cells := [.slice none 0 0, w2]) (by simp [fillA, k2.one]) (Wl.new h fun H b3 h => Wl.putA h rfl rfl (by have := k2.cell; simpa [isCell] using this) fun H h => ?_)
  have kall : ∀ (g : Value) (H : Heap) (xs : List (List Int)), Has RSS H [g] xs → [g, w2].all isCell = true := fun g H xs hg => by
    have k1 := hg.cell
    have k3 := k2.cell
    simp only [List.all_cons, List.all_nil, Bool.and_true] at k1 k3 ⊢
    rw [k1, k3]
    rfl
  refine W.for_rule p.2.1.length (fun i s H => ∃ g, s = (.int .i64 (i : Nat), ()) ∧ Ab.Loc H0 [.box b3 [g, w2], .grow RS 23 g (prgTop p i), .data RS [w2] (p.2.1 ++ neg p.2.2.2), .data RS [w] (neg p.2.2.2), .box b2 [.slice none 0 0, .slice none 0 0], .box b [u1, u2, u3, u4], .lent RS [u4] p.2.2.2, .lent RSS [u3] p.2.2.1, .lent RS [u2] p.2.1, .lent RSS [u1] p.1] H) ⟨_, rfl, h⟩ ?_
  rintro i s H J hi ⟨g, rfl, h⟩ hJ
  refine Wi.lssC (fun hlt => Wi.tru ?_) fun hge => Wi.fls ?_
  · have hix : i < p.1.length := by omega
    have hd := hp.d _ (List.getElem_mem hix)
    refine Wi.fieldAddr0 (Wl.get h rfl (Wl.at1 rfl h hix fun v hv => Wi.call (fn54 hv (by omega) fun H r f => ?_)))
    have h := h.addG f
    refine W.for_rule p.2.2.2.length (fun j s H => ∃ r, s = (r, .int .i64 (j : Nat), ()) ∧ Ab.Loc H0 [.grow Rd.int 2 r (p.1[i] ++ (List.range j).map fun j => -((p.2.2.1.getD j []).getD i 0)), .box b3 [g, w2], .grow RS 23 g (prgTop p i), .data RS [w2] (p.2.1 ++ neg p.2.2.2), .data RS [w] (neg p.2.2.2), .box b2 [.slice none 0 0, .slice none 0 0], .box b [u1, u2, u3, u4], .lent RS [u4] p.2.2.2, .lent RSS [u3] p.2.2.1, .lent RS [u2] p.2.1, .lent RSS [u1] p.1] H)
      ⟨r, rfl, by simpa using h⟩ ?_
    rintro j s H J2 hj ⟨r, rfl, h⟩ hJ2
    refine Wi.lssC (fun hlt2 => Wi.tru ?_) fun hge2 => Wi.fls ?_
    · have hja : j < p.2.2.1.length := by omega
      have ha := hp.a _ (List.getElem_mem hja)
      have hia : i < p.2.2.1[j].length := by omega
      have hx := ha.2 _ (List.getElem_mem hia)
      have hn : I64 (-p.2.2.1[j][i]) := by unfold I64; omega
      refine Wi.fieldAddr0 (Wl.get h rfl (Wl.at1 rfl h hja fun v hv => Wl.atIntH hv hia fun _ => Wi.neg hn (Wl.pushP (r := Rd.int) (x := -p.2.2.1[j][i]) rfl rfl rfl (fun _ => ⟨rfl, rfl, hn⟩) h (by simp; omega) fun H r' h => Wi.add (by unfold I64; omega) (hJ2 _ _ (by omega) ⟨r', rfl, ?_⟩))))
      rw [List.range_succ, List.map_append]
      simp only [List.map_cons, List.map_nil]
      rw [show (p.2.2.1.getD j []).getD i 0 = p.2.2.1[j][i] by simp [List.getD_eq_getElem?_getD, List.getElem?_eq_getElem hja, List.getElem?_eq_getElem hia], ← List.append_assoc]
      exact h
    · have : j = p.2.2.2.length := by omega
      subst this
      refine Wi.fieldAddr0 (Wl.get h rfl (Wl.pushG h (by rw [prgTop_len]; omega) fun H g' h => Wi.fieldAddr0 (Wl.put h (h.rd (cs := [g'])).cell1 (by simp) fun H h => Wi.add (by unfold I64; omega) (hJ _ _ (by omega) ⟨g', rfl, ?_⟩))))
      rw [prgTop_succ, show p.1.getD i [] = p.1[i] by simp [List.getD_eq_getElem?_getD, List.getElem?_eq_getElem hix]]
      exact h
  · have : i = p.2.1.length := by omega
    subst this
    refine Wi.fieldAddr0 (Wl.get h rfl (Wl.len h ?_))
    refine W.for_rule p.2.2.1.length (fun j s H => ∃ g, s = (.int .i64 (j : Nat), ()) ∧ Ab.Loc H0 [.box b3 [g, w2], .grow RS 23 g (prgTop p p.2.1.length ++ prgLow p j), .data RS [w2] (p.2.1 ++ neg p.2.2.2), .data RS [w] (neg p.2.2.2), .box b2 [.slice none 0 0, .slice none 0 0], .box b [u1, u2, u3, u4], .lent RS [u4] p.2.2.2, .lent RSS [u3] p.2.2.1, .lent RS [u2] p.2.1, .lent RSS [u1] p.1] H) ⟨g, rfl, by simpa [prgLow] using h⟩ ?_
    rintro j s H J2 hj ⟨g, rfl, h⟩ hJ2
    refine Wi.lssC (fun hlt2 => Wi.tru ?_) fun hge2 => Wi.fls ?_
    · have hja : j < p.2.2.1.length := by omega
      have ha := hp.a _ (List.getElem_mem hja)
      refine Wl.at1 rfl h hja fun v hv => Wi.fieldAddr0 (Wl.get h rfl (Wi.callQ (fn54 hv (by omega) fun H r f => ⟨f.le, ?_⟩)))
      have h := h.addG f
      have l1 := prgTop_len p p.2.1.length
      have l2 := prgLow_len p j
      refine Wl.appendZ (r := Rd.int) (z := 0) (fun _ => ⟨rfl, rfl, by unfold I64; omega⟩) h (by omega) fun H r' h => Wi.chk (Wl.get h rfl ⟨rfl, rfl⟩) <| Wl.pushG h (by simp; omega) fun H g' h => Wi.fieldAddr0 (Wl.put h (h.rd (cs := [g'])).cell1 (by simp) fun H h => Wi.add (by unfold I64; omega) (hJ2 _ _ (by omega) ⟨g', rfl, ?_⟩))
      rw [prgLow_succ p hja, ← List.append_assoc]
      exact h
    · have : j = p.2.2.1.length := by omega
      subst this
      refine Wl.getA h rfl (Wl.putA h rfl rfl (kall _ _ _ (h.rd (cs := [g]))) fun H h => Wl.getA h rfl (hQ _ _ _ ?_))
      exact (h.asData (i := 1) rfl).ret2 (i := 1) (j := 2) rfl rfl (by omega)


end Go.Proofs.YtmhbbkidedjefaaGreat
