/- Contracts of the reference's l09Problem and ProgramProblem. No condition. -/
import Derived.Test.YtdchibdcfdbcpaaGreatGBB
import Derived.Test.YtdchibdcfdbcpaaGreatGDD
import Derived.Test.YtdchibdcfdbcpaaGreatGEE
import Derived.Test.YtdchibdcfdbcpaaGreatGCC
import Derived.Test.YtdchibdcfdbcpaaGreatGMM
import Derived.Test.YtdchibdcfdbcpaaGreatGRR
namespace Go.Proofs.YtdchibdcfdbcpaaGreat
open Go.Ab

/- loop.example/g01343/spec.l09Problem -/
def f93.l2 (Q : Post) (v8 : Value) (v1 : Value) (i_6 : Value) (v14 : Value) (I1 : St [6] → Heap → Prop) (I2 : St [7, 8] → Heap → Prop) (row_7 : Value) (j_8 : Value) (H : Heap) : Prop :=
  W.bin .lss j_8 v8 H fun v21 H =>
  W.cond v21 H
  (fun H => W.fieldAddr 2 v1 H fun v22 H =>
   W.get v22 H fun v23 H =>
   W.indexAddr 1 v23 j_8 H fun v24 H =>
   W.get v24 H fun v25 H =>
   W.indexAddr 1 v25 i_6 H fun v26 H =>
   W.get v26 H fun v27 H =>
   W.un .neg v27 H fun v28 H =>
   W.lit 1 [(.int .i64 0)] 2 [(0, 1, v28)] H fun v29 H =>
   W.append 1 2 row_7 v29 H fun v30 H =>
   W.bin .add j_8 (.int .i64 1) H fun v31 H =>
   I2 (v30, v31, ()) H)
  (fun H => W.fieldAddr 0 v14 H fun v32 H =>
   W.get v32 H fun v33 H =>
   W.lit 1 [(.slice none 0 0)] 25 [(0, 1, row_7)] H fun v34 H =>
   W.append 1 25 v33 v34 H fun v35 H =>
   W.fieldAddr 0 v14 H fun v36 H =>
   W.put v36 v35 H fun _ H =>
   W.bin .add i_6 (.int .i64 1) H fun v37 H =>
   I1 (v37, ()) H)
def f93.l3 (Q : Post) (v8 : Value) (v14 : Value) (v1 : Value) (v2 : Value) (I3 : St [9] → Heap → Prop) (j_9 : Value) (H : Heap) : Prop :=
  W.bin .lss j_9 v8 H fun v38 H =>
  W.cond v38 H
  (fun H => W.fieldAddr 0 v14 H fun v39 H =>
   W.get v39 H fun v40 H =>
   W.fieldAddr 2 v1 H fun v41 H =>
   W.get v41 H fun v42 H =>
   W.indexAddr 1 v42 j_9 H fun v43 H =>
   W.get v43 H fun v44 H =>
   W.callQ Tryz.prog (.func (.func 79) #[] #[]) #[v44] H fun v45 H =>
   W.appendZ [(.int .i64 0)] 2 v45 v8 H fun v46 H =>
   W.chk (fun H k => W.get v39 H k) v40 H (W.lit 1 [(.slice none 0 0)] 25 [(0, 1, v46)] H fun v47 H =>
   W.append 1 25 v40 v47 H fun v48 H =>
   W.fieldAddr 0 v14 H fun v49 H =>
   W.put v49 v48 H fun _ H =>
   W.fieldAddr 1 v14 H fun v50 H =>
   W.get v50 H fun v51 H =>
   W.fieldAddr 3 v1 H fun v52 H =>
   W.get v52 H fun v53 H =>
   W.indexAddr 1 v53 j_9 H fun v54 H =>
   W.get v54 H fun v55 H =>
   W.un .neg v55 H fun v56 H =>
   W.lit 1 [(.int .i64 0)] 2 [(0, 1, v56)] H fun v57 H =>
   W.append 1 2 v51 v57 H fun v58 H =>
   W.fieldAddr 1 v14 H fun v59 H =>
   W.put v59 v58 H fun _ H =>
   W.bin .add j_9 (.int .i64 1) H fun v60 H =>
   I3 (v60, ()) H))
  (fun H => W.getN 2 v14 H fun v61 H =>
   W.putN 2 v2 v61 H fun _ H =>
   W.getN 2 v2 H fun v62 H => Q v62 H)
def f93.l1 (Q : Post) (v5 : Value) (v1 : Value) (v8 : Value) (v14 : Value) (v2 : Value) (I1 : St [6] → Heap → Prop) (i_6 : Value) (H : Heap) : Prop :=
  W.bin .lss i_6 v5 H fun v15 H =>
  W.cond v15 H
  (fun H => W.fieldAddr 0 v1 H fun v16 H =>
   W.get v16 H fun v17 H =>
   W.indexAddr 1 v17 i_6 H fun v18 H =>
   W.get v18 H fun v19 H =>
   W.call Tryz.prog (.func (.func 79) #[] #[]) #[v19] H fun v20 H =>
   W.loop (S := St [7, 8]) (fun I2 s H => f93.l2 Q v8 v1 i_6 v14 I1 I2 s.1 s.2.1 H) (v20, (.int .i64 0), ()) H)
  (fun H => W.loop (S := St [9]) (fun I3 s H => f93.l3 Q v8 v14 v1 v2 I3 s.1 H) ((.int .i64 0), ()) H)
def f93.w (Q : Post) (p_0 : Value) (H : Heap) : Prop :=
  W.box p_0 27 H fun v1 H =>
  W.new [(.slice none 0 0), (.slice none 0 0)] 62 H fun v2 H =>
  W.fieldAddr 1 v1 H fun v3 H =>
  W.get v3 H fun v4 H =>
  W.len v4 H fun v5 H =>
  W.fieldAddr 3 v1 H fun v6 H =>
  W.get v6 H fun v7 H =>
  W.len v7 H fun v8 H =>
  W.lit 0 [(.slice none 0 0)] 25 [] H fun v9 H =>
  W.fieldAddr 1 v1 H fun v10 H =>
  W.get v10 H fun v11 H =>
  W.call Tryz.prog (.func (.func 79) #[] #[]) #[v11] H fun v12 H =>
  W.build [(.slice none 0 0), (.slice none 0 0)] [(0, 1, v9), (1, 1, v12)] H fun v13 H =>
  W.new [(.slice none 0 0), (.slice none 0 0)] 62 H fun v14 H =>
  W.putN 2 v14 v13 H fun _ H =>
  W.loop (S := St [6]) (fun I1 s H => f93.l1 Q v5 v1 v8 v14 v2 I1 s.1 H) ((.int .i64 0), ()) H
theorem f93.enter {Q : Post} {p_0 : Value} {H : Heap} (h : f93.w Q p_0 H) : Runs Tryz.prog 93 #[p_0] H Q :=
  fn_enter (ann := [(4, [6]), (8, [7, 8]), (13, [9])]) (by kernel_rfl) Tryz.func93 rfl (by kernel_rfl) h (by kernel_rfl)

/- loop.example/g01343/spec.ProgramProblem -/
def f36.w (Q : Post) (p_0 : Value) (H : Heap) : Prop :=
  W.box p_0 27 H fun v1 H =>
  W.new [(.slice none 0 0), (.slice none 0 0)] 62 H fun v2 H =>
  W.getN 4 v1 H fun v3 H =>
  W.call Tryz.prog (.func (.func 54) #[] #[]) #[v3] H fun v4 H =>
  W.un .not v4 H fun v5 H =>
  W.cond v5 H
  (fun H => W.build [(.slice none 0 0), (.slice none 0 0)] [] H fun v6 H =>
   W.putN 2 v2 v6 H fun _ H =>
   W.getN 2 v2 H fun v7 H => Q (.tuple #[v7, (.int .i64 1)]) H)
  (fun H => W.getN 4 v1 H fun v8 H =>
   W.call Tryz.prog (.func (.func 93) #[] #[]) #[v8] H fun v9 H =>
   W.putN 2 v2 v9 H fun _ H =>
   W.getN 2 v2 H fun v10 H => Q (.tuple #[v10, (.int .i64 0)]) H)
theorem f36.enter {Q : Post} {p_0 : Value} {H : Heap} (h : f36.w Q p_0 H) : Runs Tryz.prog 36 #[p_0] H Q :=
  fn_enter (ann := []) (by kernel_rfl) Tryz.func36 rfl (by kernel_rfl) h (by kernel_rfl)


theorem neg_append (xs : List Int) (x : Int) : neg (xs ++ [x]) = neg xs ++ [-x] := by simp [neg]

theorem fn93 {H0 : Heap} {Q : Post} {cs : List Value} {p : Prg} (hr : Has RPrg H0 cs p) (hp : IsPrg p) (hQ : ∀ H' w1 w2, Fresh RProblem H0 [w1, w2] (prgProblem p) H' → Q (.agg #[w1, w2]) H') :
    Runs Tryz.prog 93 #[.agg cs.toArray] H0 Q := by
  obtain ⟨u1, u2, u3, u4, rfl, r1, r2, r3, r4⟩ := hasPrg hr
  have n1 := hp.n1; have nm := hp.nm; have dl := hp.dl; have al := hp.al
  refine f93.enter ?_
  unfold f93.w
  have h := ((((Loc.start H0).lent r1).lent r2).lent r3).lent r4
  refine Wl.box h fun H b h => Wl.new h fun H b2 h => Wi.fieldAddr0 (Wl.get h rfl (Wl.len h (Wi.fieldAddr0 (Wl.get h rfl (Wl.len h (Wl.lit0 RS rfl h fun H g h => Wi.fieldAddr0 (Wl.get h rfl (Wi.call (fn79 h.rd (by omega) fun H w f => ?_)))))))))
  have h := h.addG f
  have k1 := h.rd (cs := [g])
  have k2 := h.rd (cs := [w])
  have kall : ∀ {g w : Value} {H : Heap} {xs : List (List Int)} {ys : List Int}, Has RSS H [g] xs → Has RS H [w] ys → [g, w].all isCell = true := fun hg hw => by
    have k1 := hg.cell
    have k3 := hw.cell
    simp only [List.all_cons, List.all_nil, Bool.and_true] at k1 k3 ⊢
    rw [k1, k3]
    rfl
  refine Wi.build (cells := [g, w]) (by simp [fillA, k1.one, k2.one]) (Wl.new h fun H b3 h => Wl.putA h rfl rfl (kall k1 k2) fun H h => ?_)
  refine W.for_rule p.2.1.length (fun i s H => ∃ g, s = (.int .i64 (i : Nat), ()) ∧ Ab.Loc H0 [.box b3 [g, w], .grow Rd.int 2 w p.2.1, .grow RS 25 g (prgTop p i), .box b2 [.slice none 0 0, .slice none 0 0], .box b [u1, u2, u3, u4], .lent RS [u4] p.2.2.2, .lent RSS [u3] p.2.2.1, .lent RS [u2] p.2.1, .lent RSS [u1] p.1] H) ⟨_, rfl, h⟩ ?_
  rintro i s H J hi ⟨g, rfl, h⟩ hJ
  refine Wi.lssC (fun hlt => Wi.tru ?_) fun hge => Wi.fls ?_
  · have hix : i < p.1.length := by omega
    have hd := hp.d _ (List.getElem_mem hix)
    refine Wi.fieldAddr0 (Wl.get h rfl (Wl.at1 rfl h hix fun v hv => Wi.call (fn79 hv (by omega) fun H r f => ?_)))
    have h := h.addG f
    refine W.for_rule p.2.2.2.length (fun j s H => ∃ r, s = (r, .int .i64 (j : Nat), ()) ∧ Ab.Loc H0 [.grow Rd.int 2 r (p.1[i] ++ (List.range j).map fun j => -((p.2.2.1.getD j []).getD i 0)), .box b3 [g, w], .grow Rd.int 2 w p.2.1, .grow RS 25 g (prgTop p i), .box b2 [.slice none 0 0, .slice none 0 0], .box b [u1, u2, u3, u4], .lent RS [u4] p.2.2.2, .lent RSS [u3] p.2.2.1, .lent RS [u2] p.2.1, .lent RSS [u1] p.1] H)
      ⟨r, rfl, by simpa using h⟩ ?_
    rintro j s H J2 hj ⟨r, rfl, h⟩ hJ2
    refine Wi.lssC (fun hlt2 => Wi.tru ?_) fun hge2 => Wi.fls ?_
    · have hja : j < p.2.2.1.length := by omega
      have ha := hp.a _ (List.getElem_mem hja)
      have hia : i < p.2.2.1[j].length := by omega
      have hx := ha.2 _ (List.getElem_mem hia)
      have hn : I64 (-p.2.2.1[j][i]) := by unfold I64; omega
      refine Wi.fieldAddr0 (Wl.get h rfl (Wl.at1 rfl h hja fun v hv => Wl.atIntH hv hia fun _ => Wi.neg hn (Wl.pushP (r := Rd.int) (x := -p.2.2.1[j][i]) rfl rfl rfl (fun _ => ⟨rfl, rfl, hn⟩) h (by simp; omega) fun H r' h => Wi.add (by unfold I64; omega) (hJ2 _ _ (by omega) ⟨r', rfl, ?_⟩))))
      rw [List.range_succ, List.map_append]
      simp only [List.map_cons, List.map_nil]
      rw [show (p.2.2.1.getD j []).getD i 0 = p.2.2.1[j][i] by simp [List.getD_eq_getElem?_getD, List.getElem?_eq_getElem hja, List.getElem?_eq_getElem hia], ← List.append_assoc]
      exact h
    · have : j = p.2.2.2.length := by omega
      subst this
      refine Wi.fieldAddr0 (Wl.get h rfl (Wl.pushG h (by rw [prgTop_len]; omega) fun H g' h => Wi.fieldAddr0 (Wl.put h (h.rd (cs := [g'])).cell1 (by simp) fun H h => Wi.add (by unfold I64; omega) (hJ _ _ (by omega) ⟨g', rfl, ?_⟩))))
      rw [prgTop_succ, show p.1.getD i [] = p.1[i] by simp [List.getD_eq_getElem?_getD, List.getElem?_eq_getElem hix]]
      exact h
  · have : i = p.2.1.length := by omega
    subst this
    refine W.for_rule p.2.2.1.length (fun j s H => ∃ g w, s = (.int .i64 (j : Nat), ()) ∧ Ab.Loc H0 [.box b3 [g, w], .grow Rd.int 2 w (p.2.1 ++ neg (p.2.2.2.take j)), .grow RS 25 g (prgTop p p.2.1.length ++ prgLow p j), .box b2 [.slice none 0 0, .slice none 0 0], .box b [u1, u2, u3, u4], .lent RS [u4] p.2.2.2, .lent RSS [u3] p.2.2.1, .lent RS [u2] p.2.1, .lent RSS [u1] p.1] H) ⟨g, w, rfl, by simpa [prgLow, neg] using h⟩ ?_
    rintro j s H J2 hj ⟨g, w, rfl, h⟩ hJ2
    refine Wi.lssC (fun hlt2 => Wi.tru ?_) fun hge2 => Wi.fls ?_
    · have hja : j < p.2.2.1.length := by omega
      have hjb : j < p.2.2.2.length := by omega
      have ha := hp.a _ (List.getElem_mem hja)
      have hb := hp.b _ (List.getElem_mem hjb)
      have hn : I64 (-p.2.2.2[j]) := by unfold I64; omega
      refine Wi.fieldAddr0 (Wl.get h rfl (Wi.fieldAddr0 (Wl.get h rfl (Wl.at1 rfl h hja fun v hv => Wi.callQ (fn79 hv (by omega) fun H r f => ⟨f.le, ?_⟩)))))
      have h := h.addG f
      have l1 := prgTop_len p p.2.1.length
      have l2 := prgLow_len p j
      refine Wl.appendZ (r := Rd.int) (z := 0) (fun _ => ⟨rfl, rfl, by unfold I64; omega⟩) h (by omega) fun H r' h => Wi.chk (Wl.get h rfl ⟨rfl, rfl⟩) <| Wl.pushG h (by simp; omega) fun H g' h => Wi.fieldAddr0 (Wl.put h (h.rd (cs := [g'])).cell1 (by simp) fun H h => ?_)
      refine Wi.fieldAddr0 (Wl.get h rfl (Wi.fieldAddr0 (Wl.get h rfl (Wl.atInt h hjb fun _ => Wi.neg hn (Wl.pushP (r := Rd.int) (x := -p.2.2.2[j]) rfl rfl rfl (fun _ => ⟨rfl, rfl, hn⟩) h (by simp [neg]; omega) fun H w' h => ?_)))))
      change Ab.Loc H0 [.box b3 [g', w], .grow Rd.int 2 w' _, .grow RS 25 g' _, .box b2 _, .box b _, .lent RS [u4] _, .lent RSS [u3] _, .lent RS [u2] _, .lent RSS [u1] _] H at h
      refine Wi.fieldAddr0 (Wl.put h (h.rd (cs := [w'])).cell1 (by simp) fun H h => Wi.add (by unfold I64; omega) (hJ2 _ _ (by omega) ⟨g', w', rfl, ?_⟩))
      rw [prgLow_succ p hja, ← List.append_assoc, List.take_succ_eq_append_getElem hjb, neg_append, ← List.append_assoc]
      exact h
    · have : j = p.2.2.1.length := by omega
      subst this
      rw [al, List.take_length, ← al] at h
      refine Wl.getA h rfl (Wl.putA h rfl rfl (kall (h.rd (cs := [g])) (h.rd (cs := [w]))) fun H h => Wl.getA h rfl (hQ _ _ _ ?_))
      exact ((h.asData (i := 1) rfl).asData (i := 2) rfl).ret2 (i := 2) (j := 1) rfl rfl (by omega)

theorem fn36 {H0 : Heap} {Q : Post} {cs : List Value} {p : Prg} (hr : Has RPrg H0 cs p) (hw : wPrg p ≤ 1048576) (hQ : ∀ H' cs', Fresh RProblem H0 cs' (ppRes p).1 H' → Q (.tuple #[.agg cs'.toArray, .int .i64 (ppRes p).2]) H') :
    Runs Tryz.prog 36 #[.agg cs.toArray] H0 Q := by
  refine f36.enter ?_
  unfold f36.w
  have h := (Loc.start H0).lent hr
  have hl := hr.len
  refine Wl.box h fun H b h => Wl.new h fun H b2 h => Wl.getA h hl (Wi.call (fn54 h.rd hw fun H t l ht => ?_))
  have h := h.to l
  cases t with
  | false =>
    simp only [g7, g10]
    refine Wi.build (cells := [.slice none 0 0, .slice none 0 0]) rfl (Wl.putA h rfl rfl rfl fun H h => Wl.getA h rfl ?_)
    have hp : ¬ IsPrg p := fun g => Bool.noConfusion (ht.2 g)
    have := hQ H [.slice none 0 0, .slice none 0 0]
    simp only [ppRes, if_neg hp] at this
    exact this (fresh_nil2 h.le)
  | true =>
    have hp := ht.1 rfl
    simp only [g8, g9]
    refine Wl.getA h hl (Wi.call (fn93 h.rd hp fun H w1 w2 f => ?_))
    have h := h.add f
    refine Wl.putA (vs := [w1, w2]) h rfl rfl f.read.cell fun H h => Wl.getA h rfl ?_
    have := hQ H [w1, w2]
    simp only [ppRes, if_pos hp] at this
    exact this (h.ret (i := 0) rfl)

end Go.Proofs.YtdchibdcfdbcpaaGreat
/-! The contract of the reference's MinimumOf. No condition. -/
namespace Go.Proofs.YtdchibdcfdbcpaaGreat
open Go.Ab

/- loop.example/g01343/spec.MinimumOf -/
def f24.j1 (Q : Post) (s_8 : Value) (I1 : St [8] → Heap → Prop) (H : Heap) : Prop :=
  W.bin .add s_8 (.int .i64 1) H fun v34 H =>
  I1 (v34, ()) H
def f24.j3 (Q : Post) (i_12 : Value) (v47 : Value) (I2 : St [11, 12] → Heap → Prop) (H : Heap) : Prop :=
  W.bin .add i_12 (.int .i64 1) H fun v53 H =>
  I2 (v47, v53, ()) H
def f24.j2 (Q : Post) (good_11 : Value) (v31 : Value) (i_12 : Value) (s_8 : Value) (I2 : St [11, 12] → Heap → Prop) (H : Heap) : Prop :=
  W.guarded good_11 true (fun H k => k v31 H) H fun v42 H =>
  W.guarded good_11 true (fun H k => k i_12 H) H fun v43 H =>
  W.guarded good_11 true (fun H k => W.indexAddr 1 v42 v43 H k) H fun v44 H =>
  W.guarded good_11 true (fun H k => W.get v44 H k) H fun v45 H =>
  W.guarded good_11 true (fun H k => W.bin .geq v45 (.int .i64 0) H k) H fun v46 H =>
  W.pick good_11 v46 (.bool false) H fun v47 H =>
  W.conv .u64 i_12 H fun v48 H =>
  W.bin .shr s_8 v48 H fun v49 H =>
  W.bin .and v49 (.int .i64 1) H fun v50 H =>
  W.bin .eql v50 (.int .i64 0) H fun v51 H =>
  W.cond v51 H
  (fun H => W.indexAddr 1 v31 i_12 H fun v52 H =>
   W.put v52 (.int .i64 0) H fun _ H =>
   f24.j3 Q i_12 v47 I2 H)
  (fun H => f24.j3 Q i_12 v47 I2 H)
def f24.j4 (Q : Post) (i_17 : Value) (I3 : St [14, 15, 16, 17] → Heap → Prop) (sum_14' : Value) (x_15' : Value) (y_16' : Value) (H : Heap) : Prop :=
  W.bin .add i_17 (.int .i64 1) H fun v83 H =>
  I3 (sum_14', x_15', y_16', v83, ()) H
def f24.l3 (Q : Post) (v31 : Value) (v56 : Value) (v2 : Value) (v17 : Value) (v1 : Value) (I3 : St [14, 15, 16, 17] → Heap → Prop) (sum_14 : Value) (x_15 : Value) (y_16 : Value) (i_17 : Value) (H : Heap) : Prop :=
  W.len v31 H fun v59 H =>
  W.bin .lss i_17 v59 H fun v60 H =>
  W.cond v60 H
  (fun H => W.indexAddr 1 v31 i_17 H fun v61 H =>
   W.get v61 H fun v62 H =>
   W.call Tryz.prog (.func (.func 89) #[] #[]) #[v62, v56] H fun v63 H =>
   W.call Tryz.prog (.func (.func 88) #[] #[]) #[v63] H fun v64 H =>
   W.extract 0 v64 H fun v65 H =>
   W.extract 1 v64 H fun v66 H =>
   W.new [(.int .i64 0), (.int .i64 0)] 34 H fun v67 H =>
   W.putN 2 v67 v65 H fun _ H =>
   W.bin .neq v66 (.int .i64 0) H fun v68 H =>
   W.cond v68 H
   (fun H => W.build [(.int .i64 0), (.int .i64 0)] [] H fun v69 H =>
    W.putN 2 v2 v69 H fun _ H =>
    W.getN 2 v2 H fun v70 H => Q (.tuple #[(.slice none 0 0), (.slice none 0 0), v70, v66]) H)
   (fun H => W.bin .lss i_17 v17 H fun v71 H =>
    W.cond v71 H
    (fun H => W.getN 2 v67 H fun v72 H =>
     W.lit 1 [(.int .i64 0), (.int .i64 0)] 34 [(0, 2, v72)] H fun v73 H =>
     W.append 2 34 x_15 v73 H fun v74 H =>
     W.fieldAddr 1 v1 H fun v75 H =>
     W.get v75 H fun v76 H =>
     W.indexAddr 1 v76 i_17 H fun v77 H =>
     W.get v77 H fun v78 H =>
     W.indexAddr 1 v31 i_17 H fun v79 H =>
     W.get v79 H fun v80 H =>
     W.bin .mul v78 v80 H fun v81 H =>
     W.bin .add sum_14 v81 H fun v82 H =>
     f24.j4 Q i_17 I3 v82 v74 y_16 H)
    (fun H => W.getN 2 v67 H fun v84 H =>
     W.lit 1 [(.int .i64 0), (.int .i64 0)] 34 [(0, 2, v84)] H fun v85 H =>
     W.append 2 34 y_16 v85 H fun v86 H =>
     W.fieldAddr 3 v1 H fun v87 H =>
     W.get v87 H fun v88 H =>
     W.bin .sub i_17 v17 H fun v89 H =>
     W.indexAddr 1 v88 v89 H fun v90 H =>
     W.get v90 H fun v91 H =>
     W.indexAddr 1 v31 i_17 H fun v92 H =>
     W.get v92 H fun v93 H =>
     W.bin .mul v91 v93 H fun v94 H =>
     W.bin .add sum_14 v94 H fun v95 H =>
     f24.j4 Q i_17 I3 v95 x_15 v86 H)))
  (fun H => W.bin .mul (.int .i64 2) v56 H fun v96 H =>
   W.call Tryz.prog (.func (.func 89) #[] #[]) #[sum_14, v96] H fun v97 H =>
   W.call Tryz.prog (.func (.func 88) #[] #[]) #[v97] H fun v98 H =>
   W.extract 0 v98 H fun v99 H =>
   W.extract 1 v98 H fun v100 H =>
   W.new [(.int .i64 0), (.int .i64 0)] 34 H fun v101 H =>
   W.putN 2 v101 v99 H fun _ H =>
   W.bin .neq v100 (.int .i64 0) H fun v102 H =>
   W.cond v102 H
   (fun H => W.build [(.int .i64 0), (.int .i64 0)] [] H fun v103 H =>
    W.putN 2 v2 v103 H fun _ H =>
    W.getN 2 v2 H fun v104 H => Q (.tuple #[(.slice none 0 0), (.slice none 0 0), v104, v100]) H)
   (fun H => W.getN 2 v101 H fun v105 H =>
    W.putN 2 v2 v105 H fun _ H =>
    W.getN 2 v2 H fun v106 H => Q (.tuple #[x_15, y_16, v106, (.int .i64 0)]) H))
def f24.l2 (Q : Post) (v31 : Value) (v32 : Value) (s_8 : Value) (v2 : Value) (v17 : Value) (v1 : Value) (I1 : St [8] → Heap → Prop) (I2 : St [11, 12] → Heap → Prop) (good_11 : Value) (i_12 : Value) (H : Heap) : Prop :=
  W.len v31 H fun v35 H =>
  W.bin .lss i_12 v35 H fun v36 H =>
  W.cond v36 H
  (fun H => W.bin .lss v32 (.int .i64 0) H fun v37 H =>
   W.cond v37 H
   (fun H => W.indexAddr 1 v31 i_12 H fun v38 H =>
    W.get v38 H fun v39 H =>
    W.un .neg v39 H fun v40 H =>
    W.indexAddr 1 v31 i_12 H fun v41 H =>
    W.put v41 v40 H fun _ H =>
    f24.j2 Q good_11 v31 i_12 s_8 I2 H)
   (fun H => f24.j2 Q good_11 v31 i_12 s_8 I2 H))
  (fun H => W.un .not good_11 H fun v54 H =>
   W.cond v54 H
   (fun H => f24.j1 Q s_8 I1 H)
   (fun H => W.un .neg v32 H fun v55 H =>
    W.max2 v32 v55 H fun v56 H =>
    W.lit 0 [(.int .i64 0), (.int .i64 0)] 34 [] H fun v57 H =>
    W.lit 0 [(.int .i64 0), (.int .i64 0)] 34 [] H fun v58 H =>
    W.loop (S := St [14, 15, 16, 17]) (fun I3 s H => f24.l3 Q v31 v56 v2 v17 v1 I3 s.1 s.2.1 s.2.2.1 s.2.2.2.1 H) ((.int .i64 0), v57, v58, (.int .i64 0), ()) H))
def f24.l1 (Q : Post) (v18 : Value) (v2 : Value) (v17 : Value) (v1 : Value) (I1 : St [8] → Heap → Prop) (s_8 : Value) (H : Heap) : Prop :=
  W.fieldAddr 1 v18 H fun v19 H =>
  W.get v19 H fun v20 H =>
  W.len v20 H fun v21 H =>
  W.conv .u64 v21 H fun v22 H =>
  W.bin .shl (.int .i64 1) v22 H fun v23 H =>
  W.bin .lss s_8 v23 H fun v24 H =>
  W.cond v24 H
  (fun H => W.fieldAddr 0 v18 H fun v25 H =>
   W.get v25 H fun v26 H =>
   W.callQ Tryz.prog (.func (.func 95) #[] #[]) #[v26, s_8] H fun v27 H =>
   W.fieldAddr 1 v18 H fun v28 H =>
   W.get v28 H fun v29 H =>
   W.callQ Tryz.prog (.func (.func 94) #[] #[]) #[v27, v29] H fun v30 H =>
   W.extract 0 v30 H fun v31 H =>
   W.extract 1 v30 H fun v32 H =>
   W.bin .eql v32 (.int .i64 0) H fun v33 H =>
   W.cond v33 H
   (fun H => f24.j1 Q s_8 I1 H)
   (fun H => W.loop (S := St [11, 12]) (fun I2 s H => f24.l2 Q v31 v32 s_8 v2 v17 v1 I1 I2 s.1 s.2.1 H) ((.bool true), (.int .i64 0), ()) H))
  (fun H => W.build [(.int .i64 0), (.int .i64 0)] [] H fun v107 H =>
   W.putN 2 v2 v107 H fun _ H =>
   W.getN 2 v2 H fun v108 H => Q (.tuple #[(.slice none 0 0), (.slice none 0 0), v108, (.int .i64 4)]) H)
def f24.w (Q : Post) (p_0 : Value) (H : Heap) : Prop :=
  W.box p_0 27 H fun v1 H =>
  W.new [(.int .i64 0), (.int .i64 0)] 34 H fun v2 H =>
  W.getN 4 v1 H fun v3 H =>
  W.call Tryz.prog (.func (.func 54) #[] #[]) #[v3] H fun v4 H =>
  W.un .not v4 H fun v5 H =>
  W.cond v5 H
  (fun H => W.build [(.int .i64 0), (.int .i64 0)] [] H fun v6 H =>
   W.putN 2 v2 v6 H fun _ H =>
   W.getN 2 v2 H fun v7 H => Q (.tuple #[(.slice none 0 0), (.slice none 0 0), v7, (.int .i64 1)]) H)
  (fun H => W.getN 4 v1 H fun v8 H =>
   W.call Tryz.prog (.func (.func 92) #[] #[]) #[v8] H fun v9 H =>
   W.un .not v9 H fun v10 H =>
   W.cond v10 H
   (fun H => W.build [(.int .i64 0), (.int .i64 0)] [] H fun v11 H =>
    W.putN 2 v2 v11 H fun _ H =>
    W.getN 2 v2 H fun v12 H => Q (.tuple #[(.slice none 0 0), (.slice none 0 0), v12, (.int .i64 5)]) H)
   (fun H => W.getN 4 v1 H fun v13 H =>
    W.callQ Tryz.prog (.func (.func 93) #[] #[]) #[v13] H fun v14 H =>
    W.fieldAddr 1 v1 H fun v15 H =>
    W.get v15 H fun v16 H =>
    W.len v16 H fun v17 H =>
    W.new [(.slice none 0 0), (.slice none 0 0)] 62 H fun v18 H =>
    W.putN 2 v18 v14 H fun _ H =>
    W.chk (fun H k => W.get v15 H k) v16 H (W.loop (S := St [8]) (fun I1 s H => f24.l1 Q v18 v2 v17 v1 I1 s.1 H) ((.int .i64 0), ()) H)))
theorem f24.enter {Q : Post} {p_0 : Value} {H : Heap} (h : f24.w Q p_0 H) : Runs Tryz.prog 24 #[p_0] H Q :=
  fn_enter (ann := [(7, [8]), (13, [11, 12]), (24, [14, 15, 16, 17])]) (by kernel_rfl) Tryz.func24 rfl (by kernel_rfl) h (by kernel_rfl)


theorem told_frac2 {H0 : Heap} {Q : Post} {n d : Int} (hQ : ∀ H', H0.Le H' → Q (.tuple #[.agg (frC (fracT n d).1).toArray, .int .i64 (fracT n d).2]) H') : Runs Tryz.prog 88 #[.agg (frC (frac n d)).toArray] H0 Q := fn88 hQ

/-- The numbers of a point, the first i of them put in order. -/
def moL (n : Nat) (so pt : Nat → Int) (s i : Nat) : List Int := (List.range n).map fun k => if k < i then (if s.testBit k then pt k else 0) else so k

theorem moL_len (n : Nat) (so pt : Nat → Int) (s i : Nat) : (moL n so pt s i).length = n := by simp [moL]
theorem moL_at {n : Nat} {so pt : Nat → Int} {s i : Nat} (h : i < (moL n so pt s i).length) : (moL n so pt s i)[i] = so i := by simp [moL]
theorem moL_bit {n : Nat} {so pt : Nat → Int} {s i : Nat} (hb : s.testBit i = true) : (moL n so pt s i).set i (pt i) = moL n so pt s (i + 1) := by
  unfold moL
  refine range_set (by simp [hb]) fun k _ hk => ?_
  by_cases g : k < i
  · simp [g, show k < i + 1 by omega]
  · simp [g, show ¬ k < i + 1 by omega]
theorem moL_no {n : Nat} {so pt : Nat → Int} {s i : Nat} {y : Int} (hb : s.testBit i = false) : ((moL n so pt s i).set i y).set i 0 = moL n so pt s (i + 1) := by
  rw [List.set_set]
  unfold moL
  refine range_set (by simp [hb]) fun k _ hk => ?_
  by_cases g : k < i
  · simp [g, show k < i + 1 by omega]
  · simp [g, show ¬ k < i + 1 by omega]
theorem moL_same {n : Nat} {so pt : Nat → Int} {s i : Nat} (hi : i < n) (h : so i = pt i) : (moL n so pt s i).set i (pt i) = moL n so pt s i := by
  have h1 : i < (moL n so pt s i).length := by rw [moL_len]; exact hi
  have := List.set_getElem_self h1
  rw [moL_at h1, h] at this
  exact this

theorem moL_zero {n : Nat} {l : List Int} {pt : Nat → Int} {s : Nat} (h : l.length = n) : moL n (fun k => l.getD k 0) pt s 0 = l := by
  apply List.ext_getElem
  · simp [moL, h]
  · intro j h1 h2
    simp [moL, List.getD_eq_getElem?_getD, List.getElem?_eq_getElem h2]

theorem moL_all {n : Nat} {so : Nat → Int} {l : List Int} {s : Nat} : moL n so (fun k => l.getD k 0) s n = onlyL n l s := List.map_congr_left fun k hk => by
  have : k < n := by simpa using hk
  rw [if_pos this]

theorem pt_at {n : Nat} {p : Prob} {s i : Nat} (hi : i < n) : (ptOf n p s).getD i 0 = sgI (det n (mAt (colL n p.1 s))) * (solveL n (colL n p.1 s) p.2).getD i 0 := by
  have h1 := ptOf_len (n := n) (p := p) s
  have h2 := solveL_len n (colL n p.1 s) p.2
  rw [atD (by omega), atD (by omega)]
  simp [ptOf, pointL]

theorem sumTo_split (f : Nat → Int) (a : Nat) : ∀ b, sumTo f (a + b) = sumTo f a + sumTo (fun j => f (a + j)) b
  | 0 => by simp [sumTo]
  | b + 1 => by
    show sumTo f (a + b) + f (a + b) = sumTo f a + (sumTo (fun j => f (a + j)) b + f (a + b))
    rw [sumTo_split f a b]
    omega

theorem moSum_to {g : Prg} {z : List Int} (hl : z.length = nOf g) : sumTo (fun k => (g.2.1 ++ g.2.2.2).getD k 0 * z.getD k 0) (nOf g) = moSum g z := by
  unfold moSum dot
  rw [sumTo_split]
  congr 1
  · refine sumTo_congr fun i hi => ?_
    simp only [dotF, List.getD_eq_getElem?_getD, List.getElem?_append_left hi, List.getElem?_take_of_lt hi]
  · refine sumTo_congr fun i hi => ?_
    simp only [dotF, List.getD_eq_getElem?_getD, List.getElem?_drop]
    rw [List.getElem?_append_right (by omega)]
    simp

/-- What is behind the search: the fractions and their sum. -/
theorem mo_end {H0 H : Heap} {Q : Post} {u1 u2 u3 u4 a v w1 w2 : Value} {b b2 b3 : Nat} {cols : List (List Int)} {g : Prg} {s : Nat} (hp : IsPrg g) (hD0 : det (nOf g) (mAt (colL (nOf g) (prgProblem g).1 s)) ≠ 0)
    (h : Ab.Loc H0 [.data RS [a] (moZ g s), .data RG [v] cols, .box b3 [w1, w2], .data RProblem [w1, w2] (prgProblem g), .box b2 [.int .i64 0, .int .i64 0], .box b [u1, u2, u3, u4], .lent RPrg [u1, u2, u3, u4] g, .lent RS [u4] g.2.2.2, .lent RS [u2] g.2.1] H)
    (hz : ∀ H c, H0.Le H → moAt g s = ([], [], (0, 0), c) → Q (.tuple #[.slice none 0 0, .slice none 0 0, .agg (frC (0, 0)).toArray, .int .i64 c]) H)
    (hQ : ∀ H' u w, Fresh (RFS.pair RFS) H0 [u, w] ((moAt g s).1, (moAt g s).2.1) H' → Q (.tuple #[u, w, .agg (frC (moAt g s).2.2.1).toArray, .int .i64 (moAt g s).2.2.2]) H') :
    W.lit 0 [.int .i64 0, .int .i64 0] 34 [] H fun v57 H => W.lit 0 [.int .i64 0, .int .i64 0] 34 [] H fun v58 H =>
      W.loop (S := St [14, 15, 16, 17]) (fun I3 t H => f24.l3 Q a (.int .i64 (moD g s)) (pt b2 0) (.int .i64 (g.2.1.length : Nat)) (pt b 0) I3 t.1 t.2.1 t.2.2.1 t.2.2.2.1 H) (.int .i64 0, v57, v58, .int .i64 0, ()) H := by
  have hpb := prg_pb hp
  have hn5 : nOf g ≤ 5 := hpb.n5
  have hnof : nOf g = g.2.1.length + g.2.2.2.length := rfl
  have n1 := hp.n1
  have hDa : (moD g s).natAbs ≤ 384000000 := by
    have := colL_leib (n := nOf g) s hn5 hpb.m
    show (((det (nOf g) (mAt (colL (nOf g) (prgProblem g).1 s))).natAbs : Nat) : Int).natAbs ≤ _
    omega
  have hD : moD g s ≠ 0 := by
    show (((det (nOf g) (mAt (colL (nOf g) (prgProblem g).1 s))).natAbs : Nat) : Int) ≠ 0
    omega
  have hza := moZ_abs hp s
  have hzl := moZ_len g s
  have hst := moSum_to hzl
  have hma : ∀ H : Heap, moAt g s = moAt g s := fun _ => rfl
  have hmo : moAt g s = if (frAll (moZ g s) (moD g s)).2 = 0 then
    (if (fracT (moSum g (moZ g s)) (2 * moD g s)).2 = 0 then ((frAll (moZ g s) (moD g s)).1.take g.2.1.length, (frAll (moZ g s) (moD g s)).1.drop g.2.1.length, (fracT (moSum g (moZ g s)) (2 * moD g s)).1, 0)
      else ([], [], (0, 0), (fracT (moSum g (moZ g s)) (2 * moD g s)).2))
    else ([], [], (0, 0), (frAll (moZ g s) (moD g s)).2) := rfl
  generalize hR : moAt g s = R at *
  generalize hzz : moZ g s = z at *
  generalize hDD : moD g s = D at *
  clear hma
  have hcb : ∀ e ∈ g.2.1 ++ g.2.2.2, e.natAbs ≤ 100 := fun e he => by
    rcases List.mem_append.1 he with he | he
    · have := hp.c e he; omega
    · have := hp.b e he; omega
  have hta : ∀ k, ((g.2.1 ++ g.2.2.2).getD k 0 * z.getD k 0).natAbs ≤ 100 * 1920000000 := fun k => mul_abs (getD_abs hcb k) (getD_abs hza k)
  refine Wl.lit0 (ty := 34) RFrac rfl h fun H v57 h => Wl.lit0 (ty := 34) RFrac rfl h fun H v58 h => ?_
  refine W.for_rule (nOf g) (fun i st H => ∃ x y, st = (.int .i64 (sumTo (fun k => (g.2.1 ++ g.2.2.2).getD k 0 * z.getD k 0) i), x, y, .int .i64 (i : Nat), ()) ∧
    Ab.Loc H0 [.grow RFrac 34 y ((List.range (i - g.2.1.length)).map fun k => (fracT (z.getD (g.2.1.length + k) 0) D).1), .grow RFrac 34 x ((List.range (min i g.2.1.length)).map fun k => (fracT (z.getD k 0) D).1),
      .data RS [a] z, .data RG [v] cols, .box b3 [w1, w2], .data RProblem [w1, w2] (prgProblem g), .box b2 [.int .i64 0, .int .i64 0], .box b [u1, u2, u3, u4], .lent RPrg [u1, u2, u3, u4] g, .lent RS [u4] g.2.2.2, .lent RS [u2] g.2.1] H ∧ ∀ j (hj : j < z.length), j < i → (fracT z[j] D).2 = 0) ⟨_, _, rfl, by simpa using h, fun j _ hj => by omega⟩ ?_
  rintro i st H J hi ⟨x, y, rfl, h, hok⟩ hJ
  have hs1 : (sumTo (fun k => (g.2.1 ++ g.2.2.2).getD k 0 * z.getD k 0) i).natAbs ≤ i * (100 * 1920000000) := sumTo_abs fun k _ => hta k
  have hs5 := Nat.mul_le_mul_right (100 * 1920000000) (show i ≤ 5 by omega)
  refine Wl.len h (Wi.lssC (fun hlt => Wi.tru ?_) fun hge => Wi.fls ?_)
  · have hix : i < z.length := by omega
    have hI : I64 ((i : Int) + 1) := by unfold I64; omega
    have hzi := hza _ (List.getElem_mem hix)
    have ezi : z.getD i 0 = z[i] := atD hix
    refine Wl.atInt h hix fun _ => Wi.call (fn89 (by unfold B64; omega) (by unfold B64; omega) hD fun H l => Wi.call (told_frac2 fun H2 l2 => ?_))
    have h := h.to (l.trans l2)
    simp only [gw]
    refine Wl.new h fun H b4 h => Wl.putA (vs := frC _) h rfl rfl rfl fun H h => Wi.neqC (fun hne => Wi.tru ?_) fun he => Wi.fls ?_
    · obtain ⟨e1, e2⟩ := frAll_bad hix hne
      exact Wi.build (cells := frC (0, 0)) rfl (Wl.putA h rfl rfl rfl fun H h => Wl.getA h rfl (hz _ _ h.le (by rw [hmo, e1, e2]; rfl)))
    have hok' : ∀ j (hj : j < z.length), j < i + 1 → (fracT z[j] D).2 = 0 := fun j hj hji => by
      by_cases e : j = i
      · subst e; exact he
      · exact hok j hj (by omega)
    have hti := hta i
    have hs2 : sumTo (fun k => (g.2.1 ++ g.2.2.2).getD k 0 * z.getD k 0) (i + 1) = sumTo (fun k => (g.2.1 ++ g.2.2.2).getD k 0 * z.getD k 0) i + (g.2.1 ++ g.2.2.2).getD i 0 * z.getD i 0 := rfl
    generalize hSS : sumTo (fun k => (g.2.1 ++ g.2.2.2).getD k 0 * z.getD k 0) i = S at *
    rw [ezi] at hti hs2
    refine Wi.lssC (fun hlo => Wi.tru ?_) fun hhi => Wi.fls ?_
    · have hic : i < g.2.1.length := by omega
      have ec : (g.2.1 ++ g.2.2.2).getD i 0 = g.2.1[i] := by simp [List.getD_eq_getElem?_getD, List.getElem?_append_left hic, List.getElem?_eq_getElem hic]
      rw [ec] at hti hs2
      refine Wl.getA h rfl (Wl.pushP (r := RFrac) (x := (fracT z[i] D).1) rfl rfl rfl (frac_rel (fracT_i64 _ _)) h (i := 2) (by simp; omega) fun H x' h => ?_)
      simp only [List.set_cons_succ, List.set_cons_zero] at h
      refine Wi.fieldAddr (Wl.get h rfl (Wl.atInt h hic fun _ => Wl.atInt h hix fun _ => Wi.mul (by unfold I64; omega) (Wi.add (by unfold I64; omega) ?_)))
      unfold f24.j4
      refine Wi.add hI (hJ _ _ (by omega) ⟨x', y, ?_, ?_, hok'⟩)
      · rw [hs2]; rfl
      · have e1 : min i g.2.1.length = i := by omega
        have e2 : min (i + 1) g.2.1.length = i + 1 := by omega
        have e3 : i + 1 - g.2.1.length = i - g.2.1.length := by omega
        rw [e2, e3, ← range_push (f := fun k => (fracT (z.getD k 0) D).1) (k := i) (x := (fracT z[i] D).1) (by rw [ezi])]
        rw [e1] at h
        exact h.tl
    · have hic : g.2.1.length ≤ i := by omega
      have hib : i - g.2.1.length < g.2.2.2.length := by omega
      have ec : (g.2.1 ++ g.2.2.2).getD i 0 = g.2.2.2[i - g.2.1.length] := by simp [List.getD_eq_getElem?_getD, List.getElem?_append_right hic, List.getElem?_eq_getElem hib]
      rw [ec] at hti hs2
      refine Wl.getA h rfl (Wl.pushP (r := RFrac) (x := (fracT z[i] D).1) rfl rfl rfl (frac_rel (fracT_i64 _ _)) h (i := 1) (by simp; omega) fun H y' h => ?_)
      simp only [List.set_cons_succ, List.set_cons_zero] at h
      refine Wi.fieldAddr (Wl.get h rfl (Wi.sub (by unfold I64; omega) ?_))
      rw [show ((i : Nat) : Int) - ((g.2.1.length : Nat) : Int) = ((i - g.2.1.length : Nat) : Int) by omega]
      refine Wl.atInt h hib fun _ => Wl.atInt h hix fun _ => Wi.mul (by unfold I64; omega) (Wi.add (by unfold I64; omega) ?_)
      unfold f24.j4
      refine Wi.add hI (hJ _ _ (by omega) ⟨x, y', ?_, ?_, hok'⟩)
      · rw [hs2]; rfl
      · have e1 : min i g.2.1.length = g.2.1.length := by omega
        have e2 : min (i + 1) g.2.1.length = g.2.1.length := by omega
        have e3 : i + 1 - g.2.1.length = (i - g.2.1.length) + 1 := by omega
        rw [e2, e3, ← range_push (f := fun k => (fracT (z.getD (g.2.1.length + k) 0) D).1) (k := i - g.2.1.length) (x := (fracT z[i] D).1) (by rw [show g.2.1.length + (i - g.2.1.length) = i by omega, ezi])]
        rw [e1] at h
        exact h.tl
  · have : i = nOf g := by omega
    subst this
    have hall := frAll_ok (l := z) (d := D) fun j hj => hok j hj (by omega)
    rw [hst]
    rw [hst] at hs1
    refine Wi.mul (by unfold I64; omega) (Wi.call (fn89 (n := moSum g z) (d := 2 * D) (by unfold B64; omega) (by unfold B64; omega) (by omega) fun H l => Wi.call (told_frac2 fun H2 l2 => ?_)))
    have h := h.to (l.trans l2)
    simp only [gw]
    refine Wl.new h fun H b4 h => Wl.putA (vs := frC _) h rfl rfl rfl fun H h => Wi.neqC (fun hne => Wi.tru ?_) fun he => Wi.fls ?_
    · exact Wi.build (cells := frC (0, 0)) rfl (Wl.putA h rfl rfl rfl fun H h => Wl.getA h rfl (hz _ _ h.le (by rw [hmo, hall]; simp only [if_neg hne]; rfl)))
    refine Wl.getA h rfl (Wl.putA h rfl rfl rfl fun H h => Wl.getA h rfl ?_)
    have e1 : (z.map fun n => (fracT n D).1).take g.2.1.length = (List.range (min (nOf g) g.2.1.length)).map fun k => (fracT (z.getD k 0) D).1 := by
      apply List.ext_getElem
      · simp; omega
      · intro j h1 h2
        have hj : j < z.length := by simp at h1; omega
        simp [List.getD_eq_getElem?_getD, List.getElem?_eq_getElem hj]
    have e2 : (z.map fun n => (fracT n D).1).drop g.2.1.length = (List.range (nOf g - g.2.1.length)).map fun k => (fracT (z.getD (g.2.1.length + k) 0) D).1 := by
      apply List.ext_getElem
      · simp; omega
      · intro j h1 h2
        have hj : g.2.1.length + j < z.length := by simp at h1; omega
        simp [List.getD_eq_getElem?_getD, List.getElem?_eq_getElem hj]
    have hfin : R = ((List.range (min (nOf g) g.2.1.length)).map (fun k => (fracT (z.getD k 0) D).1), (List.range (nOf g - g.2.1.length)).map (fun k => (fracT (z.getD (g.2.1.length + k) 0) D).1), (fracT (moSum g z) (2 * D)).1, 0) := by
      rw [hmo, hall, ← e1, ← e2]
      simp only [if_pos he, if_true]
    have h := (h.asData (i := 2) rfl).asData (i := 1) rfl
    have := hQ _ x y (by rw [hfin]; exact h.ret2 (i := 2) (j := 1) rfl rfl (by decide))
    rw [hfin] at this
    exact this

theorem fn24 {H0 : Heap} {Q : Post} {cs : List Value} {g : Prg} (hr : Has RPrg H0 cs g) (hw : wPrg g ≤ 1048576)
    (hQ : ∀ H' u w, Fresh (RFS.pair RFS) H0 [u, w] ((moRes g).1, (moRes g).2.1) H' → Q (.tuple #[u, w, .agg (frC (moRes g).2.2.1).toArray, .int .i64 (moRes g).2.2.2]) H') : Runs Tryz.prog 24 #[.agg cs.toArray] H0 Q := by
  obtain ⟨u1, u2, u3, u4, rfl, r1, r2, r3, r4⟩ := hasPrg hr
  have hz : ∀ H c, H0.Le H → moRes g = ([], [], (0, 0), c) → Q (.tuple #[.slice none 0 0, .slice none 0 0, .agg (frC (0, 0)).toArray, .int .i64 c]) H := fun H c l e => by
    have := hQ H (.slice none 0 0) (.slice none 0 0) (by rw [e]; exact fresh_nil2 l)
    rw [e] at this
    exact this
  have h := ((((Loc.start H0).lent r2).lent r4).lent hr)
  refine f24.enter ?_
  unfold f24.w
  refine Wl.box h fun H b h => Wl.new h fun H b2 h => Wl.getA h rfl (Wi.call (fn54 (h.rd (cs := [u1, u2, u3, u4])) hw fun H t l ht => ?_))
  have h := h.to l
  cases t with
  | false =>
    simp only [gw]
    exact Wi.build (cells := frC (0, 0)) rfl (Wl.putA h rfl rfl rfl fun H h => Wl.getA h rfl (hz _ _ h.le (by unfold moRes; rw [if_neg (fun g => Bool.noConfusion (ht.2 g))])))
  | true =>
  have hp := ht.1 rfl
  simp only [gw]
  refine Wl.getA h rfl (Wi.call (fn92 (h.rd (cs := [u1, u2, u3, u4])) hp fun H l => ?_))
  have h := h.to l
  cases hc : semiL g.2.1.length g.1 with
  | false =>
    simp only [gw]
    exact Wi.build (cells := frC (0, 0)) rfl (Wl.putA h rfl rfl rfl fun H h => Wl.getA h rfl (hz _ _ h.le (by unfold moRes; rw [if_pos hp, if_neg (by rw [hc]; exact Bool.false_ne_true)])))
  | true =>
  simp only [gw]
  have hpb := prg_pb hp
  have hn := hpb.n5
  have hql := hpb.ql
  have h32 := pow5 hn
  have n1 := hp.n1
  have hn5 : nOf g ≤ 5 := hn
  refine Wl.getA h rfl (Wi.callQ (fn93 (h.rd (cs := [u1, u2, u3, u4])) hp fun H w1 w2 f => ⟨f.le, ?_⟩))
  have h := h.add f
  refine Wi.fieldAddr (Wl.get h rfl (Wl.len h (Wl.new h fun H b3 h => Wl.putA h rfl (h.rd (cs := [w1, w2])).len (h.rd (cs := [w1, w2])).cell fun H h => Wi.chk (Wl.get h rfl ⟨rfl, rfl⟩) ?_)))
  have hsome := fun x => moRes_some (g := g) (s := x) hp hc
  have hnone := moRes_none (g := g) hp hc
  refine W.for_rule (2 ^ nOf g) (fun x st H => st = (.int .i64 (x : Nat), ()) ∧ Ab.Loc H0 [.box b3 [w1, w2], .data RProblem [w1, w2] (prgProblem g), .box b2 [.int .i64 0, .int .i64 0], .box b [u1, u2, u3, u4], .lent RPrg [u1, u2, u3, u4] g, .lent RS [u4] g.2.2.2, .lent RS [u2] g.2.1] H ∧ ∀ j, j < x → mcB (nOf g) (prgProblem g) j = false) ⟨rfl, h, fun j hj => by omega⟩ ?_
  rintro x st H J hx ⟨rfl, h, hbef⟩ hJ
  obtain ⟨y1, y2, ey, q1, q2⟩ := hasProb (h.rd (cs := [w1, w2]))
  cases ey
  refine Wi.fieldAddr (Wl.get h rfl (Wl.lenH q2 (Wi.convN (by omega) (Wi.shl1 (by omega) ?_))))
  rw [hql]
  have eN : 2 ^ (g.2.1.length + g.2.2.2.length) = 2 ^ nOf g := rfl
  rw [eN]
  have hN32 : 2 ^ nOf g ≤ 32 := h32
  generalize hN : 2 ^ nOf g = N at *
  refine Wi.lssC (fun hlt => Wi.tru ?_) fun hge => Wi.fls ?_
  · have hxN : x < N := by omega
    have hI : I64 ((x : Int) + 1) := by unfold I64; omega
    have next : mcB (nOf g) (prgProblem g) x = false → ∀ j, j < x + 1 → mcB (nOf g) (prgProblem g) j = false := fun hm j hj => by
      by_cases e : j = x
      · subst e; exact hm
      · exact hbef j (by omega)
    have hcs := tabL_sq (nOf g) (colE (prgProblem g).1 x)
    have hcb : ∀ r c, r < nOf g → c < nOf g → (mAt (colL (nOf g) (prgProblem g).1 x) r c).natAbs ≤ 20 := fun r c hr hc => by rw [colL_at hr hc]; exact colE_abs (hpb.m r c)
    have eN2 : g.2.1.length + g.2.2.2.length = nOf g := rfl
    refine Wi.fieldAddr0 (Wl.get h rfl (Wi.callQ (fn95 (n := nOf g) q1 hpb.sq hn hpb.m (by omega) fun H v f => ⟨f.le, ?_⟩)))
    have q2' := q2.le f.le
    have h := (h.addG f).asData (i := 0) rfl
    refine Wi.fieldAddr (Wl.get h rfl (Wi.callQ (fn94 (n := nOf g) (h.rd (cs := [v])) q2' hcs hn hql hcb hpb.q fun H a f => ⟨f.le, ?_⟩)))
    have h := h.add f
    simp only [gw]
    have hsl := solveL_len (nOf g) (colL (nOf g) (prgProblem g).1 x) (prgProblem g).2
    have hsa := solve_leib (n := nOf g) x hn hpb.m hpb.q
    refine Wi.eqlC (fun hz0 => Wi.tru ?_) fun hnz => Wi.fls ?_
    · unfold f24.j1
      exact Wi.add hI (hJ _ _ hxN ⟨rfl, h.tl.tl, next (mcB_no hz0)⟩)
    have hpl := ptOf_len (n := nOf g) (p := prgProblem g) x
    have hpa := ptOf_abs hpb x
    have hpt := fun i (hi : i < nOf g) => pt_at (p := prgProblem g) (s := x) hi
    have hsg : sgI (det (nOf g) (mAt (colL (nOf g) (prgProblem g).1 x))) = if det (nOf g) (mAt (colL (nOf g) (prgProblem g).1 x)) < 0 then -1 else 1 := by
      unfold sgI
      split
      · rfl
      · rw [if_pos (by omega)]
    have hmc := mcB_of (n := nOf g) (p := prgProblem g) (s := x) hnz
    have hDl := colL_leib (n := nOf g) x hn hpb.m
    have hmz : moZ g x = onlyL (nOf g) (ptOf (nOf g) (prgProblem g) x) x := rfl
    have hmd : moD g x = ((det (nOf g) (mAt (colL (nOf g) (prgProblem g).1 x))).natAbs : Nat) := rfl
    have hend := fun (H : Heap) (a : Value) h hz hQ => mo_end (H0 := H0) (H := H) (Q := Q) (u1 := u1) (u2 := u2) (u3 := u3) (u4 := u4) (a := a) (v := v) (w1 := w1) (w2 := w2) (b3 := b3) (cols := colL (nOf g) (prgProblem g).1 x) (b := b) (b2 := b2) (g := g) (s := x) hp hnz h hz hQ
    rw [hmz, hmd] at hend
    generalize hD : det (nOf g) (mAt (colL (nOf g) (prgProblem g).1 x)) = D at *
    generalize hS : solveL (nOf g) (colL (nOf g) (prgProblem g).1 x) (prgProblem g).2 = sol at *
    generalize hP : ptOf (nOf g) (prgProblem g) x = pt' at *
    refine W.for_rule (nOf g) (fun i st H => st = (.bool ((pt'.take i).all fun e => decide (0 ≤ e)), .int .i64 (i : Nat), ()) ∧ Ab.Loc H0 [.data RS [a] (moL (nOf g) (fun k => sol.getD k 0) (fun k => pt'.getD k 0) x i), .data RG [v] (colL (nOf g) (prgProblem g).1 x), .box b3 [w1, w2], .data RProblem [w1, w2] (prgProblem g), .box b2 [.int .i64 0, .int .i64 0], .box b [u1, u2, u3, u4], .lent RPrg [u1, u2, u3, u4] g, .lent RS [u4] g.2.2.2, .lent RS [u2] g.2.1] H) ⟨rfl, by rw [moL_zero hsl]; exact h⟩ ?_
    rintro i st H J2 hi ⟨rfl, h⟩ hJ2
    have hml := moL_len (nOf g) (fun k => sol.getD k 0) (fun k => pt'.getD k 0) x i
    refine Wl.len h ?_
    rw [hml]
    refine Wi.lssC (fun hlt2 => Wi.tru ?_) fun hge2 => Wi.fls ?_
    · have hin : i < nOf g := by omega
      have hI2 : I64 ((i : Int) + 1) := by unfold I64; omega
      have hip : i < pt'.length := by omega
      have ha := hpa _ (List.getElem_mem hip)
      have hpi : pt'.getD i 0 = pt'[i] := atD hip
      have hpe := hpt i hin
      have j2 : ∀ H, Ab.Loc H0 [.data RS [a] ((moL (nOf g) (fun k => sol.getD k 0) (fun k => pt'.getD k 0) x i).set i (pt'.getD i 0)), .data RG [v] (colL (nOf g) (prgProblem g).1 x), .box b3 [w1, w2], .data RProblem [w1, w2] (prgProblem g), .box b2 [.int .i64 0, .int .i64 0], .box b [u1, u2, u3, u4], .lent RPrg [u1, u2, u3, u4] g, .lent RS [u4] g.2.2.2, .lent RS [u2] g.2.1] H →
          f24.j2 Q (.bool ((pt'.take i).all fun e => decide (0 ≤ e))) a (.int .i64 (i : Nat)) (.int .i64 (x : Nat)) J2 H := fun H h => by
        have et : ((pt'.take (i + 1)).all fun e => decide (0 ≤ e)) = (((pt'.take i).all fun e => decide (0 ≤ e)) && decide (0 ≤ pt'[i])) := by
          rw [List.take_succ_eq_append_getElem hip, List.all_append]
          simp
        have hl2 : i < ((moL (nOf g) (fun k => sol.getD k 0) (fun k => pt'.getD k 0) x i).set i (pt'.getD i 0)).length := by rw [List.length_set, hml]; exact hin
        have fin : ∀ c, c = ((pt'.take (i + 1)).all fun e => decide (0 ≤ e)) → W.conv .u64 (.int .i64 (i : Nat)) H fun v48 H => W.bin .shr (.int .i64 (x : Nat)) v48 H fun v49 H => W.bin .and v49 (.int .i64 1) H fun v50 H => W.bin .eql v50 (.int .i64 0) H fun v51 H =>
            W.cond v51 H (fun H => W.indexAddr 1 a (.int .i64 (i : Nat)) H fun v52 H => W.put v52 (.int .i64 0) H fun _ H => f24.j3 Q (.int .i64 (i : Nat)) (.bool c) J2 H) (fun H => f24.j3 Q (.int .i64 (i : Nat)) (.bool c) J2 H) := fun c hcc => by
          subst hcc
          refine Wi.convN (by omega) (Wi.shrN (by omega) (by omega) (Wi.and1 (Wi.eqlC (fun hz0 => Wi.tru ?_) fun hnz0 => Wi.fls ?_)))
          · have hb : x.testBit i = false := by
              cases hb : x.testBit i with
              | false => rfl
              | true => have := bit_iff.2 hb; omega
            refine Wl.setInt h hl2 (by unfold I64; omega) fun H h => ?_
            unfold f24.j3
            refine Wi.add hI2 (hJ2 _ _ hin ⟨rfl, ?_⟩)
            rw [moL_no hb] at h
            exact h
          · have hb : x.testBit i = true := bit_iff.1 (by omega)
            unfold f24.j3
            refine Wi.add hI2 (hJ2 _ _ hin ⟨rfl, ?_⟩)
            have := moL_bit (n := nOf g) (so := fun k => sol.getD k 0) (pt := fun k => pt'.getD k 0) hb
            rw [this] at h
            exact h
        unfold f24.j2
        generalize hg : ((pt'.take i).all fun e => decide (0 ≤ e)) = c at *
        cases c with
        | false =>
          simp only [gw]
          exact fin _ (by rw [et]; rfl)
        | true =>
          simp only [gw]
          refine Wl.atInt h hl2 fun _ => ?_
          rw [List.getElem_set_self, hpi]
          exact Wi.geq (fin _ (by rw [et]; rfl))
      have hl1 : i < (moL (nOf g) (fun k => sol.getD k 0) (fun k => pt'.getD k 0) x i).length := by rw [hml]; exact hin
      refine Wi.lssC (fun hneg => Wi.tru ?_) fun hpos => Wi.fls ?_
      · rw [hsg, if_pos hneg] at hpe
        refine Wl.atInt h hl1 fun _ => ?_
        rw [moL_at hl1]
        refine Wi.neg (by unfold I64; omega) (Wl.setInt h hl1 (by unfold I64; omega) fun H h => j2 _ ?_)
        rw [show pt'.getD i 0 = -(sol.getD i 0) by omega]
        exact h
      · rw [hsg, if_neg hpos, Int.one_mul] at hpe
        refine j2 _ ?_
        rw [moL_same (so := fun k => sol.getD k 0) (pt := fun k => pt'.getD k 0) hin hpe.symm]
        exact h
    · have : i = nOf g := by omega
      subst this
      rw [show pt'.take (nOf g) = pt' from List.take_of_length_le (by omega), ← hmc]
      cases hm : mcB (nOf g) (prgProblem g) x with
      | false =>
        refine Wi.not (Wi.tru ?_)
        unfold f24.j1
        exact Wi.add hI (hJ _ _ hxN ⟨rfl, h.tl.tl, next hm⟩)
      | true =>
        refine Wi.not (Wi.fls ?_)
        have hmo := hsome x hxN hm hbef
        rw [moL_all] at h
        refine Wi.neg (by unfold I64; omega) (Wi.max2 (c := ((D.natAbs : Nat) : Int)) (by split <;> omega) ?_)
        rw [hmo] at hz hQ
        exact hend H a h hz hQ
  · have : x = N := by omega
    subst this
    exact Wi.build (cells := frC (0, 0)) rfl (Wl.putA h rfl rfl rfl fun H h => Wl.getA h rfl (hz _ _ h.le (hnone hbef)))

end Go.Proofs.YtdchibdcfdbcpaaGreat

/-! Draws: fractions, places of programs. No condition. -/
namespace Go.Proofs.YtdchibdcfdbcpaaGreat
open Go.Ab

/- loop.example/g01343/spec.l09DrawX -/
def f130.j1 (Q : Post) (s_0 : Value) (v5 : Value) (out_5 : Value) (i_8 : Value) (I1 : St [5, 8] → Heap → Prop) (x_9 : Value) (H : Heap) : Prop :=
  W.call Tryz.prog (.func (.func 47) #[] #[]) #[s_0, v5] H fun v12 H =>
  W.bin .add (.int .i64 1) v12 H fun v13 H =>
  W.call Tryz.prog (.func (.func 89) #[] #[]) #[x_9, v13] H fun v14 H =>
  W.lit 1 [(.int .i64 0), (.int .i64 0)] 34 [(0, 2, v14)] H fun v15 H =>
  W.append 2 34 out_5 v15 H fun v16 H =>
  W.bin .add i_8 (.int .i64 1) H fun v17 H =>
  I1 (v16, v17, ()) H
def f130.j2 (Q : Post) (out_5' : Value) (H : Heap) : Prop :=
  Q out_5' H
def f130.j3 (Q : Post) (out_5'' : Value) (H : Heap) : Prop :=
  f130.j2 Q out_5'' H
def f130.l1 (Q : Post) (n_1 : Value) (s_0 : Value) (v3 : Value) (v5 : Value) (I1 : St [5, 8] → Heap → Prop) (out_5 : Value) (i_8 : Value) (H : Heap) : Prop :=
  W.bin .lss i_8 n_1 H fun v6 H =>
  W.cond v6 H
  (fun H => W.call Tryz.prog (.func (.func 84) #[] #[]) #[s_0, v3] H fun v7 H =>
   W.call Tryz.prog (.func (.func 47) #[] #[]) #[s_0, (.int .i64 3)] H fun v8 H =>
   W.bin .gtr v8 (.int .i64 0) H fun v9 H =>
   W.cond v9 H
   (fun H => W.un .neg v7 H fun v10 H =>
    W.max2 v7 v10 H fun v11 H =>
    f130.j1 Q s_0 v5 out_5 i_8 I1 v11 H)
   (fun H => f130.j1 Q s_0 v5 out_5 i_8 I1 v7 H))
  (fun H => W.call Tryz.prog (.func (.func 47) #[] #[]) #[s_0, (.int .i64 24)] H fun v18 H =>
   W.bin .eql v18 (.int .i64 0) H fun v19 H =>
   W.cond v19 H
   (fun H => W.call Tryz.prog (.func (.func 158) #[] #[]) #[s_0] H fun v20 H =>
    W.indexAddr 2 out_5 (.int .i64 0) H fun v21 H =>
    W.putN 2 v21 v20 H fun _ H =>
    f130.j2 Q out_5 H)
   (fun H => W.bin .eql v18 (.int .i64 1) H fun v22 H =>
    W.cond v22 H
    (fun H => W.build [(.int .i64 0), (.int .i64 0)] [(0, 1, (.int .i64 0)), (1, 1, (.int .i64 1))] H fun v23 H =>
     W.lit 1 [(.int .i64 0), (.int .i64 0)] 34 [(0, 2, v23)] H fun v24 H =>
     W.append 2 34 out_5 v24 H fun v25 H =>
     f130.j3 Q v25 H)
    (fun H => f130.j3 Q out_5 H)))
def f130.w (Q : Post) (s_0 : Value) (n_1 : Value) (H : Heap) : Prop :=
  W.lit 0 [(.int .i64 0), (.int .i64 0)] 34 [] H fun v1 H =>
  W.lit 3 [(.int .i64 0)] 2 [(0, 1, (.int .i64 3)), (1, 1, (.int .i64 30)), (2, 1, (.int .i64 1000))] H fun v2 H =>
  W.call Tryz.prog (.func (.func 70) #[] #[]) #[s_0, v2] H fun v3 H =>
  W.lit 4 [(.int .i64 0)] 2 [(0, 1, (.int .i64 1)), (1, 1, (.int .i64 1)), (2, 1, (.int .i64 3)), (3, 1, (.int .i64 12))] H fun v4 H =>
  W.call Tryz.prog (.func (.func 70) #[] #[]) #[s_0, v4] H fun v5 H =>
  W.loop (S := St [5, 8]) (fun I1 s H => f130.l1 Q n_1 s_0 v3 v5 I1 s.1 s.2.1 H) (v1, (.int .i64 0), ()) H
theorem f130.enter {Q : Post} {s_0 : Value} {n_1 : Value} {H : Heap} (h : f130.w Q s_0 n_1 H) : Runs Tryz.prog 130 #[s_0, n_1] H Q :=
  fn_enter (ann := [(3, [5, 8])]) (by kernel_rfl) Tryz.func130 rfl (by kernel_rfl) h (by kernel_rfl)

/- loop.example/g01343/spec.l09With -/
def f100.j1 (Q : Post) (v3 : Value) (s_0 : Value) (v1 : Value) (x_6 : Value) (y_7' : Value) (H : Heap) : Prop :=
  W.getN 4 v3 H fun v30 H =>
  W.call Tryz.prog (.func (.func 49) #[] #[]) #[s_0, v30] H fun v31 H =>
  W.putN 4 v1 v31 H fun _ H =>
  W.getN 4 v1 H fun v32 H => Q (.tuple #[v32, x_6, y_7']) H
def f100.l1 (Q : Post) (v3 : Value) (s_0 : Value) (v1 : Value) (v7 : Value) (I1 : St [7, 8] → Heap → Prop) (y_7 : Value) (j_8 : Value) (H : Heap) : Prop :=
  W.fieldAddr 3 v3 H fun v9 H =>
  W.get v9 H fun v10 H =>
  W.len v10 H fun v11 H =>
  W.bin .lss j_8 v11 H fun v12 H =>
  W.cond v12 H
  (fun H => W.call Tryz.prog (.func (.func 47) #[] #[]) #[s_0, (.int .i64 3)] H fun v13 H =>
   W.build [(.int .i64 0), (.int .i64 0)] [(0, 1, v13), (1, 1, (.int .i64 1))] H fun v14 H =>
   W.lit 1 [(.int .i64 0), (.int .i64 0)] 34 [(0, 2, v14)] H fun v15 H =>
   W.append 2 34 y_7 v15 H fun v16 H =>
   W.bin .add j_8 (.int .i64 1) H fun v17 H =>
   I1 (v16, v17, ()) H)
  (fun H => W.getN 4 v3 H fun v18 H =>
   W.call Tryz.prog (.func (.func 24) #[] #[]) #[v18] H fun v19 H =>
   W.extract 0 v19 H fun v20 H =>
   W.extract 1 v19 H fun v21 H =>
   W.extract 2 v19 H fun v22 H =>
   W.extract 3 v19 H fun v23 H =>
   W.new [(.int .i64 0), (.int .i64 0)] 34 H fun v24 H =>
   W.putN 2 v24 v22 H fun _ H =>
   W.bin .eql v23 (.int .i64 0) H fun v25 H =>
   W.guarded v25 true (fun H k => k s_0 H) H fun v26 H =>
   W.guarded v25 true (fun H k => W.call Tryz.prog (.func (.func 47) #[] #[]) #[v26, (.int .i64 2)] H k) H fun v27 H =>
   W.guarded v25 true (fun H k => W.bin .eql v27 (.int .i64 0) H k) H fun v28 H =>
   W.pick v25 v28 (.bool false) H fun v29 H =>
   W.cond v29 H
   (fun H => f100.j1 Q v3 s_0 v1 v20 v21 H)
   (fun H => f100.j1 Q v3 s_0 v1 v7 y_7 H))
def f100.w (Q : Post) (s_0 : Value) (H : Heap) : Prop :=
  W.new [(.slice none 0 0), (.slice none 0 0), (.slice none 0 0), (.slice none 0 0)] 27 H fun v1 H =>
  W.call Tryz.prog (.func (.func 46) #[] #[]) #[s_0] H fun v2 H =>
  W.new [(.slice none 0 0), (.slice none 0 0), (.slice none 0 0), (.slice none 0 0)] 27 H fun v3 H =>
  W.putN 4 v3 v2 H fun _ H =>
  W.fieldAddr 1 v3 H fun v4 H =>
  W.get v4 H fun v5 H =>
  W.len v5 H fun v6 H =>
  W.call Tryz.prog (.func (.func 130) #[] #[]) #[s_0, v6] H fun v7 H =>
  W.lit 0 [(.int .i64 0), (.int .i64 0)] 34 [] H fun v8 H =>
  W.loop (S := St [7, 8]) (fun I1 s H => f100.l1 Q v3 s_0 v1 v7 I1 s.1 s.2.1 H) (v8, (.int .i64 0), ()) H
theorem f100.enter {Q : Post} {s_0 : Value} {H : Heap} (h : f100.w Q s_0 H) : Runs Tryz.prog 100 #[s_0] H Q :=
  fn_enter (ann := [(4, [7, 8])]) (by kernel_rfl) Tryz.func100 rfl (by kernel_rfl) h (by kernel_rfl)

/- loop.example/g01343/spec.l01DrawFrac -/
def f158.w (Q : Post) (s_0 : Value) (H : Heap) : Prop :=
  W.new [(.int .i64 0), (.int .i64 0)] 34 H fun v1 H =>
  W.lit 4 [(.int .i64 0)] 2 [(0, 1, (.int .i64 3)), (1, 1, (.int .i64 20)), (2, 1, (.int .i64 100000)), (3, 1, (.int .i64 1000000000))] H fun v2 H =>
  W.call Tryz.prog (.func (.func 70) #[] #[]) #[s_0, v2] H fun v3 H =>
  W.lit 5 [(.int .i64 0)] 2 [(0, 1, (.int .i64 1)), (1, 1, (.int .i64 4)), (2, 1, (.int .i64 20)), (3, 1, (.int .i64 100000)), (4, 1, (.int .i64 1000000000))] H fun v4 H =>
  W.call Tryz.prog (.func (.func 70) #[] #[]) #[s_0, v4] H fun v5 H =>
  W.call Tryz.prog (.func (.func 84) #[] #[]) #[s_0, v3] H fun v6 H =>
  W.call Tryz.prog (.func (.func 47) #[] #[]) #[s_0, v5] H fun v7 H =>
  W.bin .add (.int .i64 1) v7 H fun v8 H =>
  W.call Tryz.prog (.func (.func 89) #[] #[]) #[v6, v8] H fun v9 H =>
  W.new [(.int .i64 0), (.int .i64 0)] 34 H fun v10 H =>
  W.putN 2 v10 v9 H fun _ H =>
  W.call Tryz.prog (.func (.func 47) #[] #[]) #[s_0, (.int .i64 40)] H fun v11 H =>
  W.bin .eql v11 (.int .i64 0) H fun v12 H =>
  W.cond v12 H
  (fun H => W.fieldAddr 0 v10 H fun v13 H =>
   W.get v13 H fun v14 H =>
   W.bin .mul v14 (.int .i64 2) H fun v15 H =>
   W.fieldAddr 1 v10 H fun v16 H =>
   W.get v16 H fun v17 H =>
   W.bin .mul v17 (.int .i64 2) H fun v18 H =>
   W.build [(.int .i64 0), (.int .i64 0)] [(0, 1, v15), (1, 1, v18)] H fun v19 H =>
   W.putN 2 v1 v19 H fun _ H =>
   W.getN 2 v1 H fun v20 H => Q v20 H)
  (fun H => W.bin .eql v11 (.int .i64 1) H fun v21 H =>
   W.cond v21 H
   (fun H => W.fieldAddr 0 v10 H fun v22 H =>
    W.get v22 H fun v23 H =>
    W.lit 3 [(.int .i64 0)] 2 [(0, 1, (.int .i64 0)), (1, 1, (.int .i64 (-1))), (2, 1, (.int .i64 1000000001))] H fun v24 H =>
    W.call Tryz.prog (.func (.func 70) #[] #[]) #[s_0, v24] H fun v25 H =>
    W.chk (fun H k => W.get v22 H k) v23 H (W.build [(.int .i64 0), (.int .i64 0)] [(0, 1, v23), (1, 1, v25)] H fun v26 H =>
    W.putN 2 v1 v26 H fun _ H =>
    W.getN 2 v1 H fun v27 H => Q v27 H))
   (fun H => W.getN 2 v10 H fun v28 H =>
    W.putN 2 v1 v28 H fun _ H =>
    W.getN 2 v1 H fun v29 H => Q v29 H))
theorem f158.enter {Q : Post} {s_0 : Value} {H : Heap} (h : f158.w Q s_0 H) : Runs Tryz.prog 158 #[s_0] H Q :=
  fn_enter (ann := [(1000007, [])]) (by kernel_rfl) Tryz.func158 rfl (by kernel_rfl) h (by kernel_rfl)

/- loop.example/g01343/spec.DrawValueAt -/
def f37.w (Q : Post) (code_0 : Value) (H : Heap) : Prop :=
  W.new [(.slice none 0 0), (.slice none 0 0), (.slice none 0 0), (.slice none 0 0)] 27 H fun v1 H =>
  W.call Tryz.prog (.func (.func 45) #[] #[]) #[code_0] H fun v2 H =>
  W.call Tryz.prog (.func (.func 100) #[] #[]) #[v2] H fun v3 H =>
  W.extract 0 v3 H fun v4 H =>
  W.extract 1 v3 H fun v5 H =>
  W.extract 2 v3 H fun v6 H =>
  W.new [(.slice none 0 0), (.slice none 0 0), (.slice none 0 0), (.slice none 0 0)] 27 H fun v7 H =>
  W.putN 4 v7 v4 H fun _ H =>
  W.getN 4 v7 H fun v8 H =>
  W.putN 4 v1 v8 H fun _ H =>
  W.getN 4 v1 H fun v9 H => Q (.tuple #[v9, v5]) H
theorem f37.enter {Q : Post} {code_0 : Value} {H : Heap} (h : f37.w Q code_0 H) : Runs Tryz.prog 37 #[code_0] H Q :=
  fn_enter (ann := []) (by kernel_rfl) Tryz.func37 rfl (by kernel_rfl) h (by kernel_rfl)

/- loop.example/g01343/spec.DrawIsStationary -/
def f42.w (Q : Post) (code_0 : Value) (H : Heap) : Prop :=
  W.new [(.slice none 0 0), (.slice none 0 0), (.slice none 0 0), (.slice none 0 0)] 27 H fun v1 H =>
  W.call Tryz.prog (.func (.func 45) #[] #[]) #[code_0] H fun v2 H =>
  W.call Tryz.prog (.func (.func 100) #[] #[]) #[v2] H fun v3 H =>
  W.extract 0 v3 H fun v4 H =>
  W.extract 1 v3 H fun v5 H =>
  W.extract 2 v3 H fun v6 H =>
  W.new [(.slice none 0 0), (.slice none 0 0), (.slice none 0 0), (.slice none 0 0)] 27 H fun v7 H =>
  W.putN 4 v7 v4 H fun _ H =>
  W.getN 4 v7 H fun v8 H =>
  W.putN 4 v1 v8 H fun _ H =>
  W.getN 4 v1 H fun v9 H => Q (.tuple #[v9, v5, v6]) H
theorem f42.enter {Q : Post} {code_0 : Value} {H : Heap} (h : f42.w Q code_0 H) : Runs Tryz.prog 42 #[code_0] H Q :=
  fn_enter (ann := []) (by kernel_rfl) Tryz.func42 rfl (by kernel_rfl) h (by kernel_rfl)


section
variable {H0 H : Heap} {L : List (Atom H0.next)} {Q : Post} {b i : Nat} {vc : Value} {code : List Int}

theorem fnW84 {most : Int} (h : Ab.Loc H0 L H) (hi : L[i]? = some (.src b vc code)) (hm : 0 ≤ most ∧ most ≤ 1000000000) (hQ : ∀ H' (x : Int), Ab.Loc H0 L H' → x.natAbs ≤ 1000000000 → Q (.int .i64 x) H') : Runs Tryz.prog 84 #[pt b 0, .int .i64 most] H Q := by
  refine f84.enter (Wi.mul (by unfold I64; omega) (Wi.add (by unfold I64; omega) (Wi.call (fn47 h hi fun H x h hx hn => ?_))))
  have := hn (by omega)
  exact Wi.sub (by unfold I64; omega) (hQ _ _ h (by omega))

theorem frac_i64' {x d : Int} (hx : x.natAbs ≤ 1000000000) (hd : d.natAbs ≤ 1073742080) : (frac x d).1.natAbs ≤ 1000000000 ∧ (frac x d).2.natAbs ≤ 1073742080 := by
  have := frac_abs (x := x) (d := d)
  omega

theorem fn158 (h : Ab.Loc H0 L H) (hi : L[i]? = some (.src b vc code)) (hQ : ∀ H' (a : Frac), Ab.Loc H0 L H' → I64 a.1 ∧ I64 a.2 → Q (.agg (frC a).toArray) H') : Runs Tryz.prog 158 #[pt b 0] H Q := by
  refine f158.enter ?_
  unfold f158.w
  refine Wl.new h fun H b1 h => Wl.litN [3, 20, 100000, 1000000000] rfl (by decide) (by simp [I64]) rfl h fun H vl h => Wi.call (fn70 (i := i + 2) h (by simpa using hi) (fun H h => h.rd (cs := [vl])) (by decide) fun H t h ht => ?_)
  have ht : 0 ≤ t ∧ t ≤ 1000000000 := by simp at ht; omega
  have h := h.tl
  refine Wl.litN [1, 4, 20, 100000, 1000000000] rfl (by decide) (by simp [I64]) rfl h fun H vl h => Wi.call (fn70 (i := i + 2) h (by simpa using hi) (fun H h => h.rd (cs := [vl])) (by decide) fun H d h hd => ?_)
  have h := h.tl
  refine Wi.call (fnW84 (i := i + 1) h (by simpa using hi) ht fun H x h hx => ?_)
  refine Wi.call (fn47 (i := i + 1) h (by simpa using hi) fun H y h hy _ => ?_)
  refine Wi.add (by unfold I64; omega) (Wi.call (fn89 (n := x) (d := 1 + y) (by unfold B64; omega) (by unfold B64; omega) (by omega) fun H l => ?_))
  have h := h.to l
  obtain ⟨f1, f2⟩ := frac_i64' (x := x) (d := 1 + y) hx (by omega)
  generalize frac x (1 + y) = a at *
  refine Wl.new h fun H b10 h => Wl.putA (b := b10) (i := 0) h rfl rfl rfl fun H h => ?_
  refine Wi.call (fn47 (i := i + 2) h (by simpa using hi) fun H y h hy _ => ?_)
  have h : Ab.Loc H0 (.box b10 (frC a) :: .box b1 [.int .i64 0, .int .i64 0] :: L) H := h
  refine Wi.eqlC (fun _ => Wi.tru ?_) fun _ => Wi.fls ?_
  · refine Wi.fieldAddr0 (Wl.get (b := b10) h rfl (Wi.mul (by unfold I64; omega) (Wi.fieldAddr (Wl.get (b := b10) (o := 1) h rfl (Wi.mul (by unfold I64; omega) ?_)))))
    refine Wi.build (cells := frC (a.1 * 2, a.2 * 2)) rfl (Wl.putA (b := b1) (i := 1) h rfl rfl rfl fun H h => Wl.getA (b := b1) h rfl ?_)
    exact hQ _ (a.1 * 2, a.2 * 2) ((h.cut 0).cut 0) ⟨by unfold I64; omega, by unfold I64; omega⟩
  refine Wi.eqlC (fun _ => Wi.tru ?_) fun _ => Wi.fls ?_
  · refine Wi.fieldAddr0 (Wl.get (b := b10) h rfl ?_)
    refine Wl.litN [0, -1, 1000000001] rfl (by decide) (by simp [I64]) rfl h fun H vl h => Wi.call (fn70 (i := i + 3) h (by simpa using hi) (fun H h => h.rd (cs := [vl])) (by decide) fun H t h ht => ?_)
    have ht : I64 t := by simp at ht; unfold I64; omega
    have h := h.tl
    refine Wi.chk (Wl.get (b := b10) (o := 0) h rfl ⟨rfl, rfl⟩) (Wi.build (cells := frC (a.1, t)) rfl (Wl.putA (b := b1) (i := 1) h rfl rfl rfl fun H h => Wl.getA (b := b1) h rfl ?_))
    exact hQ _ (a.1, t) ((h.cut 0).cut 0) ⟨by unfold I64; omega, ht⟩
  · refine Wl.getA (b := b10) h rfl (Wl.putA (b := b1) (i := 1) h rfl rfl rfl fun H h => Wl.getA (b := b1) h rfl ?_)
    exact hQ _ a ((h.cut 0).cut 0) ⟨by unfold I64; omega, by unfold I64; omega⟩

theorem fn130 {n : Nat} (h : Ab.Loc H0 L H) (hi : L[i]? = some (.src b vc code)) (hn : 1 ≤ n ∧ n ≤ 5) (hQ : ∀ H' u xs, Ab.Loc H0 (.data RFS [u] xs :: L) H' → xs.length ≤ 7 → Q u H') : Runs Tryz.prog 130 #[pt b 0, .int .i64 (n : Nat)] H Q := by
  refine f130.enter ?_
  unfold f130.w
  refine Wl.lit0 (ty := 34) RFrac rfl h fun H u h => ?_
  refine Wl.litN [3, 30, 1000] rfl (by decide) (by simp [I64]) rfl h fun H vl h => Wi.call (fn70 (i := i + 2) h (by simpa using hi) (fun H h => h.rd (cs := [vl])) (by decide) fun H t h ht => ?_)
  have ht : 0 ≤ t ∧ t ≤ 1000000000 := by simp at ht; omega
  have h := h.tl
  refine Wl.litN [1, 1, 3, 12] rfl (by decide) (by simp [I64]) rfl h fun H vl h => Wi.call (fn70 (i := i + 2) h (by simpa using hi) (fun H h => h.rd (cs := [vl])) (by decide) fun H d h hd => ?_)
  have h := h.tl
  refine W.for_rule n (fun j st H => ∃ u xs, st = (u, .int .i64 (j : Nat), ()) ∧ xs.length = j ∧ Ab.Loc H0 (.grow RFrac 34 u xs :: L) H) ⟨u, [], rfl, rfl, h⟩ ?_
  rintro j st H J hj ⟨u, xs, rfl, hx, h⟩ hJ
  refine Wi.lssC (fun hlt => Wi.tru ?_) fun hge => Wi.fls ?_
  · have hjn : j < n := by omega
    refine Wi.call (fnW84 (i := i + 1) h (by simpa using hi) ht fun H x h hx1 => ?_)
    refine Wi.call (fn47 (i := i + 1) h (by simpa using hi) fun H y h hy _ => ?_)
    have go : ∀ x : Int, x.natAbs ≤ 1000000000 → f130.j1 Q (pt b 0) (.int .i64 d) u (.int .i64 (j : Nat)) J (.int .i64 x) H := fun x hx1 => by
      unfold f130.j1
      refine Wi.call (fn47 (i := i + 1) h (by simpa using hi) fun H z h hz _ => ?_)
      refine Wi.add (by unfold I64; omega) (Wi.call (fn89 (n := x) (d := 1 + z) (by unfold B64; omega) (by unfold B64; omega) (by omega) fun H l => ?_))
      have h := h.to l
      obtain ⟨f1, f2⟩ := frac_i64' (x := x) (d := 1 + z) hx1 (by omega)
      refine Wl.pushP (r := RFrac) (x := frac x (1 + z)) (i := 0) rfl rfl rfl (frac_rel ⟨by unfold I64; omega, by unfold I64; omega⟩) h (by omega) fun H u' h => Wi.add (by unfold I64; omega) (hJ _ _ hjn ⟨u', xs ++ [frac x (1 + z)], rfl, by simp; omega, h⟩)
    refine Wi.gtrC (fun _ => Wi.tru ?_) fun _ => Wi.fls (go x hx1)
    have hmx : (if -x > x then -x else x) = ((x.natAbs : Nat) : Int) := by split <;> omega
    exact Wi.neg (by unfold I64; omega) (Wi.max2 hmx (go _ (by omega)))
  · refine Wi.call (fn47 (i := i + 1) h (by simpa using hi) fun H y h hy _ => ?_)
    refine Wi.eqlC (fun _ => Wi.tru ?_) fun _ => Wi.fls ?_
    · refine Wi.call (fn158 (i := i + 1) h (by simpa using hi) fun H a h ha => ?_)
      have h := h.asData (i := 0) rfl
      have h : Ab.Loc H0 (.data RFS [u] xs :: L) H := h
      refine Wl.setP (r := RFrac) (y := a) (v := u) (j := 0) (i := 0) rfl h (by omega) (frac_rel ha) fun H h => ?_
      unfold f130.j2
      exact hQ _ _ _ h (by rw [List.length_set]; omega)
    refine Wi.eqlC (fun _ => Wi.tru ?_) fun _ => Wi.fls ?_
    · refine Wi.build (cells := frC (0, 1)) rfl (Wl.pushP (r := RFrac) (x := ((0, 1) : Frac)) (i := 0) rfl rfl rfl (frac_rel ⟨by unfold I64; decide, by unfold I64; decide⟩) h (by omega) fun H u' h => ?_)
      have h : Ab.Loc H0 (.grow RFrac 34 u' (xs ++ [(0, 1)]) :: L) H := h
      unfold f130.j3 f130.j2
      exact hQ _ _ (xs ++ [(0, 1)]) (h.asData (i := 0) rfl) (by simp; omega)
    · unfold f130.j3 f130.j2
      exact hQ _ _ _ (h.asData (i := 0) rfl) (by omega)

theorem fn100 (h : Ab.Loc H0 L H) (hi : L[i]? = some (.src b vc code)) (hQ : ∀ H' u1 u2 u3 u4 p vx xs vy ys, Ab.Loc H0 (.data RPrg [u1, u2, u3, u4] p :: .data RFS [vx] xs :: .data RFS [vy] ys :: L) H' → SmallG p → xs.length ≤ 7 → ys.length ≤ 7 → Q (.tuple #[.agg #[u1, u2, u3, u4], vx, vy]) H') :
    Runs Tryz.prog 100 #[pt b 0] H Q := by
  refine f100.enter ?_
  unfold f100.w
  refine Wl.new h fun H b1 h => Wi.call (fn46 (i := i + 1) h (by simpa using hi) fun H u1 u2 u3 u4 p n m h hp => ?_)
  have kc := (h.rd (cs := [u1, u2, u3, u4]) (r := RPrg)).cell
  refine Wl.new h fun H b3 h => Wl.putA (b := b3) (i := 0) h rfl rfl kc fun H h => ?_
  have h : Ab.Loc H0 (.box b3 [u1, u2, u3, u4] :: .data RPrg [u1, u2, u3, u4] p :: .box b1 nil4 :: L) H := h
  have hpn : p.2.1.length = n := hp.c
  have hpm : p.2.2.2.length = m := hp.b
  have hn1 := hp.n1
  have hm1 := hp.m1
  have lu : ∀ {L' : List (Atom H0.next)} {H}, Ab.Loc H0 L' H → Has RPrg H [u1, u2, u3, u4] p → Has RS H [u2] p.2.1 ∧ Has RS H [u4] p.2.2.2 := fun _ r => by
    obtain ⟨a1, a2, a3, a4, e, _, r2, _, r4⟩ := hasPrg r
    cases e
    exact ⟨r2, r4⟩
  refine Wi.fieldAddr (Wl.get (b := b3) (o := 1) h rfl (Wl.lenH (lu h (h.rd (cs := [u1, u2, u3, u4]) (x := p))).1 ?_))
  rw [hpn]
  refine Wi.call (fn130 (i := i + 3) h (by simpa using hi) ⟨hn1.1, by omega⟩ fun H vx xs h hx => ?_)
  refine Wl.lit0 (ty := 34) RFrac rfl h fun H vy h => ?_
  refine W.for_rule m (fun j st H => ∃ vy ys, st = (vy, .int .i64 (j : Nat), ()) ∧ ys.length = j ∧ Ab.Loc H0 (.grow RFrac 34 vy ys :: .data RFS [vx] xs :: .box b3 [u1, u2, u3, u4] :: .data RPrg [u1, u2, u3, u4] p :: .box b1 nil4 :: L) H) ⟨vy, [], rfl, rfl, h⟩ ?_
  rintro j st H J hj ⟨vy, ys, rfl, hy, h⟩ hJ
  refine Wi.fieldAddr (Wl.get (b := b3) (o := 3) h rfl (Wl.lenH (lu h (h.rd (cs := [u1, u2, u3, u4]) (x := p))).2 ?_))
  rw [hpm]
  refine Wi.lssC (fun hlt => Wi.tru ?_) fun hge => Wi.fls ?_
  · have hjm : j < m := by omega
    refine Wi.call (fn47 (i := i + 5) h (by simpa using hi) fun H z h hz _ => ?_)
    refine Wi.build (cells := frC (z, 1)) rfl (Wl.pushP (r := RFrac) (x := ((z, 1) : Frac)) (i := 0) rfl rfl rfl (frac_rel ⟨by unfold I64; omega, by show I64 1; unfold I64; decide⟩) h (by omega) fun H vy' h => Wi.add (by unfold I64; omega) (hJ _ _ hjm ⟨vy', ys ++ [(z, 1)], rfl, by simp; omega, h⟩))
  · have h := h.asData (i := 0) rfl
    have h : Ab.Loc H0 (.data RFS [vy] ys :: .data RFS [vx] xs :: .box b3 [u1, u2, u3, u4] :: .data RPrg [u1, u2, u3, u4] p :: .box b1 nil4 :: L) H := h
    have fin : ∀ H vx xs vy ys, xs.length ≤ 7 → ys.length ≤ 7 → Ab.Loc H0 (.data RFS [vy] ys :: .data RFS [vx] xs :: .box b3 [u1, u2, u3, u4] :: .data RPrg [u1, u2, u3, u4] p :: .box b1 nil4 :: L) H → f100.j1 Q (pt b3 0) (pt b 0) (pt b1 0) vx vy H := fun H vx xs vy ys hx hy h => by
      unfold f100.j1
      refine Wl.getA (b := b3) h rfl ?_
      have h : Ab.Loc H0 (.data RPrg [u1, u2, u3, u4] p :: .data RFS [vy] ys :: .data RFS [vx] xs :: .box b3 [u1, u2, u3, u4] :: .box b1 nil4 :: L) H := h.front 3 rfl
      refine Wi.call (fn49 (i := i + 4) h (by simpa using hi) hp fun H w1 w2 w3 w4 p' h hp' => ?_)
      have kc := (h.rd (cs := [w1, w2, w3, w4]) (r := RPrg) (x := p')).cell
      refine Wl.putA (b := b1) (i := 4) h rfl rfl kc fun H h => Wl.getA (b := b1) h rfl ?_
      have h : Ab.Loc H0 (.data RPrg [w1, w2, w3, w4] p' :: .data RFS [vy] ys :: .data RFS [vx] xs :: .box b3 [u1, u2, u3, u4] :: .box b1 [w1, w2, w3, w4] :: L) H := h
      have h : Ab.Loc H0 (.data RPrg [w1, w2, w3, w4] p' :: .data RFS [vx] xs :: .data RFS [vy] ys :: L) H := (((h.cut 3).cut 3).front 2 rfl).front 1 rfl
      exact hQ _ w1 w2 w3 w4 p' vx xs vy ys h hp' hx hy
    refine Wl.getA (b := b3) h rfl (Wi.call (fn24 (h.rd (cs := [u1, u2, u3, u4]) (x := p)) hp.small.w fun H a c f => ?_))
    have h2 := h.add2 (c1 := [a]) (c2 := [c]) rfl f
    simp only [gw]
    refine Wl.new h2 fun H b24 h => Wl.putA (b := b24) (i := 0) h rfl rfl rfl fun H h => ?_
    have h : Ab.Loc H0 (.box b24 (frC (moRes p).2.2.1) :: .data RFS [a] (moRes p).1 :: .data RFS [c] (moRes p).2.1 :: .data RFS [vy] ys :: .data RFS [vx] xs :: .box b3 [u1, u2, u3, u4] :: .data RPrg [u1, u2, u3, u4] p :: .box b1 nil4 :: L) H := h
    have hl := moRes_len p
    refine Wi.eqlC (fun _ => ?_) fun _ => ?_
    · simp only [gw]
      refine Wi.call (fn47 (i := i + 8) h (by simpa using hi) fun H z h hz _ => ?_)
      refine Wi.eqlC (fun _ => ?_) fun _ => ?_
      · simp only [gw]
        have h : Ab.Loc H0 (.data RFS [a] (moRes p).1 :: .data RFS [c] (moRes p).2.1 :: .box b3 [u1, u2, u3, u4] :: .data RPrg [u1, u2, u3, u4] p :: .box b1 nil4 :: L) H := ((h.cut 0).cut 2).cut 2
        exact fin _ a _ c _ (by omega) (by omega) (h.front 1 rfl)
      · simp only [gw]
        exact fin _ vx _ vy _ hx (by omega) h.tl.tl.tl
    · simp only [gw]
      exact fin _ vx _ vy _ hx (by omega) h.tl.tl.tl

end

section
variable {H0 : Heap} {Q : Post} {vc : Value} {code : List Int}

theorem fn37 (hc : Has RBytes H0 [vc] code) (hQ : ∀ H' u1 u2 u3 u4 p vx xs, Fresh (Rd.pair RPrg RFS) H0 [u1, u2, u3, u4, vx] (p, xs) H' → SmallG p → xs.length ≤ 7 → Q (.tuple #[.agg #[u1, u2, u3, u4], vx]) H') : Runs Tryz.prog 37 #[vc] H0 Q := by
  refine f37.enter ?_
  unfold f37.w
  refine Wl.new (Loc.start H0) fun H b1 h => Wi.call (fn45 hc h fun H b h => Wi.call (fn100 (i := 0) h rfl fun H u1 u2 u3 u4 p vx xs vy ys h hp hx hy => ?_))
  have kc := (h.rd (cs := [u1, u2, u3, u4]) (r := RPrg) (x := p)).cell
  simp only [gw]
  refine Wl.new h fun H b7 h => Wl.putA (b := b7) (i := 0) h rfl rfl kc fun H h => Wl.getA (b := b7) h rfl (Wl.putA (b := b1) (i := 5) h rfl rfl kc fun H h => Wl.getA (b := b1) h rfl ?_)
  exact hQ _ u1 u2 u3 u4 p vx xs (Loc.ret2 h (c1 := [u1, u2, u3, u4]) (c2 := [vx]) (i := 1) (j := 2) rfl rfl (by decide)) hp hx

theorem fn42 (hc : Has RBytes H0 [vc] code) (hQ : ∀ H' u1 u2 u3 u4 p vx xs vy ys, Fresh (Rd.pair RPrg (Rd.pair RFS RFS)) H0 [u1, u2, u3, u4, vx, vy] (p, xs, ys) H' → SmallG p → xs.length ≤ 7 → ys.length ≤ 7 → Q (.tuple #[.agg #[u1, u2, u3, u4], vx, vy]) H') : Runs Tryz.prog 42 #[vc] H0 Q := by
  refine f42.enter ?_
  unfold f42.w
  refine Wl.new (Loc.start H0) fun H b1 h => Wi.call (fn45 hc h fun H b h => Wi.call (fn100 (i := 0) h rfl fun H u1 u2 u3 u4 p vx xs vy ys h hp hx hy => ?_))
  have kc := (h.rd (cs := [u1, u2, u3, u4]) (r := RPrg) (x := p)).cell
  simp only [gw]
  refine Wl.new h fun H b7 h => Wl.putA (b := b7) (i := 0) h rfl rfl kc fun H h => Wl.getA (b := b7) h rfl (Wl.putA (b := b1) (i := 5) h rfl rfl kc fun H h => Wl.getA (b := b1) h rfl ?_)
  have h : Ab.Loc H0 [.box b7 [u1, u2, u3, u4], .data RPrg [u1, u2, u3, u4] p, .data RFS [vx] xs, .data RFS [vy] ys, .src b vc code, .box b1 [u1, u2, u3, u4]] H := h
  have h := h.pair (i := 2) (j := 3) rfl rfl (by decide)
  have h : Ab.Loc H0 [.box b7 [u1, u2, u3, u4], .data RPrg [u1, u2, u3, u4] p, .data (Rd.pair RFS RFS) [vx, vy] (xs, ys), .emp, .src b vc code, .box b1 [u1, u2, u3, u4]] H := h
  exact hQ _ u1 u2 u3 u4 p vx xs vy ys (Loc.ret2 h (c1 := [u1, u2, u3, u4]) (c2 := [vx, vy]) (i := 1) (j := 2) rfl rfl (by decide)) hp hx hy

end
end Go.Proofs.YtdchibdcfdbcpaaGreat
