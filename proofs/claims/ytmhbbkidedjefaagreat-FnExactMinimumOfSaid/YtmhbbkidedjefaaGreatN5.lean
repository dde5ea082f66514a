/- Contracts of the reference's l09Problem and ProgramProblem. No condition. -/
import Derived.Test.YtmhbbkidedjefaaGreatN3
import Derived.Test.YtmhbbkidedjefaaGreatP2
import Derived.Test.YtmhbbkidedjefaaGreatD2
namespace Go.Proofs.YtmhbbkidedjefaaGreat
open Go.Ab

/- loop.example/g01343/spec.l09Problem -/
def f18.l2 (Q : Post) (v8 : Value) (v1 : Value) (i_6 : Value) (v14 : Value) (I1 : St [6] → Heap → Prop) (I2 : St [7, 8] → Heap → Prop) (row_7 : Value) (j_8 : Value) (H : Heap) : Prop :=
  W.bin .lss j_8 v8 H fun v21 H =>
  W.cond v21 H
  (fun H => W.fieldAddr 2 v1 H fun v22 H =>
   W.get v22 H fun v23 H =>
   W.indexAddr 1 v23 j_8 H fun v24 H =>
   W.get v24 H fun v25 H =>
   W.indexAddr 1 v25 i_6 H fun v26 H =>
   W.get v26 H fun v27 H =>
   W.un .neg v27 H fun v28 H =>
   W.lit 1 [(.int .i64 0)] 2 [(0, 1, v28)] H fun v29 H =>
   W.append 1 2 row_7 v29 H fun v30 H =>
   W.bin .add j_8 (.int .i64 1) H fun v31 H =>
   I2 (v30, v31, ()) H)
  (fun H => W.fieldAddr 0 v14 H fun v32 H =>
   W.get v32 H fun v33 H =>
   W.lit 1 [(.slice none 0 0)] 23 [(0, 1, row_7)] H fun v34 H =>
   W.append 1 23 v33 v34 H fun v35 H =>
   W.fieldAddr 0 v14 H fun v36 H =>
   W.put v36 v35 H fun _ H =>
   W.bin .add i_6 (.int .i64 1) H fun v37 H =>
   I1 (v37, ()) H)
def f18.l3 (Q : Post) (v8 : Value) (v14 : Value) (v1 : Value) (v2 : Value) (I3 : St [9] → Heap → Prop) (j_9 : Value) (H : Heap) : Prop :=
  W.bin .lss j_9 v8 H fun v38 H =>
  W.cond v38 H
  (fun H => W.fieldAddr 0 v14 H fun v39 H =>
   W.get v39 H fun v40 H =>
   W.fieldAddr 2 v1 H fun v41 H =>
   W.get v41 H fun v42 H =>
   W.indexAddr 1 v42 j_9 H fun v43 H =>
   W.get v43 H fun v44 H =>
   W.callQ Tryz.prog (.func (.func 42) #[] #[]) #[v44] H fun v45 H =>
   W.appendZ [(.int .i64 0)] 2 v45 v8 H fun v46 H =>
   W.chk (fun H k => W.get v39 H k) v40 H (W.lit 1 [(.slice none 0 0)] 23 [(0, 1, v46)] H fun v47 H =>
   W.append 1 23 v40 v47 H fun v48 H =>
   W.fieldAddr 0 v14 H fun v49 H =>
   W.put v49 v48 H fun _ H =>
   W.fieldAddr 1 v14 H fun v50 H =>
   W.get v50 H fun v51 H =>
   W.fieldAddr 3 v1 H fun v52 H =>
   W.get v52 H fun v53 H =>
   W.indexAddr 1 v53 j_9 H fun v54 H =>
   W.get v54 H fun v55 H =>
   W.un .neg v55 H fun v56 H =>
   W.lit 1 [(.int .i64 0)] 2 [(0, 1, v56)] H fun v57 H =>
   W.append 1 2 v51 v57 H fun v58 H =>
   W.fieldAddr 1 v14 H fun v59 H =>
   W.put v59 v58 H fun _ H =>
   W.bin .add j_9 (.int .i64 1) H fun v60 H =>
   I3 (v60, ()) H))
  (fun H => W.getN 2 v14 H fun v61 H =>
   W.putN 2 v2 v61 H fun _ H =>
   W.getN 2 v2 H fun v62 H => Q v62 H)
def f18.l1 (Q : Post) (v5 : Value) (v1 : Value) (v8 : Value) (v14 : Value) (v2 : Value) (I1 : St [6] → Heap → Prop) (i_6 : Value) (H : Heap) : Prop :=
  W.bin .lss i_6 v5 H fun v15 H =>
  W.cond v15 H
  (fun H => W.fieldAddr 0 v1 H fun v16 H =>
   W.get v16 H fun v17 H =>
   W.indexAddr 1 v17 i_6 H fun v18 H =>
   W.get v18 H fun v19 H =>
   W.call Tryz.prog (.func (.func 42) #[] #[]) #[v19] H fun v20 H =>
   W.loop (S := St [7, 8]) (fun I2 s H => f18.l2 Q v8 v1 i_6 v14 I1 I2 s.1 s.2.1 H) (v20, (.int .i64 0), ()) H)
  (fun H => W.loop (S := St [9]) (fun I3 s H => f18.l3 Q v8 v14 v1 v2 I3 s.1 H) ((.int .i64 0), ()) H)
def f18.w (Q : Post) (p_0 : Value) (H : Heap) : Prop :=
  W.box p_0 32 H fun v1 H =>
  W.new [(.slice none 0 0), (.slice none 0 0)] 44 H fun v2 H =>
  W.fieldAddr 1 v1 H fun v3 H =>
  W.get v3 H fun v4 H =>
  W.len v4 H fun v5 H =>
  W.fieldAddr 3 v1 H fun v6 H =>
  W.get v6 H fun v7 H =>
  W.len v7 H fun v8 H =>
  W.lit 0 [(.slice none 0 0)] 23 [] H fun v9 H =>
  W.fieldAddr 1 v1 H fun v10 H =>
  W.get v10 H fun v11 H =>
  W.call Tryz.prog (.func (.func 42) #[] #[]) #[v11] H fun v12 H =>
  W.build [(.slice none 0 0), (.slice none 0 0)] [(0, 1, v9), (1, 1, v12)] H fun v13 H =>
  W.new [(.slice none 0 0), (.slice none 0 0)] 44 H fun v14 H =>
  W.putN 2 v14 v13 H fun _ H =>
  W.loop (S := St [6]) (fun I1 s H => f18.l1 Q v5 v1 v8 v14 v2 I1 s.1 H) ((.int .i64 0), ()) H
theorem f18.enter {Q : Post} {p_0 : Value} {H : Heap} (h : f18.w Q p_0 H) : Runs Tryz.prog 18 #[p_0] H Q :=
  fn_enter (ann := [(4, [6]), (8, [7, 8]), (13, [9])]) (by kernel_rfl) Tryz.func18 rfl (by kernel_rfl) h (by kernel_rfl)


theorem neg_append (xs : List Int) (x : Int) : neg (xs ++ [x]) = neg xs ++ [-x] := by simp [neg]

theorem fn18 {H0 : Heap} {Q : Post} {cs : List Value} {p : Prg} (hr : Has RPrg H0 cs p) (hp : IsPrg p) (hQ : ∀ H' w1 w2, Fresh RProblem H0 [w1, w2] (prgProblem p) H' → Q (.agg #[w1, w2]) H') :
    Runs Tryz.prog 18 #[.agg cs.toArray] H0 Q := by
  obtain ⟨u1, u2, u3, u4, rfl, r1, r2, r3, r4⟩ := hasPrg hr
  have n1 := hp.n1; have nm := hp.nm; have dl := hp.dl; have al := hp.al
  refine f18.enter ?_
  unfold f18.w
  have h := ((((Loc.start H0).lent r1).lent r2).lent r3).lent r4
  refine Wl.box h fun H b h => Wl.new h fun H b2 h => Wi.fieldAddr0 (Wl.get h rfl (Wl.len h (Wi.fieldAddr0 (Wl.get h rfl (Wl.len h (Wl.lit0 RS rfl h fun H g h => Wi.fieldAddr0 (Wl.get h rfl (Wi.call (fn42 h.rd (by omega) fun H w f => ?_)))))))))
  have h := h.addG f
  have k1 := h.rd (cs := [g])
  have k2 := h.rd (cs := [w])
  have kall : ∀ {g w : Value} {H : Heap} {xs : List (List Int)} {ys : List Int}, Has RSS H [g] xs → Has RS H [w] ys → [g, w].all isCell = true := fun hg hw => by
    have k1 := hg.cell
    have k3 := hw.cell
    simp only [List.all_cons, List.all_nil, Bool.and_true] at k1 k3 ⊢
    rw [k1, k3]
    rfl
  refine Wi.build (cells := [g, w]) (by simp [fillA, k1.one, k2.one]) (Wl.new h fun H b3 h => Wl.putA h rfl rfl (kall k1 k2) fun H h => ?_)
  refine W.for_rule p.2.1.length (fun i s H => ∃ g, s = (.int .i64 (i : Nat), ()) ∧ Ab.Loc H0 [.box b3 [g, w], .grow Rd.int 2 w p.2.1, .grow RS 23 g (prgTop p i), .box b2 [.slice none 0 0, .slice none 0 0], .box b [u1, u2, u3, u4], .lent RS [u4] p.2.2.2, .lent RSS [u3] p.2.2.1, .lent RS [u2] p.2.1, .lent RSS [u1] p.1] H) ⟨_, rfl, h⟩ ?_
  rintro i s H J hi ⟨g, rfl, h⟩ hJ
  refine Wi.lssC (fun hlt => Wi.tru ?_) fun hge => Wi.fls ?_
  · have hix : i < p.1.length := by omega
    have hd := hp.d _ (List.getElem_mem hix)
    refine Wi.fieldAddr0 (Wl.get h rfl (Wl.at1 rfl h hix fun v hv => Wi.call (fn42 hv (by omega) fun H r f => ?_)))
    have h := h.addG f
    refine W.for_rule p.2.2.2.length (fun j s H => ∃ r, s = (r, .int .i64 (j : Nat), ()) ∧ Ab.Loc H0 [.grow Rd.int 2 r (p.1[i] ++ (List.range j).map fun j => -((p.2.2.1.getD j []).getD i 0)), .box b3 [g, w], .grow Rd.int 2 w p.2.1, .grow RS 23 g (prgTop p i), .box b2 [.slice none 0 0, .slice none 0 0], .box b [u1, u2, u3, u4], .lent RS [u4] p.2.2.2, .lent RSS [u3] p.2.2.1, .lent RS [u2] p.2.1, .lent RSS [u1] p.1] H)
      ⟨r, rfl, by simpa using h⟩ ?_
    rintro j s H J2 hj ⟨r, rfl, h⟩ hJ2
    refine Wi.lssC (fun hlt2 => Wi.tru ?_) fun hge2 => Wi.fls ?_
    · have hja : j < p.2.2.1.length := by omega
      have ha := hp.a _ (List.getElem_mem hja)
      have hia : i < p.2.2.1[j].length := by omega
      have hx := ha.2 _ (List.getElem_mem hia)
      have hn : I64 (-p.2.2.1[j][i]) := by unfold I64; omega
      refine Wi.fieldAddr0 (Wl.get h rfl (Wl.at1 rfl h hja fun v hv => Wl.atIntH hv hia fun _ => Wi.neg hn (Wl.pushP (r := Rd.int) (x := -p.2.2.1[j][i]) rfl rfl rfl (fun _ => ⟨rfl, rfl, hn⟩) h (by simp; omega) fun H r' h => Wi.add (by unfold I64; omega) (hJ2 _ _ (by omega) ⟨r', rfl, ?_⟩))))
      rw [List.range_succ, List.map_append]
      simp only [List.map_cons, List.map_nil]
      rw [show (p.2.2.1.getD j []).getD i 0 = p.2.2.1[j][i] by simp [List.getD_eq_getElem?_getD, List.getElem?_eq_getElem hja, List.getElem?_eq_getElem hia], ← List.append_assoc]
      exact h
    · have : j = p.2.2.2.length := by omega
      subst this
      refine Wi.fieldAddr0 (Wl.get h rfl (Wl.pushG h (by rw [prgTop_len]; omega) fun H g' h => Wi.fieldAddr0 (Wl.put h (h.rd (cs := [g'])).cell1 (by simp) fun H h => Wi.add (by unfold I64; omega) (hJ _ _ (by omega) ⟨g', rfl, ?_⟩))))
      rw [prgTop_succ, show p.1.getD i [] = p.1[i] by simp [List.getD_eq_getElem?_getD, List.getElem?_eq_getElem hix]]
      exact h
  · have : i = p.2.1.length := by omega
    subst this
    refine W.for_rule p.2.2.1.length (fun j s H => ∃ g w, s = (.int .i64 (j : Nat), ()) ∧ Ab.Loc H0 [.box b3 [g, w], .grow Rd.int 2 w (p.2.1 ++ neg (p.2.2.2.take j)), .grow RS 23 g (prgTop p p.2.1.length ++ prgLow p j), .box b2 [.slice none 0 0, .slice none 0 0], .box b [u1, u2, u3, u4], .lent RS [u4] p.2.2.2, .lent RSS [u3] p.2.2.1, .lent RS [u2] p.2.1, .lent RSS [u1] p.1] H) ⟨g, w, rfl, by simpa [prgLow, neg] using h⟩ ?_
    rintro j s H J2 hj ⟨g, w, rfl, h⟩ hJ2
    refine Wi.lssC (fun hlt2 => Wi.tru ?_) fun hge2 => Wi.fls ?_
    · have hja : j < p.2.2.1.length := by omega
      have hjb : j < p.2.2.2.length := by omega
      have ha := hp.a _ (List.getElem_mem hja)
      have hb := hp.b _ (List.getElem_mem hjb)
      have hn : I64 (-p.2.2.2[j]) := by unfold I64; omega
      refine Wi.fieldAddr0 (Wl.get h rfl (Wi.fieldAddr0 (Wl.get h rfl (Wl.at1 rfl h hja fun v hv => Wi.callQ (fn42 hv (by omega) fun H r f => ⟨f.le, ?_⟩)))))
      have h := h.addG f
      have l1 := prgTop_len p p.2.1.length
      have l2 := prgLow_len p j
      refine Wl.appendZ (r := Rd.int) (z := 0) (fun _ => ⟨rfl, rfl, by unfold I64; omega⟩) h (by omega) fun H r' h => Wi.chk (Wl.get h rfl ⟨rfl, rfl⟩) <| Wl.pushG h (by simp; omega) fun H g' h => Wi.fieldAddr0 (Wl.put h (h.rd (cs := [g'])).cell1 (by simp) fun H h => ?_)
      refine Wi.fieldAddr0 (Wl.get h rfl (Wi.fieldAddr0 (Wl.get h rfl (Wl.atInt h hjb fun _ => Wi.neg hn (Wl.pushP (r := Rd.int) (x := -p.2.2.2[j]) rfl rfl rfl (fun _ => ⟨rfl, rfl, hn⟩) h (by simp [neg]; omega) fun H w' h => ?_)))))
      change Ab.Loc H0 [.box b3 [g', w], .grow Rd.int 2 w' _, .grow RS 23 g' _, .box b2 _, .box b _, .lent RS [u4] _, .lent RSS [u3] _, .lent RS [u2] _, .lent RSS [u1] _] H at h
      refine Wi.fieldAddr0 (Wl.put h (h.rd (cs := [w'])).cell1 (by simp) fun H h => Wi.add (by unfold I64; omega) (hJ2 _ _ (by omega) ⟨g', w', rfl, ?_⟩))
      rw [prgLow_succ p hja, ← List.append_assoc, List.take_succ_eq_append_getElem hjb, neg_append, ← List.append_assoc]
      exact h
    · have : j = p.2.2.1.length := by omega
      subst this
      rw [al, List.take_length, ← al] at h
      refine Wl.getA h rfl (Wl.putA h rfl rfl (kall (h.rd (cs := [g])) (h.rd (cs := [w]))) fun H h => Wl.getA h rfl (hQ _ _ _ ?_))
      exact ((h.asData (i := 1) rfl).asData (i := 2) rfl).ret2 (i := 2) (j := 1) rfl rfl (by omega)


end Go.Proofs.YtmhbbkidedjefaaGreat
