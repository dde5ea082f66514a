/- Contracts of added and AddPrograms. No condition. -/
import Derived.Test.YtioleipoomgmhaaH1
import Derived.Test.YtioleipoomgmhaaC2
namespace Go.Proofs.Ytioleipoomgmhaa
open Go.Ab

/- loop.example/g01343/impl.added -/
def f51.l1 (Q : Post) (v2 : Value) (b_1 : Value) (v1 : Value) (I1 : St [12] → Heap → Prop) (x_12 : Value) (H : Heap) : Prop :=
  W.bin .lss x_12 v2 H fun v3 H =>
  W.cond v3 H
  (fun H => W.indexAddr 1 b_1 x_12 H fun v4 H =>
   W.get v4 H fun v5 H =>
   W.indexAddr 1 v1 x_12 H fun v6 H =>
   W.get v6 H fun v7 H =>
   W.bin .add v7 v5 H fun v8 H =>
   W.indexAddr 1 v1 x_12 H fun v9 H =>
   W.put v9 v8 H fun _ H =>
   W.bin .add x_12 (.int .i64 1) H fun v10 H =>
   I1 (v10, ()) H)
  (fun H => Q v1 H)
def f51.w (Q : Post) (a_0 : Value) (b_1 : Value) (H : Heap) : Prop :=
  W.call Try.prog (.func (.func 88) #[] #[]) #[a_0] H fun v1 H =>
  W.len b_1 H fun v2 H =>
  W.loop (S := St [12]) (fun I1 s H => f51.l1 Q v2 b_1 v1 I1 s.1 H) ((.int .i64 0), ()) H
theorem f51.enter {Q : Post} {a_0 : Value} {b_1 : Value} {H : Heap} (h : f51.w Q a_0 b_1 H) : Runs Try.prog 51 #[a_0, b_1] H Q :=
  fn_enter (ann := [(3, [12])]) (by kernel_rfl) Try.func51 rfl (by kernel_rfl) h (by kernel_rfl)

/- loop.example/g01343/impl.AddPrograms -/
def f19.l1 (Q : Post) (v44 : Value) (v43 : Value) (v41 : Value) (v2 : Value) (v3 : Value) (I1 : St [48] → Heap → Prop) (x_48 : Value) (H : Heap) : Prop :=
  W.bin .lss x_48 v44 H fun v45 H =>
  W.cond v45 H
  (fun H => W.indexAddr 1 v43 x_48 H fun v46 H =>
   W.get v46 H fun v47 H =>
   W.fieldAddr 0 v41 H fun v48 H =>
   W.get v48 H fun v49 H =>
   W.fieldAddr 0 v2 H fun v50 H =>
   W.get v50 H fun v51 H =>
   W.indexAddr 1 v51 x_48 H fun v52 H =>
   W.get v52 H fun v53 H =>
   W.callQ Try.prog (.func (.func 51) #[] #[]) #[v47, v53] H fun v54 H =>
   W.lit 1 [(.slice none 0 0)] 26 [(0, 1, v54)] H fun v55 H =>
   W.append 1 26 v49 v55 H fun v56 H =>
   W.fieldAddr 0 v41 H fun v57 H =>
   W.put v57 v56 H fun _ H =>
   W.bin .add x_48 (.int .i64 1) H fun v58 H =>
   I1 (v58, ()) H)
  (fun H => W.getN 4 v41 H fun v59 H =>
   W.call Try.prog (.func (.func 55) #[] #[]) #[v59] H fun v60 H =>
   W.extract 0 v60 H fun v61 H =>
   W.extract 1 v60 H fun v62 H =>
   W.putN 4 v3 v61 H fun _ H =>
   W.getN 4 v3 H fun v63 H => Q (.tuple #[v63, v62]) H)
def f19.w (Q : Post) (p_0 : Value) (q_1 : Value) (H : Heap) : Prop :=
  W.box p_0 41 H fun v1 H =>
  W.box q_1 41 H fun v2 H =>
  W.new [(.slice none 0 0), (.slice none 0 0), (.slice none 0 0), (.slice none 0 0)] 41 H fun v3 H =>
  W.getN 4 v1 H fun v4 H =>
  W.call Try.prog (.func (.func 50) #[] #[]) #[v4] H fun v5 H =>
  W.un .not v5 H fun v6 H =>
  W.guarded v6 false (fun H k => W.getN 4 v2 H k) H fun v7 H =>
  W.guarded v6 false (fun H k => W.call Try.prog (.func (.func 50) #[] #[]) #[v7] H k) H fun v8 H =>
  W.guarded v6 false (fun H k => W.un .not v8 H k) H fun v9 H =>
  W.pick v6 (.bool true) v9 H fun v10 H =>
  W.cond v10 H
  (fun H => W.build [(.slice none 0 0), (.slice none 0 0), (.slice none 0 0), (.slice none 0 0)] [] H fun v11 H =>
   W.putN 4 v3 v11 H fun _ H =>
   W.getN 4 v3 H fun v12 H => Q (.tuple #[v12, (.int .i64 1)]) H)
  (fun H => W.fieldAddr 1 v1 H fun v13 H =>
   W.get v13 H fun v14 H =>
   W.len v14 H fun v15 H =>
   W.fieldAddr 1 v2 H fun v16 H =>
   W.get v16 H fun v17 H =>
   W.len v17 H fun v18 H =>
   W.bin .neq v15 v18 H fun v19 H =>
   W.cond v19 H
   (fun H => W.build [(.slice none 0 0), (.slice none 0 0), (.slice none 0 0), (.slice none 0 0)] [] H fun v20 H =>
    W.putN 4 v3 v20 H fun _ H =>
    W.getN 4 v3 H fun v21 H => Q (.tuple #[v21, (.int .i64 2)]) H)
   (fun H => W.fieldAddr 1 v1 H fun v22 H =>
    W.get v22 H fun v23 H =>
    W.fieldAddr 1 v2 H fun v24 H =>
    W.get v24 H fun v25 H =>
    W.callQ Try.prog (.func (.func 51) #[] #[]) #[v23, v25] H fun v26 H =>
    W.fieldAddr 2 v1 H fun v27 H =>
    W.get v27 H fun v28 H =>
    W.fieldAddr 2 v2 H fun v29 H =>
    W.get v29 H fun v30 H =>
    W.lit 2 [(.slice none 0 0)] 22 [(0, 1, v28), (1, 1, v30)] H fun v31 H =>
    W.callQ Try.prog (.func (.func 53) #[] #[]) #[v31] H fun v32 H =>
    W.callQ Try.prog (.func (.func 52) #[] #[]) #[v32] H fun v33 H =>
    W.fieldAddr 3 v1 H fun v34 H =>
    W.get v34 H fun v35 H =>
    W.fieldAddr 3 v2 H fun v36 H =>
    W.get v36 H fun v37 H =>
    W.lit 2 [(.slice none 0 0)] 26 [(0, 1, v35), (1, 1, v37)] H fun v38 H =>
    W.callQ Try.prog (.func (.func 54) #[] #[]) #[v38] H fun v39 H =>
    W.build [(.slice none 0 0), (.slice none 0 0), (.slice none 0 0), (.slice none 0 0)] [(1, 1, v26), (2, 1, v33), (3, 1, v39)] H fun v40 H =>
    W.new [(.slice none 0 0), (.slice none 0 0), (.slice none 0 0), (.slice none 0 0)] 41 H fun v41 H =>
    W.putN 4 v41 v40 H fun _ H =>
    W.fieldAddr 0 v1 H fun v42 H =>
    W.get v42 H fun v43 H =>
    W.len v43 H fun v44 H =>
    W.loop (S := St [48]) (fun I1 s H => f19.l1 Q v44 v43 v41 v2 v3 I1 s.1 H) ((.int .i64 0), ()) H))
theorem f19.enter {Q : Post} {p_0 : Value} {q_1 : Value} {H : Heap} (h : f19.w Q p_0 q_1 H) : Runs Try.prog 19 #[p_0, q_1] H Q :=
  fn_enter (ann := [(7, [48])]) (by kernel_rfl) Try.func19 rfl (by kernel_rfl) h (by kernel_rfl)


theorem fn51 {H0 : Heap} {Q : Post} {v w : Value} {a b : List Int} (hr : Has RS H0 [v] a) (hr2 : Has RS H0 [w] b) (hlen : a.length ≤ 16777216) (hl : a.length = b.length) (hx : ∀ i (h1 : i < a.length) (h2 : i < b.length), I64 (a[i] + b[i])) (hQ : ∀ H' u, Fresh RS H0 [u] (addL a b) H' → Q u H') :
    Runs Try.prog 51 #[v, w] H0 Q := by
  refine f51.enter (Wi.call (fn88 hr hlen fun H u f => ?_))
  have h := ((Loc.start H0).lent hr2).add f.fresh
  refine Wl.len h (W.for_rule b.length (fun i s H => s = (.int .i64 (i : Nat), ()) ∧ Ab.Loc H0 [.data RS [u] (mapTo (fun i x => x + b.getD i 0) a i), .lent RS [w] b] H) ⟨rfl, by rw [mapTo_zero]; exact h⟩ ?_)
  rintro i s H J hi ⟨rfl, h⟩ hJ
  refine Wi.lssC (fun hlt => Wi.tru ?_) fun hge => Wi.fls ?_
  · have hix : i < b.length := by omega
    have hia : i < a.length := by omega
    have hl := mapTo_length (fun i x => x + b.getD i 0) a i
    refine Wl.atInt h hix fun _ => Wl.atInt h (by omega) fun _ => ?_
    rw [mapTo_get hia]
    refine Wi.add (hx i hia hix) (Wl.setInt h (by omega) (hx i hia hix) fun H h => Wi.add (by unfold I64; omega) (hJ _ _ hix ⟨rfl, ?_⟩))
    rw [← mapTo_succ hia]
    have e : b.getD i 0 = b[i] := by rw [List.getD_eq_getElem?_getD, List.getElem?_eq_getElem hix]; rfl
    rw [e]
    exact h
  · have : i = a.length := by omega
    subst this
    rw [mapTo_all] at h
    exact hQ _ _ (h.ret (i := 0) rfl)

theorem fn19 {H0 : Heap} {Q : Post} {cs ds : List Value} {p q : Prg} (hr : Has RPrg H0 cs p) (hr' : Has RPrg H0 ds q) (hw : wPrg p ≤ 1048576) (hw' : wPrg q ≤ 1048576)
    (hQ : ∀ H' cs', Fresh RPrg H0 cs' (apRes p q).1 H' → Q (.tuple #[.agg cs'.toArray, .int .i64 (apRes p q).2]) H') : Runs Try.prog 19 #[.agg cs.toArray, .agg ds.toArray] H0 Q := by
  obtain ⟨u1, u2, u3, u4, rfl, r1, r2, r3, r4⟩ := hasPrg hr
  obtain ⟨v1, v2, v3, v4, rfl, s1, s2, s3, s4⟩ := hasPrg hr'
  refine f19.enter ?_
  unfold f19.w
  have h := ((((((((((Loc.start H0).lent r1).lent r2).lent r3).lent r4).lent hr).lent s1).lent s2).lent s3).lent s4).lent hr'
  refine Wl.box h fun H b h => Wl.box h fun H bq h => Wl.new h fun H b2 h => Wl.getA h rfl (Wi.call (fn50 (h.rd (cs := [u1, u2, u3, u4])) hw fun H t l ht => ?_))
  have h := h.to l
  have zero : ∀ (H : Heap) (c : Int), Ab.Loc H0 _ H → apRes p q = (zPrg, c) → W.build [.slice none 0 0, .slice none 0 0, .slice none 0 0, .slice none 0 0] [] H fun x H => W.putN 4 (pt b2 0) x H fun _ H => W.getN 4 (pt b2 0) H fun y H => Q (.tuple #[y, .int .i64 c]) H := fun H c h' e =>
    Wi.build (cells := zCells4) rfl (Wl.putA (b := b2) (L := [.box b2 zCells4, .box bq [v1, v2, v3, v4], .box b [u1, u2, u3, u4], .lent RPrg [v1, v2, v3, v4] q, .lent RS [v4] q.2.2.2, .lent RSS [v3] q.2.2.1, .lent RS [v2] q.2.1, .lent RSS [v1] q.1, .lent RPrg [u1, u2, u3, u4] p, .lent RS [u4] p.2.2.2, .lent RSS [u3] p.2.2.1, .lent RS [u2] p.2.1, .lent RSS [u1] p.1]) h' rfl rfl rfl fun H h => Wl.getA h rfl (by
      have := hQ H zCells4
      rw [e] at this
      exact this (fresh_nil4 h.le)))
  cases t with
  | false =>
    have hp : ¬ (IsPrg p ∧ IsPrg q) := fun g => Bool.noConfusion (ht.2 g.1)
    simp only [gw]
    exact zero _ _ h (by simp only [apRes, if_neg hp])
  | true =>
  have hp := ht.1 rfl
  simp only [g9, g4]
  refine Wl.getA h rfl (Wi.call (fn50 (h.rd (cs := [v1, v2, v3, v4])) hw' fun H t l ht' => ?_))
  have h := h.to l
  cases t with
  | false =>
    have hp : ¬ (IsPrg p ∧ IsPrg q) := fun g => Bool.noConfusion (ht'.2 g.2)
    simp only [gw]
    exact zero _ _ h (by simp only [apRes, if_neg hp])
  | true =>
  have hq := ht'.1 rfl
  simp only [gw]
  refine Wi.fieldAddr0 (Wl.get h rfl (Wl.len h (Wi.fieldAddr0 (Wl.get h rfl (Wl.len h (Wi.neqC (fun hne => ?_) fun heq => ?_))))))
  · have hn : ¬ p.2.1.length = q.2.1.length := by omega
    simp only [gw]
    exact zero _ _ h (by simp only [apRes, if_pos (And.intro hp hq), if_neg hn])
  have hl : p.2.1.length = q.2.1.length := by omega
  simp only [apRes, if_pos (And.intro hp hq), if_pos hl] at hQ
  clear zero
  simp only [gw]
  have n1 := hp.n1; have nm := hp.nm; have dl := hp.dl; have al := hp.al
  have n1' := hq.n1; have nm' := hq.nm; have dl' := hq.dl; have al' := hq.al
  refine Wi.fieldAddr0 (Wl.get h rfl (Wi.fieldAddr0 (Wl.get h rfl (Wi.callQ (fn51 (h.rd (cs := [u2])) (h.rd (cs := [v2])) (by omega) hl (fun i h1 h2 => ?_) fun H w2 f2 => ⟨f2.le, ?_⟩)))))
  · have := hp.c _ (List.getElem_mem h1); have := hq.c _ (List.getElem_mem h2); unfold I64; omega
  have h := h.add f2
  -- the rows of both
  obtain ⟨bs3, q3⟩ := h.rd (cs := [u3])
  obtain ⟨bt3, q3'⟩ := h.rd (cs := [v3])
  refine Wi.fieldAddr0 (Wl.get h rfl (Wi.fieldAddr0 (Wl.get h rfl (Wi.lit (cells := [u3, v3]) (by simp [fillA, Has.one ⟨_, q3⟩, Has.one ⟨_, q3'⟩, reps]) fun H1 l1 n1'' k1 => ?_))))
  have h := h.to l1
  have hv : Has (Rd.slice RSS) H1 [.slice (some (adr _ 0)) 2 (2 * 2)] [p.2.2.1, q.2.2.1] := ⟨_, .inr ⟨_, 0, _, _, fun i => if i = 0 then bs3 else bt3, rfl, rfl, ⟨by omega, k1, by simp, by simp, by simp [Rd.slice], fun i hi => by
    match i, hi with
    | 0, _ => exact Rd.le _ q3 l1
    | 1, _ => exact Rd.le _ q3' l1⟩⟩⟩
  refine Wi.callQ (concat53 _ _ [p.2.2.1, q.2.2.1] _ hv (by simp; omega) fun H w j => ⟨j.le, ?_⟩)
  have eF : ([p.2.2.1, q.2.2.1] : List (List (List Int))).flatten = p.2.2.1 ++ q.2.2.1 := by simp
  have hj := j.read
  rw [eF] at hj
  have h := h.to j.le
  refine Wi.callQ (fn52 hj ⟨by simp; omega, fun r hr => ?_⟩ fun H w3 f3 => ⟨f3.le, ?_⟩)
  · rcases List.mem_append.1 hr with hr | hr
    · exact (okAA hp).2 r hr
    · exact (okAA hq).2 r hr
  have h := h.add f3.fresh
  -- the limits of both
  obtain ⟨bs4, q4⟩ := h.rd (cs := [u4])
  obtain ⟨bt4, q4'⟩ := h.rd (cs := [v4])
  refine Wi.fieldAddr0 (Wl.get h rfl (Wi.fieldAddr0 (Wl.get h rfl (Wi.lit (cells := [u4, v4]) (by simp [fillA, Has.one ⟨_, q4⟩, Has.one ⟨_, q4'⟩, reps]) fun H2 l2 n2'' k2 => ?_))))
  have h := h.to l2
  have hv2 : Has (Rd.slice RS) H2 [.slice (some (adr _ 0)) 2 (2 * 2)] [p.2.2.2, q.2.2.2] := ⟨_, .inr ⟨_, 0, _, _, fun i => if i = 0 then bs4 else bt4, rfl, rfl, ⟨by omega, k2, by simp, by simp, by simp [Rd.slice], fun i hi => by
    match i, hi with
    | 0, _ => exact Rd.le _ q4 l2
    | 1, _ => exact Rd.le _ q4' l2⟩⟩⟩
  refine Wi.callQ (concat54 _ _ [p.2.2.2, q.2.2.2] _ hv2 (by simp; omega) fun H w4 j4 => ⟨j4.le, ?_⟩)
  have eF4 : ([p.2.2.2, q.2.2.2] : List (List Int)).flatten = p.2.2.2 ++ q.2.2.2 := by simp
  rw [eF4] at j4
  have f4 := j4.plain.fresh
  have h := (h.add f4).nilG RS 26
  have c2 := f2.read.cell1; have c3 := f3.fresh.read.cell1; have c4 := f4.read.cell1
  refine Wi.build (cells := [.slice none 0 0, w2, w3, w4]) (by simp [fillA, f2.read.one, f3.fresh.read.one, f4.read.one]) (Wl.new h fun H b3 h => Wl.putA h rfl rfl (by simp only [List.all_cons, List.all_nil, Bool.and_true, c2, c3, c4]; rfl) fun H h => Wi.fieldAddr0 (Wl.get h rfl (Wl.len h ?_)))
  refine W.for_rule p.1.length (fun i s H => ∃ g, s = (.int .i64 (i : Nat), ()) ∧ Ab.Loc H0 [.box b3 [g, w2, w3, w4], .grow RS 26 g ((p.1.take i).mapIdx fun i r => addL r (q.1.getD i [])), .data RS [w4] (p.2.2.2 ++ q.2.2.2), .data RSS [w3] (p.2.2.1 ++ q.2.2.1), .data RS [w2] (addL p.2.1 q.2.1), .box b2 zCells4, .box bq [v1, v2, v3, v4], .box b [u1, u2, u3, u4], .lent RPrg [v1, v2, v3, v4] q, .lent RS [v4] q.2.2.2, .lent RSS [v3] q.2.2.1, .lent RS [v2] q.2.1, .lent RSS [v1] q.1, .lent RPrg [u1, u2, u3, u4] p, .lent RS [u4] p.2.2.2, .lent RSS [u3] p.2.2.1, .lent RS [u2] p.2.1, .lent RSS [u1] p.1] H) ⟨_, rfl, h⟩ ?_
  rintro i s H J hi ⟨g, rfl, h⟩ hJ
  refine Wi.lssC (fun hlt => Wi.tru ?_) fun hge => Wi.fls ?_
  · have hix : i < p.1.length := by omega
    have hiq : i < q.1.length := by omega
    have hd := hp.d _ (List.getElem_mem hix)
    have hd' := hq.d _ (List.getElem_mem hiq)
    refine Wl.at1 rfl h hix fun w hw => Wi.fieldAddr0 (Wl.get h rfl (Wi.fieldAddr0 (Wl.get h rfl (Wl.at1 rfl h hiq fun w' hw' => Wi.callQ (fn51 hw hw' (by omega) (by omega) (fun j h1 h2 => ?_) fun H r f => ⟨f.le, ?_⟩)))))
    · have := hd.2 _ (List.getElem_mem h1); have := hd'.2 _ (List.getElem_mem h2); unfold I64; omega
    refine Wl.pushF rfl h f f.read.one (by simp; omega) fun H g' h => Wi.fieldAddr0 (Wl.put h (h.rd (cs := [g'])).cell1 (by simp) fun H h => Wi.add (by unfold I64; omega) (hJ _ _ hix ⟨g', rfl, ?_⟩))
    have e : (p.1.take (i + 1)).mapIdx (fun i r => addL r (q.1.getD i [])) = (p.1.take i).mapIdx (fun i r => addL r (q.1.getD i [])) ++ [addL p.1[i] q.1[i]] := by
      have hm : min i p.1.length = i := by omega
      rw [List.take_succ_eq_append_getElem hix, List.mapIdx_append]
      simp [hm, List.getD_eq_getElem?_getD, List.getElem?_eq_getElem hiq]
    rw [e]
    exact h
  · have : i = p.1.length := by omega
    subst this
    rw [List.take_length] at h
    have h := h.asData (i := 1) rfl
    have kc : [g, w2, w3, w4].all isCell = true := by simp [c2, c3, c4, (h.rd (cs := [g])).cell1]
    have f := Loc.ret4 (p := addPrg p q) h (i1 := 1) (i2 := 4) (i3 := 3) (i4 := 2) rfl rfl rfl rfl (by decide)
    simp only [List.cons_append, List.nil_append] at f
    refine Wl.getA h rfl (Wi.call (fn55 f.read (add_w hp hq) (fun hs H l => ?_) fun hs H l => ?_))
    · have h := h.to l
      simp only [gw]
      refine Wl.putA (vs := [g, w2, w3, w4]) h rfl rfl kc fun H h => Wl.getA h rfl ?_
      have := hQ H [g, w2, w3, w4]
      simp only [limRes, if_pos hs] at this
      exact this (by
        have f := Loc.ret4 (p := addPrg p q) h (i1 := 1) (i2 := 4) (i3 := 3) (i4 := 2) rfl rfl rfl rfl (by decide)
        exact f)
    · have h := h.to l
      simp only [gw]
      refine Wl.putA (vs := zCells4) h rfl rfl rfl fun H h => Wl.getA h rfl ?_
      have := hQ H zCells4
      simp only [limRes, if_neg hs] at this
      exact this (fresh_nil4 h.le)

end Go.Proofs.Ytioleipoomgmhaa
