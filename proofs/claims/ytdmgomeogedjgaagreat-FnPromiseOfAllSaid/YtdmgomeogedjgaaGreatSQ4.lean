/- SolutionsOf of the reference, any problem: the solutions of all covering sets, each once, in order. No condition. -/
import Derived.Test.YtdmgomeogedjgaaGreatSQ3
import Derived.Test.YtdmgomeogedjgaaGreatGZB
namespace Go.Proofs.YtdmgomeogedjgaaGreat
open Go.Ab

/- loop.example/g01343/spec.l02All -/
def f28.j1 (Q : Post) (s_4 : Value) (I1 : St [3, 4] → Heap → Prop) (out_3' : Value) (H : Heap) : Prop :=
  W.bin .add s_4 (.int .i64 1) H fun v12 H =>
  I1 (out_3', v12, ()) H
def f28.l2 (Q : Post) (v14 : Value) (out_3 : Value) (s_4 : Value) (I1 : St [3, 4] → Heap → Prop) (I2 : St [6] → Heap → Prop) (at_6 : Value) (H : Heap) : Prop :=
  W.bin .gtr at_6 (.int .i64 0) H fun v16 H =>
  W.guarded v16 true (fun H k => k v14 H) H fun v17 H =>
  W.guarded v16 true (fun H k => k out_3 H) H fun v18 H =>
  W.guarded v16 true (fun H k => k at_6 H) H fun v19 H =>
  W.guarded v16 true (fun H k => W.bin .sub v19 (.int .i64 1) H k) H fun v20 H =>
  W.guarded v16 true (fun H k => W.indexAddr 1 v18 v20 H k) H fun v21 H =>
  W.guarded v16 true (fun H k => W.get v21 H k) H fun v22 H =>
  W.guarded v16 true (fun H k => W.call Tryz.prog (.func (.func 58) #[] #[]) #[v17, v22] H k) H fun v23 H =>
  W.pick v16 v23 (.bool false) H fun v24 H =>
  W.cond v24 H
  (fun H => W.bin .sub at_6 (.int .i64 1) H fun v25 H =>
   I2 (v25, ()) H)
  (fun H => W.bin .gtr at_6 (.int .i64 0) H fun v26 H =>
   W.guarded v26 true (fun H k => k out_3 H) H fun v27 H =>
   W.guarded v26 true (fun H k => k at_6 H) H fun v28 H =>
   W.guarded v26 true (fun H k => W.bin .sub v28 (.int .i64 1) H k) H fun v29 H =>
   W.guarded v26 true (fun H k => W.indexAddr 1 v27 v29 H k) H fun v30 H =>
   W.guarded v26 true (fun H k => W.get v30 H k) H fun v31 H =>
   W.guarded v26 true (fun H k => k v14 H) H fun v32 H =>
   W.guarded v26 true (fun H k => W.call Tryz.prog (.func (.func 58) #[] #[]) #[v31, v32] H k) H fun v33 H =>
   W.guarded v26 true (fun H k => W.un .not v33 H k) H fun v34 H =>
   W.pick v26 v34 (.bool false) H fun v35 H =>
   W.cond v35 H
   (fun H => f28.j1 Q s_4 I1 out_3 H)
   (fun H => W.lit 1 [(.slice none 0 0)] 38 [(0, 1, v14)] H fun v36 H =>
    W.slice 1 out_3 (some at_6) none H fun v37 H =>
    W.append 1 38 v36 v37 H fun v38 H =>
    W.lit 0 [(.slice none 0 0)] 38 [] H fun v39 H =>
    W.slice 1 out_3 none (some at_6) H fun v40 H =>
    W.append 1 38 v39 v40 H fun v41 H =>
    W.append 1 38 v41 v38 H fun v42 H =>
    f28.j1 Q s_4 I1 v42 H))
def f28.l1 (Q : Post) (v1 : Value) (I1 : St [3, 4] → Heap → Prop) (out_3 : Value) (s_4 : Value) (H : Heap) : Prop :=
  W.fieldAddr 1 v1 H fun v3 H =>
  W.get v3 H fun v4 H =>
  W.len v4 H fun v5 H =>
  W.conv .u64 v5 H fun v6 H =>
  W.bin .shl (.int .i64 1) v6 H fun v7 H =>
  W.bin .lss s_4 v7 H fun v8 H =>
  W.cond v8 H
  (fun H => W.getN 2 v1 H fun v9 H =>
   W.call Tryz.prog (.func (.func 56) #[] #[]) #[v9, s_4] H fun v10 H =>
   W.un .not v10 H fun v11 H =>
   W.cond v11 H
   (fun H => f28.j1 Q s_4 I1 out_3 H)
   (fun H => W.getN 2 v1 H fun v13 H =>
    W.call Tryz.prog (.func (.func 57) #[] #[]) #[v13, s_4] H fun v14 H =>
    W.len out_3 H fun v15 H =>
    W.loop (S := St [6]) (fun I2 s H => f28.l2 Q v14 out_3 s_4 I1 I2 s.1 H) (v15, ()) H))
  (fun H => Q out_3 H)
def f28.w (Q : Post) (p_0 : Value) (H : Heap) : Prop :=
  W.box p_0 31 H fun v1 H =>
  W.lit 0 [(.slice none 0 0)] 38 [] H fun v2 H =>
  W.loop (S := St [3, 4]) (fun I1 s H => f28.l1 Q v1 I1 s.1 s.2.1 H) (v2, (.int .i64 0), ()) H
theorem f28.enter {Q : Post} {p_0 : Value} {H : Heap} (h : f28.w Q p_0 H) : Runs Tryz.prog 28 #[p_0] H Q :=
  fn_enter (ann := [(3, [3, 4]), (7, [6])]) (by kernel_rfl) Tryz.func28 rfl (by kernel_rfl) h (by kernel_rfl)

/- loop.example/g01343/spec.SolutionsOf -/
def f9.l1 (Q : Post) (v6 : Value) (I1 : St [5] → Heap → Prop) (i_5 : Value) (H : Heap) : Prop :=
  W.len v6 H fun v7 H =>
  W.bin .lss i_5 v7 H fun v8 H =>
  W.cond v8 H
  (fun H => W.indexAddr 1 v6 i_5 H fun v9 H =>
   W.get v9 H fun v10 H =>
   W.call Tryz.prog (.func (.func 29) #[] #[]) #[v10] H fun v11 H =>
   W.extract 0 v11 H fun v12 H =>
   W.extract 1 v11 H fun v13 H =>
   W.bin .neq v13 (.int .i64 0) H fun v14 H =>
   W.cond v14 H
   (fun H => Q (.tuple #[(.slice none 0 0), v13]) H)
   (fun H => W.bin .add i_5 (.int .i64 1) H fun v15 H =>
    I1 (v15, ()) H))
  (fun H => Q (.tuple #[v6, (.int .i64 0)]) H)
def f9.w (Q : Post) (p_0 : Value) (H : Heap) : Prop :=
  W.box p_0 31 H fun v1 H =>
  W.getN 2 v1 H fun v2 H =>
  W.call Tryz.prog (.func (.func 27) #[] #[]) #[v2] H fun v3 H =>
  W.un .not v3 H fun v4 H =>
  W.cond v4 H
  (fun H => Q (.tuple #[(.slice none 0 0), (.int .i64 1)]) H)
  (fun H => W.getN 2 v1 H fun v5 H =>
   W.call Tryz.prog (.func (.func 28) #[] #[]) #[v5] H fun v6 H =>
   W.loop (S := St [5]) (fun I1 s H => f9.l1 Q v6 I1 s.1 H) ((.int .i64 0), ()) H)
theorem f9.enter {Q : Post} {p_0 : Value} {H : Heap} (h : f9.w Q p_0 H) : Runs Tryz.prog 9 #[p_0] H Q :=
  fn_enter (ann := [(5, [5])]) (by kernel_rfl) Tryz.func9 rfl (by kernel_rfl) h (by kernel_rfl)


theorem fnQ58 {H0 : Heap} {Q : Post} {va vb : Value} {A B : List Frac} {m : Nat} (hA : LowL m A) (hB : LowL m B) (ha : Has RFS H0 [va] A) (hb : Has RFS H0 [vb] B) (hQ : ∀ H', H0.Le H' → Q (.bool (decide (cmpL A B < 0))) H') : Runs Tryz.prog 58 #[va, vb] H0 Q := by
  have hsa := ha.small
  have lA := hA.1
  have lB := hB.1
  refine f58.enter ?_
  unfold f58.w
  refine W.for_rule A.length (fun i st H => H = H0 ∧ st = (.int .i64 (i : Nat), ()) ∧ cmpL A B = cmpL (A.drop i) (B.drop i)) ⟨rfl, rfl, by simp⟩ ?_
  rintro i st H J hi ⟨rfl, rfl, hc⟩ hJ
  unfold f58.l1
  refine Wl.lenH ha (Wi.lssC (fun hlt => Wi.tru ?_) fun hge => Wi.fls ?_)
  · have hia : i < A.length := by omega
    have hib : i < B.length := by omega
    obtain ⟨g1, g2, g5⟩ := isFr_iff.1 (hA.2 _ (List.getElem_mem hia))
    obtain ⟨g3, g4, g6⟩ := isFr_iff.1 (hB.2 _ (List.getElem_mem hib))
    have est : cmpL (A.drop i) (B.drop i) = if dF A[i] B[i] ≠ 0 then dF A[i] B[i] else cmpL (A.drop (i + 1)) (B.drop (i + 1)) := by
      rw [List.drop_eq_getElem_cons hia, List.drop_eq_getElem_cons hib]
      rfl
    have k1 := mulA (A := 1000000000) (B := 1000000000) (show (A[i]).1.natAbs ≤ 1000000000 by omega) (show (B[i]).2.natAbs ≤ 1000000000 by omega)
    have k2 := mulA (A := 1000000000) (B := 1000000000) (show (B[i]).1.natAbs ≤ 1000000000 by omega) (show (A[i]).2.natAbs ≤ 1000000000 by omega)
    refine Wl.atFrH ha hia fun i1 i2 => Wl.atFrH hb hib fun i3 i4 => Wi.nePair ⟨i1, i2⟩ ⟨i3, i4⟩ ?_
    by_cases e : A[i] = B[i]
    · rw [decide_eq_true e]
      refine Wi.fls (Wi.add (by unfold I64; omega) (hJ _ _ hia ⟨rfl, rfl, ?_⟩))
      rw [hc, est, if_neg]
      intro q
      exact q (by unfold dF; rw [e, Int.sub_self]; rfl)
    · rw [decide_eq_false e]
      have hne : dF A[i] B[i] ≠ 0 := fun q => e ((frac_cross (by omega) (by omega) g5 g6).1 (by have := sg_zero.1 q; omega))
      refine Wi.tru (Wl.atFrH ha hia fun _ _ => Wl.atFrH hb hib fun _ _ => Wi.callQ (fn109 (by unfold I64; omega) (by unfold I64; omega) fun H' l => ⟨l, ?_⟩))
      have ed : decide (A[i].1 * B[i].2 < B[i].1 * A[i].2) = decide (cmpL A B < 0) := by
        rw [hc, est, if_pos hne, decide_eq_decide]
        unfold dF
        rw [sg_lt]
        omega
      rw [ed]
      exact hQ _ l
  · have hz : cmpL A B = 0 := by
      rw [hc, List.drop_of_length_le (show A.length ≤ i by omega), List.drop_of_length_le (show B.length ≤ i by omega)]
      rfl
    have := hQ _ (.refl _)
    rw [hz] at this
    exact this

theorem Wl.litRaw {H0 H : Heap} {L : List (Atom H0.next)} {K : Post} {u zv : Value} {ty : TypeId} (hu : isCell u = true) (hcu : cellsA u = some [u]) (h : Ab.Loc H0 L H) (k : ∀ H' v', Ab.Loc H0 (.grow Rd.raw ty v' [u] :: L) H' → K v' H') : W.lit 1 [zv] ty [(0, 1, u)] H K :=
  Wi.lit (cells := [u]) (by simp [fillA, hcu, reps]) fun H1 l1 n1 k1 => k H1 _ (h.cons l1 (bs := [H.next]) (rawG_mk (b := H.next) (e := 2 * 1) rfl rfl k1 (by omega) (by simp) (by simp [hu])) fun b hb => by simp at hb; omega)

theorem sw_trans {α : Type} {lt : α → α → Bool} (o : SWO lt) {x y z : α} (h1 : lt x y = true) (h2 : lt y z = true) : lt x z = true := by
  cases h : lt x z with
  | true => rfl
  | false =>
    have := o.tr h (o.asym h1)
    rw [h2] at this
    cases this

/-- What is there, in order, each once. -/
abbrev IncE {m : Nat} (es : List (El m)) : Prop := es.Pairwise fun a b => ltE a b = true

theorem IncE.ins {m : Nat} {es : List (El m)} {x : El m} {k : Nat} (h : IncE es) (hk : k ≤ es.length) (h1 : ∀ i (hi : i < es.length), k ≤ i → ltE x es[i] = true) (h2 : ∀ h : 0 < k, ltE (es[k - 1]'(by omega)) x = true) : IncE (es.take k ++ (x :: es.drop k)) := by
  have o := ltE_swo m
  refine List.pairwise_append.2 ⟨h.sublist (List.take_sublist _ _), List.pairwise_cons.2 ⟨fun b hb => ?_, h.sublist (List.drop_sublist _ _)⟩, fun a ha b hb => ?_⟩
  · obtain ⟨i, hi, rfl⟩ := List.mem_iff_getElem.1 hb
    rw [List.getElem_drop]
    exact h1 _ (by simp at hi; omega) (by omega)
  · obtain ⟨i, hi, rfl⟩ := List.mem_iff_getElem.1 ha
    rw [List.getElem_take]
    have hik : i < k := by simp at hi; omega
    have hax : ltE (es[i]'(by omega)) x = true := by
      by_cases e : i = k - 1
      · subst e; exact h2 (by omega)
      · exact sw_trans o (List.pairwise_iff_getElem.1 h i (k - 1) (by omega) (by omega) (by omega)) (h2 (by omega))
    rcases List.mem_cons.1 hb with e | hb
    · rw [e]; exact hax
    · obtain ⟨j, hj, rfl⟩ := List.mem_iff_getElem.1 hb
      rw [List.getElem_drop]
      exact sw_trans o hax (h1 _ (by simp at hj; omega) (by omega))

theorem fnQ28 {H0 : Heap} {Q : Post} {cs : List Value} {p : Prob} (hr : Has RProblem H0 cs p) (hp : isProb p = true) (hQ : ∀ H' w ys, H0.Le H' → Has (Rd.slice RFS) H' [w] ys → SolsOf p.2.length p ys → Q w H') : Runs Tryz.prog 28 #[.agg cs.toArray] H0 Q := by
  obtain ⟨u1, u2, rfl, r1, r2⟩ := hasProb hr
  have hpb := PB.of hp
  have hn5 := hpb.n5
  have h32 := pow5 hn5
  have h := (((Loc.start H0).lent r2).lent hr)
  refine f28.enter ?_
  unfold f28.w
  refine Wl.box h fun H b h => Wl.lit0 (ty := 38) Rd.raw rfl (h.bag0 RFS) fun H o h => ?_
  obtain ⟨N, hN⟩ : ∃ N : Nat, N = 2 ^ p.2.length := ⟨_, rfl⟩
  refine W.for_rule N (fun x st H => ∃ (out : Value) (es : List (El p.2.length)) (tbl : List (Value × List Frac)), st = (out, .int .i64 (x : Nat), ()) ∧ Ab.Loc H0 [.grow Rd.raw 38 out (es.map fun e => e.1.1), .view (Rd.bag RFS) [] tbl, .box b [u1, u2], .lent RProblem [u1, u2] p, .lent RS [u2] p.2] H ∧ (∀ e ∈ es, e.1 ∈ tbl) ∧ IncE es ∧ es.length ≤ x ∧ ∀ z, (∃ e ∈ es, z = e.1.2) ↔ ∃ s ∈ (List.range x).filter (covB p.2.length p), z = solF p.2.length p s) ⟨o, [], [], rfl, h, (fun e he => by cases he), .nil, by simp, by simp⟩ ?_
  rintro x st H J hx ⟨out, es, tbl, rfl, h, ht, hinc, hlen, hmem⟩ hJ
  have hI : I64 ((x : Int) + 1) := by unfold I64; omega
  unfold f28.l1
  refine Wi.fieldAddr (Wl.get (b := b) (o := 1) h rfl (Wl.len (v := u2) (xs := p.2) h (Wi.convN (by omega) (Wi.shl1 (by omega) ?_))))
  rw [← hN]
  refine Wi.lssC (fun hlt => Wi.tru ?_) fun hge => Wi.fls ?_
  · have hxN : x < N := by omega
    refine Wl.getA (b := b) h rfl (Wi.call (fn56 (h.rd (cs := [u1, u2])) hpb (by omega) fun H l => ?_))
    have h := h.to l
    cases hcb : covB p.2.length p x with
    | false =>
      have em : (List.range (x + 1)).filter (covB p.2.length p) = (List.range x).filter (covB p.2.length p) := by
        rw [List.range_succ, List.filter_append]
        simp [hcb]
      simp only [gw]
      unfold f28.j1
      exact Wi.add hI (hJ _ _ hxN ⟨out, es, tbl, rfl, h, ht, hinc, by omega, by rw [em]; exact hmem⟩)
    | true =>
      have em : (List.range (x + 1)).filter (covB p.2.length p) = (List.range x).filter (covB p.2.length p) ++ [x] := by
        rw [List.range_succ, List.filter_append]
        simp [hcb]
      have hxc : x ∈ covN p.2.length p := List.mem_filter.2 ⟨by simp; omega, hcb⟩
      have hlow := solF_cov hpb hxc
      have hD := (covN_ok2 hxc).2.1
      simp only [gw]
      refine Wl.getA (b := b) h rfl (Wi.call (fn57 (h.rd (cs := [u1, u2])) hpb (by omega) hD fun H v14 f => ?_))
      have h := h.add f
      obtain ⟨own, hown⟩ : ∃ own : El p.2.length, own = ⟨(v14, solF p.2.length p x), hlow⟩ := ⟨_, rfl⟩
      have o1 : own.1.1 = v14 := by rw [hown]
      have o2 : own.1.2 = solF p.2.length p x := by rw [hown]
      have hol : LowL p.2.length own.1.2 := own.2
      rw [← o2] at h
      have h : Ab.Loc H0 (.data RFS [v14] own.1.2 :: .grow Rd.raw 38 out (es.map fun e => e.1.1) :: .view (Rd.bag RFS) [] tbl :: [.box b [u1, u2], .lent RProblem [u1, u2] p, .lent RS [u2] p.2]) H := h
      have lenO : ∀ {K : Post} {H}, Ab.Loc H0 (.data RFS [v14] own.1.2 :: .grow Rd.raw 38 out (es.map fun e => e.1.1) :: .view (Rd.bag RFS) [] tbl :: [.box b [u1, u2], .lent RProblem [u1, u2] p, .lent RS [u2] p.2]) H → K (.int .i64 (es.length : Nat)) H → W.len out H K := fun {K H} h hk => Wl.lenH (h.rd (cs := [out]) (r := Rd.slice Rd.raw)) (by rw [List.length_map]; exact hk)
      refine lenO h ?_
      have get : ∀ {K : Post} {H} (i : Nat) (hi : i < es.length), Ab.Loc H0 (.data RFS [v14] own.1.2 :: .grow Rd.raw 38 out (es.map fun e => e.1.1) :: .view (Rd.bag RFS) [] tbl :: [.box b [u1, u2], .lent RProblem [u1, u2] p, .lent RS [u2] p.2]) H → (Has RFS H [es[i].1.1] es[i].1.2 → K es[i].1.1 H) → W.indexAddr 1 out (.int .i64 (i : Nat)) H fun p H => W.get p H K := fun {K H} i hi h hk => by
        refine Wl.atRaw (us := es.map fun e => e.1.1) (h.rd (cs := [out]) (r := Rd.slice Rd.raw)) (by simpa using hi) ?_
        simp only [List.getElem_map]
        exact hk ((h.rd (cs := []) (r := Rd.bag RFS) (x := tbl)).bag (ht _ (List.getElem_mem hi)))
      refine W.for_rule es.length (fun t st H => ∃ k : Nat, st = (.int .i64 (k : Nat), ()) ∧ k + t = es.length ∧ (∀ i (hi : i < es.length), k ≤ i → ltE own es[i] = true) ∧ Ab.Loc H0 (.data RFS [v14] own.1.2 :: .grow Rd.raw 38 out (es.map fun e => e.1.1) :: .view (Rd.bag RFS) [] tbl :: [.box b [u1, u2], .lent RProblem [u1, u2] p, .lent RS [u2] p.2]) H) ⟨es.length, rfl, rfl, fun i hi hk => by omega, h⟩ ?_
      rintro t st H J2 ht2 ⟨k, rfl, hkt, hgr, h⟩ hJ2
      unfold f28.l2
      -- where it belongs
      have place : ∀ H, Ab.Loc H0 (.data RFS [v14] own.1.2 :: .grow Rd.raw 38 out (es.map fun e => e.1.1) :: .view (Rd.bag RFS) [] tbl :: [.box b [u1, u2], .lent RProblem [u1, u2] p, .lent RS [u2] p.2]) H → (∀ h : 0 < k, ltE (es[k - 1]'(by omega)) own = true) →
          W.lit 1 [.slice none 0 0] 38 [(0, 1, v14)] H fun v36 H => W.slice 1 out (some (.int .i64 (k : Nat))) none H fun v37 H => W.append 1 38 v36 v37 H fun v38 H => W.lit 0 [.slice none 0 0] 38 [] H fun v39 H => W.slice 1 out none (some (.int .i64 (k : Nat))) H fun v40 H => W.append 1 38 v39 v40 H fun v41 H => W.append 1 38 v41 v38 H fun v42 H => f28.j1 Q (.int .i64 (x : Nat)) J v42 H := fun H h hlt => by
        have hcu := (h.rd (cs := [v14]) (r := RFS) (x := own.1.2)).one
        have hc1 := (h.rd (cs := [v14]) (r := RFS) (x := own.1.2)).cell1
        have h := (h.front 2 rfl).front 1 rfl
        have h : Ab.Loc H0 (.data RFS [v14] own.1.2 :: .view (Rd.bag RFS) [] tbl :: .grow Rd.raw 38 out (es.map fun e => e.1.1) :: [.box b [u1, u2], .lent RProblem [u1, u2] p, .lent RS [u2] p.2]) H := h
        have h := h.bagAdd.front 1 rfl
        have h : Ab.Loc H0 (.grow Rd.raw 38 out (es.map fun e => e.1.1) :: .view (Rd.bag RFS) [] (tbl ++ [(v14, own.1.2)]) :: [.box b [u1, u2], .lent RProblem [u1, u2] p, .lent RS [u2] p.2]) H := h
        have gsl : ∀ {H} {L : List (Atom H0.next)} {j : Nat}, Ab.Loc H0 L H → L[j]? = some (.grow Rd.raw 38 out (es.map fun e => e.1.1)) → Has (Rd.gslice Rd.raw 38) H [out] (es.map fun e => e.1.1) := fun h hj => by
          obtain ⟨bs, p, _⟩ := h.upd hj
          exact ⟨bs, out, rfl, p⟩
        refine Wl.litRaw hc1 hcu h fun H v36 h => ?_
        refine Wl.cutHiG rfl (gsl (j := 1) h rfl) (by simp; omega) fun w1 hw1 => ?_
        refine Wl.appendH (i := 0) rfl h rfl hw1 (by simp; omega) fun H v38 h => ?_
        refine Wl.lit0 (ty := 38) Rd.raw rfl h fun H v39 h => ?_
        have h : Ab.Loc H0 (.grow Rd.raw 38 v39 [] :: .grow Rd.raw 38 v38 ([v14] ++ (es.map fun e => e.1.1).drop k) :: .grow Rd.raw 38 out (es.map fun e => e.1.1) :: .view (Rd.bag RFS) [] (tbl ++ [(v14, own.1.2)]) :: [.box b [u1, u2], .lent RProblem [u1, u2] p, .lent RS [u2] p.2]) H := h
        refine Wl.cutLoH (gsl (j := 2) h rfl).ofG1 (by simp; omega) fun w2 hw2 => ?_
        refine Wl.appendH (i := 0) rfl h rfl hw2 (by simp; omega) fun H v41 h => ?_
        have h : Ab.Loc H0 (.grow Rd.raw 38 v41 ([] ++ (es.map fun e => e.1.1).take k) :: .grow Rd.raw 38 v38 ([v14] ++ (es.map fun e => e.1.1).drop k) :: .grow Rd.raw 38 out (es.map fun e => e.1.1) :: .view (Rd.bag RFS) [] (tbl ++ [(v14, own.1.2)]) :: [.box b [u1, u2], .lent RProblem [u1, u2] p, .lent RS [u2] p.2]) H := h
        refine Wl.appendH (zs := [v14] ++ (es.map fun e => e.1.1).drop k) (i := 0) rfl h rfl (h.rd (cs := [v38]) (r := Rd.slice Rd.raw)) (by simp; omega) fun H v42 h => ?_
        have h : Ab.Loc H0 (.grow Rd.raw 38 v42 ([] ++ (es.map fun e => e.1.1).take k ++ ([v14] ++ (es.map fun e => e.1.1).drop k)) :: .grow Rd.raw 38 v38 ([v14] ++ (es.map fun e => e.1.1).drop k) :: .grow Rd.raw 38 out (es.map fun e => e.1.1) :: .view (Rd.bag RFS) [] (tbl ++ [(v14, own.1.2)]) :: [.box b [u1, u2], .lent RProblem [u1, u2] p, .lent RS [u2] p.2]) H := h
        have h := (h.cut 1).cut 1
        have eu : [] ++ (es.map fun e => e.1.1).take k ++ ([v14] ++ (es.map fun e => e.1.1).drop k) = (es.take k ++ (own :: es.drop k)).map fun e => e.1.1 := by
          rw [List.map_append, List.map_cons, List.map_take, List.map_drop, o1]
          rfl
        rw [eu] at h
        unfold f28.j1
        refine Wi.add hI (hJ _ _ hxN ⟨v42, es.take k ++ (own :: es.drop k), tbl ++ [(v14, own.1.2)], rfl, h, fun e he => ?_, hinc.ins (by omega) hgr hlt, by simp; omega, fun z => ?_⟩)
        · rcases List.mem_append.1 he with g | g
          · exact List.mem_append_left _ (ht e (List.mem_of_mem_take g))
          · rcases List.mem_cons.1 g with g | g
            · rw [g]
              refine List.mem_append_right _ (List.mem_singleton.2 ?_)
              rw [← o1]
            · exact List.mem_append_left _ (ht e (List.mem_of_mem_drop g))
        · rw [em]
          constructor
          · rintro ⟨e, he, rfl⟩
            rcases List.mem_append.1 he with g | g
            · obtain ⟨s, hs, e1⟩ := (hmem _).1 ⟨e, List.mem_of_mem_take g, rfl⟩
              exact ⟨s, List.mem_append_left _ hs, e1⟩
            · rcases List.mem_cons.1 g with g | g
              · exact ⟨x, List.mem_append_right _ (List.mem_singleton.2 rfl), by rw [g]; exact o2⟩
              · obtain ⟨s, hs, e1⟩ := (hmem _).1 ⟨e, List.mem_of_mem_drop g, rfl⟩
                exact ⟨s, List.mem_append_left _ hs, e1⟩
          · rintro ⟨s, hs, rfl⟩
            rcases List.mem_append.1 hs with g | g
            · obtain ⟨e, he, e1⟩ := (hmem _).2 ⟨s, g, rfl⟩
              refine ⟨e, ?_, e1⟩
              rw [← List.take_append_drop k es] at he
              rcases List.mem_append.1 he with q | q
              · exact List.mem_append_left _ q
              · exact List.mem_append_right _ (List.mem_cons_of_mem _ q)
            · rw [List.mem_singleton] at g
              exact ⟨own, List.mem_append_right _ List.mem_cons_self, by rw [g]; exact o2.symm⟩
      -- whether it is there
      have there : ∀ H, Ab.Loc H0 (.data RFS [v14] own.1.2 :: .grow Rd.raw 38 out (es.map fun e => e.1.1) :: .view (Rd.bag RFS) [] tbl :: [.box b [u1, u2], .lent RProblem [u1, u2] p, .lent RS [u2] p.2]) H → (hk : 0 < k) → es[k - 1].1.2 = own.1.2 → f28.j1 Q (.int .i64 (x : Nat)) J out H := fun H h hk he => by
        unfold f28.j1
        refine Wi.add hI (hJ _ _ hxN ⟨out, es, tbl, rfl, h.tl, ht, hinc, by omega, fun z => ?_⟩)
        rw [em, hmem]
        constructor
        · rintro ⟨s, hs, e1⟩
          exact ⟨s, List.mem_append_left _ hs, e1⟩
        · rintro ⟨s, hs, e1⟩
          rcases List.mem_append.1 hs with g | g
          · exact ⟨s, g, e1⟩
          · rw [List.mem_singleton] at g
            exact (hmem z).1 ⟨es[k - 1], List.getElem_mem _, by rw [e1, g, he, o2]⟩
      refine Wi.gtrC (fun hk => ?_) fun hk => ?_
      rotate_left
      · simp only [gw]
        refine Wi.gtrC (fun g => absurd g hk) fun _ => ?_
        simp only [gw]
        exact place _ h fun g => by omega
      have hk : 0 < k := by omega
      have hk1 : k - 1 < es.length := by omega
      simp only [gw]
      refine Wi.sub (by unfold I64; omega) ?_
      rw [show (k : Int) - 1 = ((k - 1 : Nat) : Int) by omega]
      refine get (k - 1) hk1 h fun hz => Wi.call (fnQ58 hol es[k - 1].2 (h.rd (cs := [v14]) (r := RFS) (x := own.1.2)) hz fun H l => ?_)
      have h := h.to l
      by_cases c1 : cmpL own.1.2 es[k - 1].1.2 < 0
      · rw [decide_eq_true c1]
        simp only [gw]
        refine Wi.sub (by unfold I64; omega) ?_
        rw [show (k : Int) - 1 = ((k - 1 : Nat) : Int) by omega]
        refine hJ2 _ _ (by omega) ⟨k - 1, rfl, by omega, fun i hi hki => ?_, h⟩
        by_cases e : i = k - 1
        · subst e; exact decide_eq_true c1
        · exact hgr i hi (by omega)
      · rw [decide_eq_false c1]
        simp only [gw]
        refine Wi.gtrC (fun _ => ?_) fun g => absurd (by omega) g
        simp only [gw]
        refine Wi.sub (by unfold I64; omega) ?_
        rw [show (k : Int) - 1 = ((k - 1 : Nat) : Int) by omega]
        refine get (k - 1) hk1 h fun hz => Wi.call (fnQ58 es[k - 1].2 hol hz (h.rd (cs := [v14]) (r := RFS) (x := own.1.2)) fun H l => ?_)
        have h := h.to l
        by_cases c2 : cmpL es[k - 1].1.2 own.1.2 < 0
        · rw [decide_eq_true c2]
          simp only [gw]
          exact place _ h fun _ => decide_eq_true c2
        · rw [decide_eq_false c2]
          simp only [gw]
          have hn := cmpL_neg (A := es[k - 1].1.2) (B := own.1.2) (by rw [es[k - 1].2.1, hol.1])
          exact there _ h hk (cmpL_eq es[k - 1].2 hol (by omega))
  · have hxN : x = N := by omega
    subst hxN
    refine hQ H out (es.map fun e => e.1.2) h.le ((h.rd (cs := []) (r := Rd.bag RFS) (x := tbl)).rowsB rfl (h.rd (cs := [out]) (r := Rd.slice Rd.raw)) (by simp) fun i hi => ?_) ⟨?_, fun z => ?_⟩
    · simp only [List.getElem_map]
      exact ht _ (List.getElem_mem _)
    · rw [IncL, List.pairwise_map]
      exact hinc.imp fun h => of_decide_eq_true h
    · rw [List.mem_map]
      have := hmem z
      rw [hN] at this
      constructor
      · rintro ⟨e, he, rfl⟩
        exact this.1 ⟨e, he, rfl⟩
      · intro q
        obtain ⟨e, he, e1⟩ := this.2 q
        exact ⟨e, he, e1.symm⟩

theorem fnQ9 {H0 : Heap} {Q : Post} {cs : List Value} {p : Prob} (hr : Has RProblem H0 cs p) (h1 : isProb p = false → ∀ H', H0.Le H' → Q (.tuple #[.slice none 0 0, .int .i64 1]) H')
    (h2 : isProb p = true → ∀ H' w ys, H0.Le H' → Has (Rd.slice RFS) H' [w] ys → SolsOf p.2.length p ys → Q (.tuple #[w, .int .i64 0]) H') : Runs Tryz.prog 9 #[.agg cs.toArray] H0 Q := by
  have hlen := hr.len
  have h := (Loc.start H0).lent hr
  refine f9.enter ?_
  unfold f9.w
  refine Wl.box h fun H b h => Wl.getA (b := b) h hlen ?_
  obtain ⟨_, q⟩ := h.rd (cs := cs) (r := RProblem)
  refine Wi.call (fn27 q fun H l => ?_)
  have h := h.to l
  cases hp : isProb p with
  | false =>
    simp only [gw]
    exact h1 hp _ h.le
  | true =>
  have hpb := PB.of hp
  simp only [gw]
  refine Wl.getA (b := b) h hlen (Wi.call (fnQ28 (h.rd (cs := cs)) hp fun H w ys l hw hys => ?_))
  have hle := h.le.trans l
  have hsm := hw.small
  refine W.for_rule ys.length (fun i st H' => st = (.int .i64 (i : Nat), ()) ∧ H' = H) ⟨rfl, rfl⟩ ?_
  rintro i st H' J hi ⟨rfl, rfl⟩ hJ
  unfold f9.l1
  refine Wl.lenH hw (Wi.lssC (fun hlt => Wi.tru ?_) fun hge => Wi.fls (h2 hp _ w ys hle hw hys))
  have hiy : i < ys.length := by omega
  refine Wl.at1H rfl hw (i := i) hiy fun u hu => Wi.call (fn29 (hys.low hpb _ (List.getElem_mem hiy)).2 hu ?_)
  simp only [gw]
  exact Wi.neqC (fun g => absurd rfl g) fun _ => Wi.fls (Wi.add (by unfold I64; omega) (hJ _ _ hiy ⟨rfl, rfl⟩))

end Go.Proofs.YtdmgomeogedjgaaGreat
