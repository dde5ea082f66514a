/- The contract of the program's CoverNumbers. No condition. -/
import Derived.Test.YthfcodelpebjcaaGreatCN0
import Derived.Test.YthfcodelpebjcaaGreatTU
import Derived.Test.YthfcodelpebjcaaGreatRP
namespace Go.Proofs.YthfcodelpebjcaaGreat
open Go.Ab

/- loop.example/g01343/impl.CoverNumbers -/
def f17.j1 (Q : Post) (x_38 : Value) (I2 : St [9, 38] → Heap → Prop) (parts_9' : Value) (H : Heap) : Prop :=
  W.bin .add x_38 (.int .i64 1) H fun v23 H =>
  I2 (parts_9', v23, ()) H
def f17.j2 (Q : Post) (x_34 : Value) (I1 : St [7, 34] → Heap → Prop) (inverses_7' : Value) (H : Heap) : Prop :=
  W.bin .add x_34 (.int .i64 1) H fun v29 H =>
  I1 (inverses_7', v29, ()) H
def f17.l2 (Q : Post) (v9 : Value) (v1 : Value) (x_34 : Value) (inverses_7 : Value) (I1 : St [7, 34] → Heap → Prop) (I2 : St [9, 38] → Heap → Prop) (parts_9 : Value) (x_38 : Value) (H : Heap) : Prop :=
  W.bin .lss x_38 v9 H fun v13 H =>
  W.cond v13 H
  (fun H => W.make [(.int .i64 0)] 2 v9 v9 H fun v14 H =>
   W.indexAddr 1 v14 x_38 H fun v15 H =>
   W.put v15 (.int .i64 1) H fun _ H =>
   W.getN 2 v1 H fun v16 H =>
   W.call Tryz.prog (.func (.func 59) #[] #[]) #[v16, x_34, v14] H fun v17 H =>
   W.extract 0 v17 H fun v18 H =>
   W.extract 1 v17 H fun v19 H =>
   W.extract 2 v17 H fun v20 H =>
   W.cond v20 H
   (fun H => W.lit 1 [(.slice none 0 0)] 25 [(0, 1, v18)] H fun v21 H =>
    W.append 1 25 parts_9 v21 H fun v22 H =>
    f17.j1 Q x_38 I2 v22 H)
   (fun H => f17.j1 Q x_38 I2 parts_9 H))
  (fun H => W.len parts_9 H fun v24 H =>
   W.bin .eql v24 v9 H fun v25 H =>
   W.cond v25 H
   (fun H => W.call Tryz.prog (.func (.func 60) #[] #[]) #[parts_9] H fun v26 H =>
    W.lit 1 [(.slice none 0 0)] 24 [(0, 1, v26)] H fun v27 H =>
    W.append 1 24 inverses_7 v27 H fun v28 H =>
    f17.j2 Q x_34 I1 v28 H)
   (fun H => f17.j2 Q x_34 I1 inverses_7 H))
def f17.j3 (Q : Post) (x_81 : Value) (I4 : St [17, 81] → Heap → Prop) (covers_17' : Value) (H : Heap) : Prop :=
  W.bin .add x_81 (.int .i64 1) H fun v44 H =>
  I4 (covers_17', v44, ()) H
def f17.l6 (Q : Post) (I6 : St [15] → Heap → Prop) (out_15 : Value) (H : Heap) : Prop :=
  W.len out_15 H fun v62 H =>
  W.bin .sub v62 (.int .i64 1) H fun v63 H =>
  W.indexAddr 1 out_15 v63 H fun v64 H =>
  W.get v64 H fun v65 H =>
  W.bin .eql v65 (.int .i64 0) H fun v66 H =>
  W.cond v66 H
  (fun H => W.len out_15 H fun v67 H =>
   W.bin .sub v67 (.int .i64 1) H fun v68 H =>
   W.slice 1 out_15 none (some v68) H fun v69 H =>
   I6 (v69, ()) H)
  (fun H => Q (.tuple #[out_15, (.int .i64 0)]) H)
def f17.l5 (Q : Post) (v9 : Value) (v36 : Value) (k_1 : Value) (v32 : Value) (I3 : St [] → Heap → Prop) (I5 : St [20] → Heap → Prop) (i_20 : Value) (H : Heap) : Prop :=
  W.bin .lss i_20 v9 H fun v49 H =>
  W.guarded v49 true (fun H k => W.get v36 H k) H fun v50 H =>
  W.guarded v49 true (fun H k => k i_20 H) H fun v51 H =>
  W.guarded v49 true (fun H k => W.indexAddr 1 v50 v51 H k) H fun v52 H =>
  W.guarded v49 true (fun H k => W.get v52 H k) H fun v53 H =>
  W.guarded v49 true (fun H k => k k_1 H) H fun v54 H =>
  W.guarded v49 true (fun H k => W.bin .eql v53 v54 H k) H fun v55 H =>
  W.pick v49 v55 (.bool false) H fun v56 H =>
  W.cond v56 H
  (fun H => W.get v36 H fun v57 H =>
   W.un .neg k_1 H fun v58 H =>
   W.indexAddr 1 v57 i_20 H fun v59 H =>
   W.put v59 v58 H fun _ H =>
   W.bin .add i_20 (.int .i64 1) H fun v60 H =>
   I5 (v60, ()) H)
  (fun H => W.bin .eql i_20 v9 H fun v61 H =>
   W.cond v61 H
   (fun H => W.loop (S := St [15]) (fun I6 s H => f17.l6 Q I6 s.1 H) (v32, ()) H)
   (fun H => W.get v36 H fun v70 H =>
    W.indexAddr 1 v70 i_20 H fun v71 H =>
    W.get v71 H fun v72 H =>
    W.bin .add v72 (.int .i64 1) H fun v73 H =>
    W.indexAddr 1 v70 i_20 H fun v74 H =>
    W.put v74 v73 H fun _ H =>
    I3 () H))
def f17.l4 (Q : Post) (v37 : Value) (inverses_7 : Value) (v36 : Value) (v32 : Value) (v9 : Value) (k_1 : Value) (I3 : St [] → Heap → Prop) (I4 : St [17, 81] → Heap → Prop) (covers_17 : Value) (x_81 : Value) (H : Heap) : Prop :=
  W.bin .lss x_81 v37 H fun v38 H =>
  W.cond v38 H
  (fun H => W.indexAddr 1 inverses_7 x_81 H fun v39 H =>
   W.get v39 H fun v40 H =>
   W.call Tryz.prog (.func (.func 62) #[] #[]) #[v40, (.func (.func 63) #[] #[v36])] H fun v41 H =>
   W.un .not v41 H fun v42 H =>
   W.cond v42 H
   (fun H => W.bin .add covers_17 (.int .i64 1) H fun v43 H =>
    f17.j3 Q x_81 I4 v43 H)
   (fun H => f17.j3 Q x_81 I4 covers_17 H))
  (fun H => W.indexAddr 1 v32 covers_17 H fun v45 H =>
   W.get v45 H fun v46 H =>
   W.bin .add v46 (.int .i64 1) H fun v47 H =>
   W.indexAddr 1 v32 covers_17 H fun v48 H =>
   W.put v48 v47 H fun _ H =>
   W.loop (S := St [20]) (fun I5 s H => f17.l5 Q v9 v36 k_1 v32 I3 I5 s.1 H) ((.int .i64 0), ()) H)
def f17.l3 (Q : Post) (inverses_7 : Value) (v36 : Value) (v32 : Value) (v9 : Value) (k_1 : Value) (I3 : St [] → Heap → Prop) (H : Heap) : Prop :=
  W.len inverses_7 H fun v37 H =>
  W.loop (S := St [17, 81]) (fun I4 s H => f17.l4 Q v37 inverses_7 v36 v32 v9 k_1 I3 I4 s.1 s.2.1 H) ((.int .i64 0), (.int .i64 0), ()) H
def f17.l1 (Q : Post) (v11 : Value) (v9 : Value) (v1 : Value) (k_1 : Value) (I1 : St [7, 34] → Heap → Prop) (inverses_7 : Value) (x_34 : Value) (H : Heap) : Prop :=
  W.bin .lss x_34 v11 H fun v12 H =>
  W.cond v12 H
  (fun H => W.loop (S := St [9, 38]) (fun I2 s H => f17.l2 Q v9 v1 x_34 inverses_7 I1 I2 s.1 s.2.1 H) ((.slice none 0 0), (.int .i64 0), ()) H)
  (fun H => W.len inverses_7 H fun v30 H =>
   W.bin .add v30 (.int .i64 1) H fun v31 H =>
   W.make [(.int .i64 0)] 2 v31 v31 H fun v32 H =>
   W.un .neg k_1 H fun v33 H =>
   W.lit 1 [(.int .i64 0)] 2 [(0, 1, v33)] H fun v34 H =>
   W.call Tryz.prog (.func (.func 61) #[] #[]) #[v34, v9] H fun v35 H =>
   W.new [(.slice none 0 0)] 25 H fun v36 H =>
   W.put v36 v35 H fun _ H =>
   W.loop (S := St []) (fun I3 s H => f17.l3 Q inverses_7 v36 v32 v9 k_1 I3 H) () H)
def f17.w (Q : Post) (p_0 : Value) (k_1 : Value) (H : Heap) : Prop :=
  W.box p_0 27 H fun v1 H =>
  W.getN 2 v1 H fun v2 H =>
  W.call Tryz.prog (.func (.func 56) #[] #[]) #[v2] H fun v3 H =>
  W.un .not v3 H fun v4 H =>
  W.cond v4 H
  (fun H => Q (.tuple #[(.slice none 0 0), (.int .i64 1)]) H)
  (fun H => W.call Tryz.prog (.func (.func 57) #[] #[]) #[k_1, (.int .i64 1), (.int .i64 2)] H fun v5 H =>
   W.un .not v5 H fun v6 H =>
   W.cond v6 H
   (fun H => Q (.tuple #[(.slice none 0 0), (.int .i64 2)]) H)
   (fun H => W.fieldAddr 1 v1 H fun v7 H =>
    W.get v7 H fun v8 H =>
    W.len v8 H fun v9 H =>
    W.getN 2 v1 H fun v10 H =>
    W.call Tryz.prog (.func (.func 58) #[] #[]) #[v10] H fun v11 H =>
    W.loop (S := St [7, 34]) (fun I1 s H => f17.l1 Q v11 v9 v1 k_1 I1 s.1 s.2.1 H) ((.slice none 0 0), (.int .i64 0), ()) H))
theorem f17.enter {Q : Post} {p_0 : Value} {k_1 : Value} {H : Heap} (h : f17.w Q p_0 k_1 H) : Runs Tryz.prog 17 #[p_0, k_1] H Q :=
  fn_enter (ann := [(8, [7, 34]), (12, [9, 38]), (25, []), (27, [17, 81]), (34, [20]), (39, [15])]) (by kernel_rfl) Tryz.func17 rfl (by kernel_rfl) h (by kernel_rfl)

/- loop.example/g01343/impl.CoverNumbers$1 -/
def f63.w (Q : Post) (row_0 : Value) (x_1 : Value) (H : Heap) : Prop :=
  W.get x_1 H fun v1 H =>
  W.call Tryz.prog (.func (.func 64) #[] #[]) #[row_0, v1] H fun v2 H =>
  W.bin .lss v2 (.int .i64 0) H fun v3 H =>
  Q v3 H
theorem f63.enter {Q : Post} {row_0 : Value} {x_1 : Value} {H : Heap} (h : f63.w Q row_0 x_1 H) : Runs Tryz.prog 63 #[row_0, x_1] H Q :=
  fn_enter (ann := []) (by kernel_rfl) Tryz.func63 rfl (by kernel_rfl) h (by kernel_rfl)


/-- A loop that goes down by a number that the invariant tells. -/
theorem loop_ind {S : Type} {F : (S → Heap → Prop) → S → Heap → Prop} (Inv : Nat → S → Heap → Prop) {d : Nat} {s : S} {H : Heap} (h0 : Inv d s H) (step : ∀ d s H, Inv d s H → F (fun s' H' => ∃ d', d' < d ∧ Inv d' s' H') s H) : W.loop F s H := by
  intro I hI
  have key : ∀ n s H, Inv n s H → I s H := by
    intro n
    induction n using Nat.strongRecOn with
    | _ n ih => exact fun s H hi => hI _ s H (fun s' H' ⟨d', h1, h2⟩ => ih d' h1 s' H' h2) (step n s H hi)
  exact key _ s H h0

/-- A reading of things of a kind alone. -/
def only {α : Type} (r : Rd α) (p : α → Prop) : Rd α where
  n := r.n
  rel := fun H bs cs x => r.rel H bs cs x ∧ p x
  len := fun h => r.len h.1
  cell := fun h => r.cell h.1
  low := fun h => r.low h.1
  frame := fun h hn hb => ⟨r.frame h.1 hn hb, h.2⟩

theorem slice_only {α : Type} {r : Rd α} {p : α → Prop} {H : Heap} {bs : List Nat} {cs : List Value} {xs : List α} (h : (Rd.slice r).rel H bs cs xs) (hp : ∀ x ∈ xs, p x) : (Rd.slice (only r p)).rel H bs cs xs := by
  rcases h with h | ⟨b, o, e, kb, fs, h1, h2, s⟩
  · exact .inl h
  · exact .inr ⟨b, o, e, kb, fs, h1, h2, s.lt, s.blk, s.cap, s.small, s.room, fun i hi => ⟨s.each i hi, hp _ (List.getElem_mem hi)⟩⟩

theorem indexO {p : List Int → Prop} : IndexF Tryz.prog 97 (only RS p) := IndexF.of rfl (n := 8) fun _ _ _ _ h => f97.enter h
theorem containsO {p : List Int → Prop} : ContainsF Tryz.prog 62 (only RS p) := ContainsF.of indexO fun _ _ _ _ h => f62.enter h

/-- What one holds is cut to its first k elements. -/
theorem cutD {H0 H : Heap} {L : List (Atom H0.next)} {K : Post} {α : Type} {r : Rd α} {m : Nat} {v : Value} {xs : List α} {i k : Nat} {κ : IntKind} (h : Ab.Loc H0 L H) (hi : L[i]? = some (.data (Rd.slice r) [v] xs)) (h0 : 0 < k) (hk : k ≤ xs.length)
    (kk : ∀ w, Ab.Loc H0 (L.set i (.data (Rd.slice r) [w] (xs.take k))) H → K w H) : W.slice m v none (some (.int κ k)) H K := by
  obtain ⟨bs, p, _⟩ := h.mem (List.mem_of_getElem? hi)
  have hv : ∃ b o e, v = .slice (some (adr b o)) xs.length e ∧ 2 * xs.length ≤ e := by
    rcases p.1 with ⟨rfl, _⟩ | ⟨b, o, e, kb, fs, _, h2, s⟩
    · simp at hk; omega
    · simp only [List.cons.injEq, and_true] at h2
      exact ⟨b, o, e, h2, s.cap⟩
  obtain ⟨b, o, e, rfl, hcap⟩ := hv
  have hl : (xs.take k).length = k := by simp; omega
  have h2 := h.as hi (a' := .data (Rd.slice r) [.slice (some (adr b o)) k e] (xs.take k)) fun bs p => by
    obtain ⟨p1, p2, p3⟩ := p
    rcases p1 with ⟨rfl, _⟩ | ⟨b', o', e', kb, fs, rfl, h2, s⟩
    · simp at hk; omega
    · simp only [List.cons.injEq, and_true, Value.slice.injEq, Option.some.injEq] at h2
      obtain ⟨ha, _, rfl⟩ := h2
      have hb : b = b' := congrArg Addr.block ha
      have ho : o = o' := congrArg Addr.off ha
      subst hb ho
      have hsub : ∀ c ∈ (List.range k).flatMap fs, c ∈ (List.range xs.length).flatMap fs := fun c hc => by
        obtain ⟨j, hj, hc⟩ := List.mem_flatMap.1 hc
        exact List.mem_flatMap.2 ⟨j, by simp at hj ⊢; omega, hc⟩
      have hsub2 : ∀ c ∈ b :: (List.range (xs.take k).length).flatMap fs, c ∈ b :: (List.range xs.length).flatMap fs := fun c hc => by
        rw [hl] at hc
        rcases List.mem_cons.1 hc with rfl | hc
        · simp
        · exact List.mem_cons_of_mem _ (hsub c hc)
      refine ⟨b :: (List.range (xs.take k).length).flatMap fs, ⟨.inr ⟨b, o, e, kb, fs, rfl, by rw [hl], s.lt, s.blk, by omega, by have := s.small; omega, ?_, fun i hi => ?_⟩, ?_, fun c hc => p3 c (hsub2 c hc)⟩, hsub2⟩
      · have := s.room
        have := Nat.mul_le_mul_right r.n hk
        rw [hl]
        omega
      · have hi' : i < xs.length := by omega
        have := s.each i hi'
        rw [List.getElem_take]
        exact this
      · rw [hl]
        have e1 : List.range xs.length = List.range k ++ (List.range (xs.length - k)).map (k + ·) := by
          rw [← List.range_add]
          congr 1
          omega
        rw [e1, List.flatMap_append, ← List.cons_append] at p2
        exact (List.nodup_append.1 p2).1
  unfold W.slice
  refine ⟨by omega, by omega, by omega, ?_⟩
  simp only [Int.toNat_zero, Int.toNat_natCast]
  rw [if_neg (by omega), if_pos trivial]
  exact kk _ h2

theorem unit_set {n i : Nat} : (List.replicate n (0 : Int)).set i 1 = unitL n i := by
  apply List.ext_getElem
  · simp [unitL]
  · intro j h1 h2
    rw [List.getElem_set]
    simp only [unitL, List.getElem_replicate, List.getElem_map, List.getElem_range]
    by_cases e : i = j
    · rw [if_pos e, if_pos e.symm]
    · rw [if_neg e, if_neg fun g => e g.symm]

theorem unit_abs (n i : Nat) : ∀ e ∈ unitL n i, e.natAbs ≤ 100 := fun e he => by
  obtain ⟨j, _, rfl⟩ := List.mem_map.1 he
  split <;> decide

theorem turn_inv {n : Nat} {cols : List (List Int)} : turnM ((List.range n).map fun i => pointL n cols (unitL n i)) n = invL n cols := by
  unfold turnM invL
  simp only [List.map_map]
  rfl

theorem inv_abs {n : Nat} {m : List (List Int)} {s : Nat} (hn : n ≤ 5) (hm : ∀ r c, (mAt m r c).natAbs ≤ 20) : ∀ row ∈ invL n (colL n m s), row.length = n ∧ ∀ e ∈ row, e.natAbs ≤ 1920000000 := fun row hr => by
  obtain ⟨j, hj, rfl⟩ := List.mem_map.1 hr
  refine ⟨by simp, fun e he => ?_⟩
  obtain ⟨i, hi, rfl⟩ := List.mem_map.1 he
  have hj : j < n := by simpa using hj
  rw [pointL_getD hj, atD (by rw [solveL_len]; exact hj)]
  have h1 := solve_leib s hn hm (unit_abs n i) _ (List.getElem_mem (show j < (solveL n (colL n m s) (unitL n i)).length by rw [solveL_len]; exact hj))
  have h2 := mulA (sgI_abs (det n (mAt (colL n m s)))) h1
  omega

theorem invTo_abs {n : Nat} {m : List (List Int)} (hn : n ≤ 5) (hm : ∀ r c, (mAt m r c).natAbs ≤ 20) (x : Nat) : ∀ rows ∈ invTo n m x, ∀ row ∈ rows, row.length = n ∧ ∀ e ∈ row, e.natAbs ≤ 1920000000 := fun rows hr => by
  obtain ⟨s, _, rfl⟩ := List.mem_map.1 hr
  exact inv_abs hn hm

/-- The odometer's list: the first i numbers are the least ones. -/
def odoL (q : List Int) (k : Int) (i : Nat) : List Int := List.replicate i (-k) ++ q.drop i
theorem odoL_len {q : List Int} {k : Int} {i : Nat} (h : i ≤ q.length) : (odoL q k i).length = q.length := by simp [odoL]; omega
theorem odoL_zero (q : List Int) (k : Int) : odoL q k 0 = q := by simp [odoL]
theorem odoL_at {q : List Int} {k : Int} {i : Nat} (h : i < q.length) : (odoL q k i)[i]'(by rw [odoL_len (by omega)]; exact h) = q[i] := by
  simp [odoL]
theorem odoL_set {q : List Int} {k y : Int} {i : Nat} (h : i < q.length) : (odoL q k i).set i y = List.replicate i (-k) ++ y :: q.drop (i + 1) := by
  unfold odoL
  rw [List.set_append_right _ _ (by simp)]
  simp only [List.length_replicate, Nat.sub_self]
  rw [List.drop_eq_getElem_cons h]
  rfl
theorem odoL_next {q : List Int} {k : Int} {i : Nat} (h : i < q.length) : (odoL q k i).set i (-k) = odoL q k (i + 1) := by
  rw [odoL_set h]
  unfold odoL
  rw [List.replicate_succ', List.append_assoc]
  rfl

theorem fn17 {H0 : Heap} {Q : Post} {cs : List Value} {p : Prob} {k : Int} (hr : Has RProblem H0 cs p) (_ : I64 k) (_ : wProblem p ≤ 1048576)
    (hQ : ∀ H' u, Fresh RS H0 [u] (cnRes p k).1 H' → Q (.tuple #[u, .int .i64 (cnRes p k).2]) H') : Runs Tryz.prog 17 #[.agg cs.toArray, .int .i64 k] H0 Q := by
  obtain ⟨u1, u2, rfl, r1, r2⟩ := hasProb hr
  have hz : ∀ H c, H0.Le H → cnRes p k = ([], c) → Q (.tuple #[.slice none 0 0, .int .i64 c]) H := fun H c l e => by
    have := hQ H (.slice none 0 0) (by rw [e]; exact fresh_nil l)
    rw [e] at this
    exact this
  have h := ((Loc.start H0).lent r2).lent hr
  refine f17.enter (Wl.box h fun H b h => Wl.getA h rfl ?_)
  obtain ⟨_, q⟩ := h.rd (cs := [u1, u2])
  refine Wi.call (fn56 q fun H l => ?_)
  have h := h.to l
  cases hp : isProb p with
  | false =>
    simp only [gw]
    exact hz _ _ h.le (by unfold cnRes; rw [hp]; rfl)
  | true =>
  have hpb := PB.of hp
  have hn := hpb.n5
  have hn0 := hpb.n0
  have h32 := pow5 hn
  simp only [gw]
  refine Wi.call (fn57 ?_)
  cases hin : inR 1 2 k with
  | false =>
    simp only [gw]
    exact hz _ _ h.le (by unfold cnRes; rw [hp, hin]; rfl)
  | true =>
  have hk := inR_iff.1 hin
  simp only [gw]
  refine Wi.fieldAddr (Wl.get h rfl (Wl.len h (Wl.getA h rfl (Wi.call (f58.enter (Wl.box h fun H b2 h => Wi.fieldAddr (Wl.get h rfl (Wl.len h (Wi.shl1 (by omega) ?_)))))))))
  have h := h.tl
  obtain ⟨side, hside⟩ : ∃ side : Nat, (side : Int) = 2 * k + 1 := ⟨(2 * k + 1).toNat, by omega⟩
  have hse : (2 * k + 1).toNat = side := by omega
  have hres : cnRes p k = (cnL (cntC p.2.length p.1 side k) (side ^ p.2.length) (cnM (cntC p.2.length p.1 side k) (side ^ p.2.length)), 0) := by
    unfold cnRes
    rw [if_pos hp, if_pos hin, hse]
  have hfc : ∀ c, cntC p.2.length p.1 side k c = ((invTo p.2.length p.1 (2 ^ p.2.length)).filter (invB (vecL side k p.2.length c))).length := fun c => (inv_count (vecL_len _ _ _ _) _).symm
  have hm20 := hpb.m
  generalize hnn : p.2.length = n at *
  generalize hN : 2 ^ n = N at *
  refine W.for_rule N (fun x st H => ∃ o, st = (o, .int .i64 (x : Nat), ()) ∧ Ab.Loc H0 [.grow RSS 24 o (invTo n p.1 x), .box b [u1, u2], .lent RProblem [u1, u2] p, .lent RS [u2] p.2] H) ⟨_, rfl, h.nilG RSS 24⟩ ?_
  rintro x st H J hx ⟨o, rfl, h⟩ hJ
  refine Wi.lssC (fun hlt => Wi.tru ?_) fun hge => Wi.fls ?_
  · have hxN : x < N := by omega
    have hI : I64 ((x : Int) + 1) := by unfold I64; omega
    have hil := invTo_len n p.1 x
    refine W.for_rule n (fun i st H => ∃ pa, st = (pa, .int .i64 (i : Nat), ()) ∧ Ab.Loc H0 [.grow RS 25 pa (if det n (mAt (colL n p.1 x)) = 0 then [] else (List.range i).map fun i => pointL n (colL n p.1 x) (unitL n i)), .grow RSS 24 o (invTo n p.1 x), .box b [u1, u2], .lent RProblem [u1, u2] p, .lent RS [u2] p.2] H) ⟨_, rfl, by simpa using h.nilG RS 25⟩ ?_
    rintro i st H J2 hi ⟨pa, rfl, h⟩ hJ2
    refine Wi.lssC (fun hlt2 => Wi.tru ?_) fun hge2 => Wi.fls ?_
    · have hin' : i < n := by omega
      have hI2 : I64 ((i : Int) + 1) := by unfold I64; omega
      refine Wl.make (r := Rd.int) (z := 0) (m := n) (fun _ => ⟨rfl, rfl, by unfold I64; omega⟩) h (by omega) (by decide) fun H u h => Wl.setG h (by simpa using hin') (by unfold I64; omega) fun H h => ?_
      rw [unit_set] at h
      refine Wl.getA h rfl (Wi.call (fn59 (n := n) (h.rd (cs := [u1, u2])) hpb (by omega) (h.rd (cs := [u])) (by simp [unitL]) (unit_abs n i) (fun hz0 H l => ?_) fun hnz H w f => ?_))
      · have h := h.to l
        simp only [gw]
        unfold f17.j1
        refine Wi.add hI2 (hJ2 _ _ hin' ⟨pa, rfl, ?_⟩)
        rw [if_pos hz0] at h ⊢
        exact h.tl
      · have h := h.add f
        simp only [gw]
        rw [if_neg hnz] at h
        refine Wl.pushO rfl h (by decide) (h.rd (cs := [w])).one (by simp; omega) fun H pa' h => ?_
        unfold f17.j1
        refine Wi.add hI2 (hJ2 _ _ hin' ⟨pa', rfl, ?_⟩)
        rw [if_neg hnz, ← range_push (f := fun i => pointL n (colL n p.1 x) (unitL n i)) (k := i) rfl]
        exact h.tl.tl
    · have hie : i = n := by omega
      rw [hie] at h
      refine Wl.len h ?_
      by_cases hd : det n (mAt (colL n p.1 x)) = 0
      · rw [if_pos hd] at h ⊢
        refine Wi.eqlC (fun e => by simp at e; omega) fun _ => Wi.fls ?_
        unfold f17.j2
        refine Wi.add hI (hJ _ _ hxN ⟨o, rfl, ?_⟩)
        rw [invTo_out (by unfold detB; rw [decide_eq_false fun g => g hd])]
        exact h.tl
      · rw [if_neg hd] at h ⊢
        refine Wi.eqlC (fun e => Wi.tru ?_) fun g => by simp at g
        refine Wi.call (fn60 (n := n) (h.rd (cs := [pa])) (by simp; omega) (by simp; omega) (by omega) (fun r hr => by
          obtain ⟨j, _, rfl⟩ := List.mem_map.1 hr
          simp [pointL, solveL_len]) fun H t f => ?_)
        rw [turn_inv] at f
        have h := h.add f
        refine Wl.pushO rfl h (by decide) (h.rd (cs := [t])).one (by omega) fun H o' h => ?_
        unfold f17.j2
        refine Wi.add hI (hJ _ _ hxN ⟨o', rfl, ?_⟩)
        rw [invTo_in (by unfold detB; rw [decide_eq_true hd])]
        exact h.tl.tl
  have hxe : x = N := by omega
  rw [hxe] at h
  have hil := invTo_len n p.1 N
  have hia := invTo_abs hn hm20 N
  generalize hinv : invTo n p.1 N = inv at *
  generalize hf : cntC n p.1 side k = f at *
  have hfl : ∀ c, f c ≤ inv.length := fun c => by rw [hfc]; exact List.length_filter_le _ _
  have hML := cnM_le hfl
  refine Wl.len h (Wi.add (by unfold I64; omega) ?_)
  rw [show ((inv.length : Nat) : Int) + 1 = ((inv.length + 1 : Nat) : Int) by omega]
  refine Wl.make (r := Rd.int) (z := 0) (m := inv.length + 1) (fun _ => ⟨rfl, rfl, by unfold I64; omega⟩) h (by omega) (by decide) fun H out h => Wi.neg (by unfold I64; omega) ?_
  have eout : List.replicate (inv.length + 1) (0 : Int) = cnL f 0 (inv.length + 1) := by
    apply List.ext_getElem
    · simp [cnL]
    · intro j h1 h2
      rw [cnL_at h2]
      simp [cnH]
  rw [eout] at h
  refine Wi.lit (cells := [.int .i64 (-k)]) rfl fun H1 le1 n1' kk1 => ?_
  have h := h.to le1
  have hv : Has RS H1 [.slice (some (adr _ 0)) 1 (2 * 1)] [-k] := ⟨_, .inr ⟨_, 0, _, _, fun _ => [], rfl, rfl, ⟨by omega, kk1, by simp, by simp, by simp [Rd.int], fun i hi => by
    match i, hi with
    | 0, _ => exact ⟨rfl, rfl, show I64 (-k) by unfold I64; omega⟩⟩⟩⟩
  refine Wi.call (fn61 (n := n) hv (by omega) (by omega) fun H q f2 => ?_)
  have h := h.addG f2
  rw [← vecL_zero (side := side) (by omega) n] at h
  refine Wl.new h fun H b36 h => Wl.put h (h.rd (cs := [q])).cell1 (by simp) fun H h => ?_
  have hT : 0 < side ^ n := Nat.pow_pos (by omega)
  have hT5 : side ^ n ≤ 3125 := by
    have h1 : side ^ n ≤ 5 ^ n := Nat.pow_le_pow_left (by omega) n
    have h2 : 5 ^ n ≤ 5 ^ 5 := Nat.pow_le_pow_right (by decide) hn
    omega
  generalize hTT : side ^ n = T at *
  refine loop_ind (fun d _ H => ∃ t, t + 1 + d = T ∧ Ab.Loc H0 [.box b36 [q], .grow Rd.int 2 q (vecL side k n t), .grow Rd.int 2 out (cnL f t (inv.length + 1)), .grow RSS 24 o inv, .box b [u1, u2], .lent RProblem [u1, u2] p, .lent RS [u2] p.2] H) (d := T - 1) ⟨0, by omega, h⟩ ?_
  rintro d st H ⟨t, htd, h⟩
  have hvl := vecL_len side k n t
  have hva := vecL_abs hside hk n t
  refine Wl.len h ?_
  refine W.for_rule inv.length (fun x st H => st = (.int .i64 (((inv.take x).filter (invB (vecL side k n t))).length : Nat), .int .i64 (x : Nat), ()) ∧ Ab.Loc H0 [.box b36 [q], .grow Rd.int 2 q (vecL side k n t), .grow Rd.int 2 out (cnL f t (inv.length + 1)), .grow RSS 24 o inv, .box b [u1, u2], .lent RProblem [u1, u2] p, .lent RS [u2] p.2] H) ⟨by simp; rfl, h⟩ ?_
  rintro x st H J4 hx4 ⟨rfl, h⟩ hJ4
  refine Wi.lssC (fun hlt => Wi.tru ?_) fun hge => Wi.fls ?_
  · have hxi : x < inv.length := by omega
    have hI : I64 ((x : Int) + 1) := by unfold I64; omega
    have hrows := hia _ (List.getElem_mem hxi)
    have hcl := List.length_filter_le (invB (vecL side k n t)) (inv.take x)
    have hct : (inv.take x).length ≤ x := by simp; omega
    have est : (inv.take (x + 1)).filter (invB (vecL side k n t)) = (inv.take x).filter (invB (vecL side k n t)) ++ (if invB (vecL side k n t) inv[x] = true then [inv[x]] else []) := by
      rw [List.take_succ_eq_append_getElem hxi, List.filter_append]
      congr 1
      by_cases hb : invB (vecL side k n t) inv[x] = true
      · simp [hb]
      · simp [hb]
    refine Wl.at1 rfl h hxi fun u hu => ?_
    obtain ⟨_, qu⟩ := hu
    refine Wi.call (containsO (p := fun row => row.length = n ∧ ∀ e ∈ row, e.natAbs ≤ 1920000000) _ _ _ _ _ (fun row => decide (dot row (vecL side k n t) < 0)) _ (slice_only qu hrows) ?_ fun H2 l2 => ?_)
    · intro H' bs u x K l hx hK
      have h := h.to l
      have hb := Nat.mul_le_mul_right (1920000000 * 2) hn
      exact Wi.callV (f63.enter (Wl.get h rfl (Wi.call (fn64 ⟨_, hx.1⟩ (h.rd (cs := [q])) (by rw [hx.2.1, hvl]; omega) (A := 1920000000) (B := 2) hx.2.2 (fun e he => (hva e he).1) (by rw [hx.2.1]; omega) (Wi.lss (hK _ (.refl _)))))))
    · have h := h.to l2
      have hnb : invB (vecL side k n t) inv[x] = !(inv[x].any fun row => decide (dot row (vecL side k n t) < 0)) := rfl
      cases ha : inv[x].any fun row => decide (dot row (vecL side k n t) < 0) with
      | true =>
        rw [ha] at hnb
        refine Wi.not (Wi.fls ?_)
        unfold f17.j3
        refine Wi.add hI (hJ4 _ _ hxi ⟨?_, h⟩)
        rw [est, hnb]
        simp
        try rfl
      | false =>
        rw [ha] at hnb
        refine Wi.not (Wi.tru (Wi.add (by unfold I64; omega) ?_))
        unfold f17.j3
        refine Wi.add hI (hJ4 _ _ hxi ⟨?_, h⟩)
        rw [est, hnb]
        simp
        try rfl
  have hxe2 : x = inv.length := by omega
  rw [hxe2, List.take_length, ← hfc]
  have hft := hfl t
  have hcl : f t < (cnL f t (inv.length + 1)).length := by rw [cnL_len]; omega
  have hcb := cnH_le f t (f t)
  have hcp := cnH_nonneg f t (f t)
  refine Wl.atInt h hcl fun _ => ?_
  have hset := cnL_step hcl
  rw [cnL_at hcl] at hset ⊢
  refine Wi.add (by unfold I64; omega) (Wl.setG h hcl (by unfold I64; omega) fun H h => ?_)
  rw [hset] at h
  refine W.for_rule n (fun i st H => st = (.int .i64 (i : Nat), ()) ∧ Ab.Loc H0 [.box b36 [q], .grow Rd.int 2 q (odoL (vecL side k n t) k i), .grow Rd.int 2 out (cnL f (t + 1) (inv.length + 1)), .grow RSS 24 o inv, .box b [u1, u2], .lent RProblem [u1, u2] p, .lent RS [u2] p.2] H ∧ ∀ j (hj : j < n), j < i → (vecL side k n t)[j]'(by omega) = k) ⟨rfl, by rw [odoL_zero]; exact h, fun j _ hj => by omega⟩ ?_
  rintro i st H J5 hi5 ⟨rfl, h, hmax⟩ hJ5
  refine Wi.lssC (fun hlt => ?_) fun hge => ?_
  · have hin' : i < n := by omega
    have hiv : i < (vecL side k n t).length := by omega
    have hol : i < (odoL (vecL side k n t) k i).length := by rw [odoL_len (by omega)]; exact hiv
    have hvi := hva _ (List.getElem_mem hiv)
    simp only [gw]
    refine Wl.get h rfl (Wl.atInt h hol fun _ => ?_)
    rw [odoL_at hiv]
    refine Wi.eqlC (fun he => ?_) fun hne => ?_
    · simp only [gw]
      refine Wl.get h rfl (Wi.neg (by unfold I64; omega) (Wl.setG h hol (by unfold I64; omega) fun H h => Wi.add (by unfold I64; omega) (hJ5 _ _ hin' ⟨rfl, ?_, fun j hj hji => ?_⟩)))
      · rw [odoL_next hiv] at h
        exact h
      · by_cases e : j = i
        · subst e; exact he
        · exact hmax j hj (by omega)
    · simp only [gw]
      refine Wi.eqlC (fun g => by omega) fun _ => Wi.fls (Wl.get h rfl (Wl.atInt h hol fun _ => ?_))
      rw [odoL_at hiv]
      refine Wi.add (by unfold I64; omega) (Wl.setG h hol (by unfold I64; omega) fun H h => ?_)
      rw [odoL_set hiv, ← vecL_next hside hk.1 n t i hin' hmax hne] at h
      have hnl := vecL_notlast hside hk.1 n t ⟨_, List.getElem_mem hiv, hne⟩ (by rw [hTT]; omega)
      rw [hTT] at hnl
      exact ⟨d - 1, by omega, t + 1, by omega, h⟩
  · have hie : i = n := by omega
    simp only [gw]
    refine Wi.eqlC (fun _ => Wi.tru ?_) fun g => by omega
    have hlast := vecL_last hside hk.1 n t (by rw [hTT]; omega) fun e he => by
      obtain ⟨j, hj, rfl⟩ := List.mem_iff_getElem.1 he
      exact hmax j (by omega) (by omega)
    rw [hTT] at hlast
    rw [hlast] at h
    obtain ⟨m0, mtop⟩ := cnH_top (f := f) hT
    have hMT := hML T
    have h := h.asData (i := 2) rfl
    refine loop_ind (fun d st H => ∃ w, st = (w, ()) ∧ Ab.Loc H0 [.box b36 [q], .grow Rd.int 2 q (odoL (vecL side k n t) k i), .data RS [w] (cnL f T (cnM f T + d)), .grow RSS 24 o inv, .box b [u1, u2], .lent RProblem [u1, u2] p, .lent RS [u2] p.2] H) (d := inv.length + 1 - cnM f T) ⟨out, rfl, by rw [show cnM f T + (inv.length + 1 - cnM f T) = inv.length + 1 by omega]; exact h⟩ ?_
    rintro d6 st H ⟨w, rfl, h⟩
    have hwl := cnL_len f T (cnM f T + d6)
    have hws := (h.rd (cs := [w])).small
    refine Wl.len h ?_
    rw [hwl]
    rw [hwl] at hws
    refine Wi.sub (by unfold I64; omega) ?_
    have elast : ((cnM f T + d6 : Nat) : Int) - 1 = ((cnM f T + d6 - 1 : Nat) : Int) := by omega
    rw [elast]
    refine Wl.atInt h (i := cnM f T + d6 - 1) (by omega) fun _ => ?_
    rw [cnL_at]
    refine Wi.eqlC (fun hz0 => Wi.tru ?_) fun hnz => Wi.fls ?_
    · have hd0 : d6 ≠ 0 := fun e => by subst e; exact mtop hz0
      refine Wl.len h ?_
      rw [hwl]
      refine Wi.sub (by unfold I64; omega) ?_
      rw [elast]
      refine cutD (k := cnM f T + d6 - 1) (i := 2) h rfl (by omega) (by omega) fun w' h => ?_
      refine ⟨d6 - 1, by omega, w', rfl, ?_⟩
      have e2 : cnM f T + d6 = cnM f T + d6 - 1 + 1 := by omega
      have e3 : (cnL f T (cnM f T + d6)).take (cnM f T + d6 - 1) = cnL f T (cnM f T + (d6 - 1)) := by
        conv => lhs; rw [e2]
        rw [show cnM f T + d6 - 1 + 1 - 1 = cnM f T + d6 - 1 by omega, cnL_cut]
        congr 1
        omega
      rw [e3] at h
      exact h
    · have hd0 : d6 = 0 := Classical.byContradiction fun hd => hnz (cnH_zero (by omega))
      subst hd0
      have := hQ H w (by rw [hres]; exact h.ret (i := 2) rfl)
      rw [hres] at this
      exact this

end Go.Proofs.YthfcodelpebjcaaGreat
