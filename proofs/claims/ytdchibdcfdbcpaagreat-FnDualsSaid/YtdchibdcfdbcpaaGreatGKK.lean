/- The contract of turned. No condition. -/
import Derived.Test.YtdchibdcfdbcpaaGreatGEE
import Derived.Test.YtdchibdcfdbcpaaGreatZabG5
import Derived.Test.YtdchibdcfdbcpaaGreatGBB
import Derived.Test.YtdchibdcfdbcpaaGreatGMM
import Derived.Test.YtdchibdcfdbcpaaGreatGDD
import Derived.Test.YtdchibdcfdbcpaaGreatGRR
namespace Go.Proofs.YtdchibdcfdbcpaaGreat
open Go.Ab

/- loop.example/g01343/impl.turned -/
def f53.l2 (Q : Post) (v9 : Value) (v8 : Value) (v4 : Value) (x_15 : Value) (I1 : St [15] → Heap → Prop) (I2 : St [21] → Heap → Prop) (x_21 : Value) (H : Heap) : Prop :=
  W.bin .lss x_21 v9 H fun v10 H =>
  W.cond v10 H
  (fun H => W.indexAddr 1 v8 x_21 H fun v11 H =>
   W.get v11 H fun v12 H =>
   W.indexAddr 1 v4 x_21 H fun v13 H =>
   W.get v13 H fun v14 H =>
   W.lit 1 [(.int .i64 0)] 2 [(0, 1, v12)] H fun v15 H =>
   W.append 1 2 v14 v15 H fun v16 H =>
   W.indexAddr 1 v4 x_21 H fun v17 H =>
   W.put v17 v16 H fun _ H =>
   W.bin .add x_21 (.int .i64 1) H fun v18 H =>
   I2 (v18, ()) H)
  (fun H => W.bin .add x_15 (.int .i64 1) H fun v19 H =>
   I1 (v19, ()) H)
def f53.l1 (Q : Post) (v5 : Value) (m_0 : Value) (v4 : Value) (I1 : St [15] → Heap → Prop) (x_15 : Value) (H : Heap) : Prop :=
  W.bin .lss x_15 v5 H fun v6 H =>
  W.cond v6 H
  (fun H => W.indexAddr 1 m_0 x_15 H fun v7 H =>
   W.get v7 H fun v8 H =>
   W.len v8 H fun v9 H =>
   W.loop (S := St [21]) (fun I2 s H => f53.l2 Q v9 v8 v4 x_15 I1 I2 s.1 H) ((.int .i64 0), ()) H)
  (fun H => Q v4 H)
def f53.w (Q : Post) (m_0 : Value) (H : Heap) : Prop :=
  W.indexAddr 1 m_0 (.int .i64 0) H fun v1 H =>
  W.get v1 H fun v2 H =>
  W.len v2 H fun v3 H =>
  W.make [(.slice none 0 0)] 25 v3 v3 H fun v4 H =>
  W.len m_0 H fun v5 H =>
  W.loop (S := St [15]) (fun I1 s H => f53.l1 Q v5 m_0 v4 I1 s.1 H) ((.int .i64 0), ()) H
theorem f53.enter {Q : Post} {m_0 : Value} {H : Heap} (h : f53.w Q m_0 H) : Runs Tryz.prog 53 #[m_0] H Q :=
  fn_enter (ann := [(3, [15]), (6, [21])]) (by kernel_rfl) Tryz.func53 rfl (by kernel_rfl) h (by kernel_rfl)


theorem fn53 {H0 : Heap} {Q : Post} {v : Value} {m : List (List Int)} {n : Nat} (hr : Has RSS H0 [v] m) (h0 : 0 < m.length) (hl : m.length ≤ 1048576) (hn : n ≤ 1048576) (hm : ∀ r ∈ m, r.length = n) (hQ : ∀ H' u, Fresh RSS H0 [u] (turnM m n) H' → Q u H') :
    Runs Tryz.prog 53 #[v] H0 Q := by
  have h := (Loc.start H0).lent hr
  have hi64 : ∀ r ∈ m, ∀ x ∈ r, I64 x := fun r hrm x hx => by
    obtain ⟨i, hi, rfl⟩ := List.mem_iff_getElem.1 hrm
    obtain ⟨_, hr⟩ := hr
    obtain ⟨b, o, e, kb, fs, q1, _, s⟩ := Rd.slice_at hr hi
    obtain ⟨u, _, ru⟩ := s.one rfl hi
    exact Has.i64 ⟨_, ru⟩ x hx
  refine f53.enter (Wl.at1 (i := 0) rfl h h0 fun w hw => Wl.lenH hw ?_)
  rw [hm _ (List.getElem_mem h0)]
  have hgs : ∀ H, (Rd.gslice Rd.int 2).rel H [] [.slice none 0 0] [] := fun H => ⟨_, rfl, .inl ⟨rfl, rfl, rfl⟩⟩
  refine Wl.make (r := Rd.gslice Rd.int 2) hgs h (by omega) (by decide) fun H u h => Wl.len h ?_
  have h := h.asData (i := 0) rfl
  obtain ⟨us, _, h⟩ := h.heads (i := 0) rfl rfl
  -- column c behind i rows and j numbers of the next one
  have hst : ∀ (i j : Nat), ((List.range n).map fun c => (m.take (if c < j then i + 1 else i)).map fun r => r.getD c 0).length = n := fun i j => by simp
  refine W.for_rule m.length (fun i s H => ∃ us, s = (.int .i64 (i : Nat), ()) ∧ Ab.Loc H0 [.rows (Rd.gslice Rd.int 2) u us ((List.range n).map fun c => (m.take i).map fun r => r.getD c 0), .lent RSS [v] m] H) ⟨us, rfl, ?_⟩ ?_
  · have e : ((List.range n).map fun c => (m.take 0).map fun r => r.getD c 0) = List.replicate n [] := by
      apply List.ext_getElem <;> simp
    rw [e]
    exact h
  rintro i s H J hi ⟨us, rfl, h⟩ hJ
  refine Wi.lssC (fun hlt => Wi.tru ?_) fun hge => Wi.fls ?_
  · have hix : i < m.length := by omega
    have hrl := hm _ (List.getElem_mem hix)
    refine Wl.atL rfl h hix fun w h => Wl.len h ?_
    refine W.for_rule n (fun j s H => ∃ us, s = (.int .i64 (j : Nat), ()) ∧ Ab.Loc H0 [.lent RS [w] m[i], .rows (Rd.gslice Rd.int 2) u us ((List.range n).map fun c => (m.take (if c < j then i + 1 else i)).map fun r => r.getD c 0), .lent RSS [v] m] H) ⟨us, rfl, by simpa using h⟩ ?_
    rintro j s H J2 hj ⟨us, rfl, h⟩ hJ2
    refine Wi.lssC (fun hlt2 => Wi.tru ?_) fun hge2 => Wi.fls ?_
    · have hjn : j < n := by omega
      have hjr : j < m[i].length := by omega
      refine Wl.atInt h hjr fun hx64 => ?_
      have hcol : ((List.range n).map fun c => (m.take (if c < j then i + 1 else i)).map fun r => r.getD c 0)[j]'(by rw [hst]; exact hjn) = (m.take i).map fun r => r.getD j 0 := by simp
      refine Wl.rowPush (r := Rd.int) (y := m[i][j]) rfl rfl rfl (fun _ => ⟨rfl, rfl, hx64⟩) h (by rw [hst]; exact hjn) (by rw [hcol]; simp; omega) fun H us' h => Wi.add (by unfold I64; omega) (hJ2 _ _ hjn ⟨us', rfl, ?_⟩)
      rw [hcol] at h
      have e : (((List.range n).map fun c => (m.take (if c < j then i + 1 else i)).map fun r => r.getD c 0).set j (((m.take i).map fun r => r.getD j 0) ++ [m[i][j]])) = (List.range n).map fun c => (m.take (if c < j + 1 then i + 1 else i)).map fun r => r.getD c 0 := by
        apply List.ext_getElem
        · simp
        · intro c h1 h2
          have hc : c < n := by simpa using h2
          rw [List.getElem_set]
          simp only [List.getElem_map, List.getElem_range]
          by_cases hjc : j = c
          · subst hjc
            rw [if_pos rfl, if_pos (by omega), List.take_succ_eq_append_getElem hix, List.map_append]
            simp [List.getD_eq_getElem?_getD, List.getElem?_eq_getElem hjr]
          · rw [if_neg hjc]
            by_cases hcj : c < j
            · rw [if_pos hcj, if_pos (by omega)]
            · rw [if_neg hcj, if_neg (by omega)]
      rw [e] at h
      exact h
    · have : j = n := by omega
      subst this
      refine Wi.add (by unfold I64; omega) (hJ _ _ hix ⟨us, rfl, ?_⟩)
      have e : ((List.range j).map fun c => (m.take (if c < j then i + 1 else i)).map fun r => r.getD c 0) = (List.range j).map fun c => (m.take (i + 1)).map fun r => r.getD c 0 := by
        apply List.map_congr_left
        intro c hc
        rw [if_pos (by simpa using hc)]
      rw [e] at h
      exact h.tl
  · have : i = m.length := by omega
    subst this
    rw [List.take_length] at h
    exact hQ _ _ ((h.ungrow (i := 0) rfl).ret (i := 0) rfl)

end Go.Proofs.YtdchibdcfdbcpaaGreat
/-! The contracts of negative and the program's DualProgram. No condition. -/
namespace Go.Proofs.YtdchibdcfdbcpaaGreat
open Go.Ab

/- loop.example/g01343/impl.DualProgram -/
def f7.l2 (Q : Post) (v45 : Value) (v44 : Value) (v27 : Value) (v2 : Value) (I2 : St [49] → Heap → Prop) (x_49 : Value) (H : Heap) : Prop :=
  W.bin .lss x_49 v45 H fun v46 H =>
  W.cond v46 H
  (fun H => W.indexAddr 1 v44 x_49 H fun v47 H =>
   W.get v47 H fun v48 H =>
   W.fieldAddr 2 v27 H fun v49 H =>
   W.get v49 H fun v50 H =>
   W.callQ Tryz.prog (.func (.func 52) #[] #[]) #[v48] H fun v51 H =>
   W.lit 1 [(.slice none 0 0)] 25 [(0, 1, v51)] H fun v52 H =>
   W.append 1 25 v50 v52 H fun v53 H =>
   W.fieldAddr 2 v27 H fun v54 H =>
   W.put v54 v53 H fun _ H =>
   W.bin .add x_49 (.int .i64 1) H fun v55 H =>
   I2 (v55, ()) H)
  (fun H => W.getN 4 v27 H fun v56 H =>
   W.putN 4 v2 v56 H fun _ H =>
   W.getN 4 v2 H fun v57 H => Q (.tuple #[v57, (.int .i64 0)]) H)
def f7.l1 (Q : Post) (v30 : Value) (v27 : Value) (v1 : Value) (v2 : Value) (I1 : St [33] → Heap → Prop) (x_33 : Value) (H : Heap) : Prop :=
  W.bin .lss x_33 v30 H fun v31 H =>
  W.cond v31 H
  (fun H => W.fieldAddr 0 v27 H fun v32 H =>
   W.get v32 H fun v33 H =>
   W.fieldAddr 3 v1 H fun v34 H =>
   W.get v34 H fun v35 H =>
   W.len v35 H fun v36 H =>
   W.make [(.int .i64 0)] 2 v36 v36 H fun v37 H =>
   W.lit 1 [(.slice none 0 0)] 25 [(0, 1, v37)] H fun v38 H =>
   W.append 1 25 v33 v38 H fun v39 H =>
   W.fieldAddr 0 v27 H fun v40 H =>
   W.put v40 v39 H fun _ H =>
   W.bin .add x_33 (.int .i64 1) H fun v41 H =>
   I1 (v41, ()) H)
  (fun H => W.fieldAddr 2 v1 H fun v42 H =>
   W.get v42 H fun v43 H =>
   W.call Tryz.prog (.func (.func 53) #[] #[]) #[v43] H fun v44 H =>
   W.len v44 H fun v45 H =>
   W.loop (S := St [49]) (fun I2 s H => f7.l2 Q v45 v44 v27 v2 I2 s.1 H) ((.int .i64 0), ()) H)
def f7.w (Q : Post) (p_0 : Value) (H : Heap) : Prop :=
  W.box p_0 27 H fun v1 H =>
  W.new [(.slice none 0 0), (.slice none 0 0), (.slice none 0 0), (.slice none 0 0)] 27 H fun v2 H =>
  W.getN 4 v1 H fun v3 H =>
  W.call Tryz.prog (.func (.func 28) #[] #[]) #[v3] H fun v4 H =>
  W.un .not v4 H fun v5 H =>
  W.cond v5 H
  (fun H => W.build [(.slice none 0 0), (.slice none 0 0), (.slice none 0 0), (.slice none 0 0)] [] H fun v6 H =>
   W.putN 4 v2 v6 H fun _ H =>
   W.getN 4 v2 H fun v7 H => Q (.tuple #[v7, (.int .i64 1)]) H)
  (fun H => W.fieldAddr 2 v1 H fun v8 H =>
   W.get v8 H fun v9 H =>
   W.len v9 H fun v10 H =>
   W.bin .eql v10 (.int .i64 0) H fun v11 H =>
   W.guarded v11 false (fun H k => W.fieldAddr 0 v1 H k) H fun v12 H =>
   W.guarded v11 false (fun H k => W.get v12 H k) H fun v13 H =>
   W.guarded v11 false (fun H k => k (.func (.func 51) #[] #[v1]) H) H fun v14 H =>
   W.guarded v11 false (fun H k => W.call Tryz.prog (.func (.func 50) #[] #[]) #[v13, v14] H k) H fun v15 H =>
   W.guarded v11 false (fun H k => W.un .not v15 H k) H fun v16 H =>
   W.pick v11 (.bool true) v16 H fun v17 H =>
   W.cond v17 H
   (fun H => W.build [(.slice none 0 0), (.slice none 0 0), (.slice none 0 0), (.slice none 0 0)] [] H fun v18 H =>
    W.putN 4 v2 v18 H fun _ H =>
    W.getN 4 v2 H fun v19 H => Q (.tuple #[v19, (.int .i64 5)]) H)
   (fun H => W.fieldAddr 3 v1 H fun v20 H =>
    W.get v20 H fun v21 H =>
    W.callQ Tryz.prog (.func (.func 52) #[] #[]) #[v21] H fun v22 H =>
    W.fieldAddr 1 v1 H fun v23 H =>
    W.get v23 H fun v24 H =>
    W.callQ Tryz.prog (.func (.func 52) #[] #[]) #[v24] H fun v25 H =>
    W.build [(.slice none 0 0), (.slice none 0 0), (.slice none 0 0), (.slice none 0 0)] [(1, 1, v22), (3, 1, v25)] H fun v26 H =>
    W.new [(.slice none 0 0), (.slice none 0 0), (.slice none 0 0), (.slice none 0 0)] 27 H fun v27 H =>
    W.putN 4 v27 v26 H fun _ H =>
    W.fieldAddr 3 v1 H fun v28 H =>
    W.get v28 H fun v29 H =>
    W.len v29 H fun v30 H =>
    W.loop (S := St [33]) (fun I1 s H => f7.l1 Q v30 v27 v1 v2 I1 s.1 H) ((.int .i64 0), ()) H))
theorem f7.enter {Q : Post} {p_0 : Value} {H : Heap} (h : f7.w Q p_0 H) : Runs Tryz.prog 7 #[p_0] H Q :=
  fn_enter (ann := [(7, [33]), (11, [49])]) (by kernel_rfl) Tryz.func7 rfl (by kernel_rfl) h (by kernel_rfl)

/- loop.example/g01343/impl.DualProgram$1 -/
def f51.w (Q : Post) (i_0 : Value) (k_1 : Value) (x_2 : Value) (H : Heap) : Prop :=
  W.fieldAddr 0 x_2 H fun v1 H =>
  W.get v1 H fun v2 H =>
  W.indexAddr 1 v2 i_0 H fun v3 H =>
  W.get v3 H fun v4 H =>
  W.indexAddr 1 v4 k_1 H fun v5 H =>
  W.get v5 H fun v6 H =>
  W.bin .eql v6 (.int .i64 0) H fun v7 H =>
  Q v7 H
theorem f51.enter {Q : Post} {i_0 : Value} {k_1 : Value} {x_2 : Value} {H : Heap} (h : f51.w Q i_0 k_1 x_2 H) : Runs Tryz.prog 51 #[i_0, k_1, x_2] H Q :=
  fn_enter (ann := []) (by kernel_rfl) Tryz.func51 rfl (by kernel_rfl) h (by kernel_rfl)



theorem zeroD_allN {m : List (List Int)} {n : Nat} (h : ∀ r ∈ m, r.length = n) (hm : m.length = n) : (allN m.length fun i => allN m.length fun k => decide ((m.getD i []).getD k 0 = 0)) = true ↔ zeroD m := by
  rw [allN_iff]
  constructor
  · intro g r hr x hx
    obtain ⟨i, hi, rfl⟩ := List.mem_iff_getElem.1 hr
    obtain ⟨k, hk, rfl⟩ := List.mem_iff_getElem.1 hx
    have := h _ (List.getElem_mem hi)
    have := allN_iff.1 (g i hi) k (by omega)
    simpa [List.getD_eq_getElem?_getD, List.getElem?_eq_getElem hi, List.getElem?_eq_getElem hk] using this
  · intro g i hi
    refine allN_iff.2 fun k hk => ?_
    have h1 := h _ (List.getElem_mem hi)
    have hk2 : k < m[i].length := by omega
    have := g _ (List.getElem_mem hi) _ (List.getElem_mem hk2)
    simpa [List.getD_eq_getElem?_getD, List.getElem?_eq_getElem hi, List.getElem?_eq_getElem hk2] using this

theorem fn7 {H0 : Heap} {Q : Post} {cs : List Value} {p : Prg} (hr : Has RPrg H0 cs p) (hw : wPrg p ≤ 1048576) (hQ : ∀ H' cs', Fresh RPrg H0 cs' (dpRes p).1 H' → Q (.tuple #[.agg cs'.toArray, .int .i64 (dpRes p).2]) H') :
    Runs Tryz.prog 7 #[.agg cs.toArray] H0 Q := by
  obtain ⟨u1, u2, u3, u4, rfl, r1, r2, r3, r4⟩ := hasPrg hr
  refine f7.enter ?_
  unfold f7.w
  have h := (((((Loc.start H0).lent r1).lent r2).lent r3).lent r4).lent hr
  refine Wl.box h fun H b h => Wl.new h fun H b2 h => Wl.getA h rfl (Wi.call (fn28 (h.rd (cs := [u1, u2, u3, u4])) hw fun H t l ht => ?_))
  have h := h.to l
  have hzero : ∀ H c, H0.Le H → (dpRes p) = (zPrg, c) → Q (.tuple #[.agg zCells4.toArray, .int .i64 c]) H := fun H c l e => by
    have := hQ H zCells4
    rw [e] at this
    exact this (fresh_nil4 l)
  cases t with
  | false =>
    have hp : ¬ IsPrg p := fun g => Bool.noConfusion (ht.2 g)
    simp only [g7, g10]
    exact Wi.build (cells := zCells4) rfl (Wl.putA h rfl rfl rfl fun H h => Wl.getA h rfl (hzero _ _ h.le (by simp only [dpRes, if_neg hp])))
  | true =>
  have hp := ht.1 rfl
  simp only [g8, g9]
  have n1 := hp.n1; have nm := hp.nm; have dl := hp.dl; have al := hp.al
  refine Wi.fieldAddr0 (Wl.get h rfl (Wl.len h (Wi.eqlC (fun h0 => ?_) fun h0 => ?_)))
  · simp only [g3, g5, g7]
    exact Wi.build (cells := zCells4) rfl (Wl.putA h rfl rfl rfl fun H h => Wl.getA h rfl (hzero _ _ h.le (by
      simp only [dpRes, if_pos hp]
      rw [if_neg]
      omega)))
  simp only [g4, g6]
  refine Wi.fieldAddr0 (Wl.get h rfl (Wi.call (fn50 (p := fun i k => decide ((p.1.getD i []).getD k 0 = 0)) (h.rd (cs := [u1])) ?_ fun H l => ?_)))
  · intro H3 i k K l3 hi hk hK
    have hk2 : k < p.1[i].length := by have := hp.d _ (List.getElem_mem hi); omega
    have h := h.to l3
    refine Wi.callV (f51.enter (Wi.fieldAddr0 (Wl.get h rfl (Wl.at1 rfl h hi fun w1 hw1 => Wl.atIntH hw1 hk2 fun _ => Wi.eql ?_))))
    have := hK _ (.refl _)
    simp only [List.getD_eq_getElem?_getD, List.getElem?_eq_getElem hi, Option.getD_some, List.getElem?_eq_getElem hk2] at this
    have e2 : (p.1[i][k] == 0) = decide (p.1[i][k] = 0) := rfl
    rw [e2]
    exact this
  have h := h.to l
  have hz := zeroD_allN (fun r hr => (hp.d r hr).1) dl
  cases hc : (allN p.1.length fun i => allN p.1.length fun k => decide ((p.1.getD i []).getD k 0 = 0)) with
  | false =>
    simp only [g4, g6, g7, g10]
    exact Wi.build (cells := zCells4) rfl (Wl.putA h rfl rfl rfl fun H h => Wl.getA h rfl (hzero _ _ h.le (by
      simp only [dpRes, if_pos hp]
      rw [if_neg]
      rintro ⟨g, _⟩
      rw [hz.2 g] at hc
      cases hc)))
  | true =>
  have hz := hz.1 hc
  have hd : dpRes p = (dualPrg p, 0) := by
    simp only [dpRes, if_pos hp]
    rw [if_pos ⟨hz, by omega⟩]
  rw [hd] at hQ
  simp only [g4, g6, g8, g9]
  have nb : ∀ x ∈ p.2.2.2, I64 (-x) := fun x hx => by have := hp.b x hx; unfold I64; omega
  have nc : ∀ x ∈ p.2.1, I64 (-x) := fun x hx => by have := hp.c x hx; unfold I64; omega
  refine Wi.fieldAddr0 (Wl.get h rfl (Wi.callQ (fn52 (h.rd (cs := [u4])) (by omega) nb fun H w1 f1 => ⟨f1.le, ?_⟩)))
  have h := h.add f1
  refine Wi.fieldAddr0 (Wl.get h rfl (Wi.callQ (fn52 (h.rd (cs := [u2])) (by omega) nc fun H w2 f2 => ⟨f2.le, ?_⟩)))
  have h := (((h.add f2)).nilG RS 25).nilG RS 25
  have c1 := f1.read.cell1; have c2 := f2.read.cell1
  refine Wi.build (cells := [.slice none 0 0, w1, .slice none 0 0, w2]) (by simp [fillA, f1.read.one, f2.read.one]) (Wl.new h fun H b3 h => Wl.putA h rfl rfl (by simp [c1, c2]; rfl) fun H h => Wi.fieldAddr0 (Wl.get h rfl (Wl.len h ?_)))
  refine W.for_rule p.2.2.2.length (fun i s H => ∃ g, s = (.int .i64 (i : Nat), ()) ∧ Ab.Loc H0 [.box b3 [g, w1, .slice none 0 0, w2], .grow RS 25 g (List.replicate i (List.replicate p.2.2.2.length 0)), .grow RS 25 (.slice none 0 0) [], .data RS [w2] (neg p.2.1), .data RS [w1] (neg p.2.2.2), .box b2 zCells4, .box b [u1, u2, u3, u4], .lent RPrg [u1, u2, u3, u4] p, .lent RS [u4] p.2.2.2, .lent RSS [u3] p.2.2.1] H) ⟨_, rfl, h.first 10⟩ ?_
  rintro i s H J hi ⟨g, rfl, h⟩ hJ
  refine Wi.lssC (fun hlt => Wi.tru ?_) fun hge => Wi.fls ?_
  · refine Wi.fieldAddr0 (Wl.get h rfl (Wi.fieldAddr0 (Wl.get h rfl (Wl.len h (Wl.make (r := Rd.int) (z := 0) (fun _ => ⟨rfl, rfl, by unfold I64; omega⟩) h (by omega) (by decide) fun H w h => ?_)))))
    refine Wl.pushG (v := g) h (by simp; omega) fun H g' h => Wi.fieldAddr0 (Wl.put h (h.rd (cs := [g'])).cell1 (by simp) fun H h => Wi.add (by unfold I64; omega) (hJ _ _ (by omega) ⟨g', rfl, ?_⟩))
    rw [List.replicate_succ']
    exact h
  have : i = p.2.2.2.length := by omega
  subst this
  have hm : ∀ r ∈ p.2.2.1, r.length = p.2.1.length := fun r hr => (hp.a r hr).1
  refine Wi.fieldAddr0 (Wl.get h rfl (Wi.call (fn53 (n := p.2.1.length) (h.rd (cs := [u3])) (by omega) (by omega) (by omega) hm fun H t f => ?_)))
  have h := h.add f
  have htl : (turnM p.2.2.1 p.2.1.length).length = p.2.1.length := by simp [turnM]
  refine Wl.len h (W.for_rule p.2.1.length (fun i s H => ∃ g2, s = (.int .i64 (i : Nat), ()) ∧ Ab.Loc H0 [.data RSS [t] (turnM p.2.2.1 p.2.1.length), .box b3 [g, w1, g2, w2], .grow RS 25 g (List.replicate p.2.2.2.length (List.replicate p.2.2.2.length 0)), .grow RS 25 g2 (((turnM p.2.2.1 p.2.1.length).map neg).take i), .data RS [w2] (neg p.2.1), .data RS [w1] (neg p.2.2.2), .box b2 zCells4, .box b [u1, u2, u3, u4]] H) ⟨_, rfl, by simpa using h.first 8⟩ ?_)
  rintro i s H J hi ⟨g2, rfl, h⟩ hJ
  rw [htl]
  refine Wi.lssC (fun hlt => Wi.tru ?_) fun hge => Wi.fls ?_
  · have hix : i < (turnM p.2.2.1 p.2.1.length).length := by omega
    have hrow : (turnM p.2.2.1 p.2.1.length)[i].length = p.2.2.1.length := by simp [turnM]
    have hx : ∀ x ∈ (turnM p.2.2.1 p.2.1.length)[i], I64 (-x) := fun x hx => by
      simp only [turnM, List.getElem_map, List.mem_map, List.getElem_range] at hx
      obtain ⟨r, hr, rfl⟩ := hx
      have ha := hp.a r hr
      have hir : i < r.length := by omega
      have := ha.2 _ (List.getElem_mem hir)
      simp only [List.getD_eq_getElem?_getD, List.getElem?_eq_getElem hir, Option.getD_some]
      unfold I64
      omega
    refine Wl.at1 rfl h hix fun w hw => Wi.fieldAddr0 (Wl.get h rfl (Wi.callQ (fn52 hw (by omega) hx fun H r f => ⟨f.le, ?_⟩)))
    refine Wl.pushF (v := g2) rfl h f f.read.one (by simp; omega) fun H g' h => Wi.fieldAddr0 (Wl.put h (h.rd (cs := [g'])).cell1 (by simp) fun H h => Wi.add (by unfold I64; omega) (hJ _ _ (by omega) ⟨g', rfl, ?_⟩))
    have hix2 : i < ((turnM p.2.2.1 p.2.1.length).map neg).length := by simpa using hix
    rw [List.take_succ_eq_append_getElem hix2, List.getElem_map]
    exact h
  · have : i = p.2.1.length := by omega
    subst this
    rw [List.take_of_length_le (by simp [turnM])] at h
    have k1 := (h.rd (cs := [g])).cell1
    have k2 := (h.rd (cs := [g2])).cell1
    refine Wl.getA h rfl (Wl.putA h rfl rfl (by simp [c1, c2, k1, k2]) fun H h => Wl.getA h rfl (hQ _ _ ?_))
    have h := (h.asData (i := 2) rfl).asData (i := 3) rfl
    exact Loc.ret4 (p := dualPrg p) h (i1 := 2) (i2 := 5) (i3 := 3) (i4 := 4) rfl rfl rfl rfl (by decide)


end Go.Proofs.YtdchibdcfdbcpaaGreat

/-! The contract of the program's ScaleProgram. No condition. -/
namespace Go.Proofs.YtdchibdcfdbcpaaGreat
open Go.Ab

/- loop.example/g01343/impl.ScaleProgram -/
def f12.l1 (Q : Post) (v30 : Value) (v27 : Value) (v2 : Value) (v3 : Value) (I1 : St [33] → Heap → Prop) (x_33 : Value) (H : Heap) : Prop :=
  W.bin .lss x_33 v30 H fun v31 H =>
  W.cond v31 H
  (fun H => W.fieldAddr 1 v27 H fun v32 H =>
   W.get v32 H fun v33 H =>
   W.indexAddr 1 v33 x_33 H fun v34 H =>
   W.get v34 H fun v35 H =>
   W.get v2 H fun v36 H =>
   W.bin .mul v35 v36 H fun v37 H =>
   W.indexAddr 1 v33 x_33 H fun v38 H =>
   W.put v38 v37 H fun _ H =>
   W.bin .add x_33 (.int .i64 1) H fun v39 H =>
   I1 (v39, ()) H)
  (fun H => W.getN 4 v27 H fun v40 H =>
   W.call Tryz.prog (.func (.func 76) #[] #[]) #[v40] H fun v41 H =>
   W.extract 0 v41 H fun v42 H =>
   W.extract 1 v41 H fun v43 H =>
   W.putN 4 v3 v42 H fun _ H =>
   W.getN 4 v3 H fun v44 H => Q (.tuple #[v44, v43]) H)
def f12.w (Q : Post) (p_0 : Value) (k_1 : Value) (H : Heap) : Prop :=
  W.box p_0 27 H fun v1 H =>
  W.box k_1 2 H fun v2 H =>
  W.new [(.slice none 0 0), (.slice none 0 0), (.slice none 0 0), (.slice none 0 0)] 27 H fun v3 H =>
  W.getN 4 v1 H fun v4 H =>
  W.call Tryz.prog (.func (.func 28) #[] #[]) #[v4] H fun v5 H =>
  W.un .not v5 H fun v6 H =>
  W.cond v6 H
  (fun H => W.build [(.slice none 0 0), (.slice none 0 0), (.slice none 0 0), (.slice none 0 0)] [] H fun v7 H =>
   W.putN 4 v3 v7 H fun _ H =>
   W.getN 4 v3 H fun v8 H => Q (.tuple #[v8, (.int .i64 1)]) H)
  (fun H => W.get v2 H fun v9 H =>
   W.call Tryz.prog (.func (.func 71) #[] #[]) #[v9, (.int .i64 1), (.int .i64 20)] H fun v10 H =>
   W.un .not v10 H fun v11 H =>
   W.cond v11 H
   (fun H => W.build [(.slice none 0 0), (.slice none 0 0), (.slice none 0 0), (.slice none 0 0)] [] H fun v12 H =>
    W.putN 4 v3 v12 H fun _ H =>
    W.getN 4 v3 H fun v13 H => Q (.tuple #[v13, (.int .i64 2)]) H)
   (fun H => W.fieldAddr 0 v1 H fun v14 H =>
    W.get v14 H fun v15 H =>
    W.callQ Tryz.prog (.func (.func 72) #[] #[]) #[v15, (.func (.func 73) #[] #[v2, v1])] H fun v16 H =>
    W.fieldAddr 1 v1 H fun v17 H =>
    W.get v17 H fun v18 H =>
    W.callQ Tryz.prog (.func (.func 74) #[] #[]) #[v18] H fun v19 H =>
    W.fieldAddr 2 v1 H fun v20 H =>
    W.get v20 H fun v21 H =>
    W.callQ Tryz.prog (.func (.func 75) #[] #[]) #[v21] H fun v22 H =>
    W.fieldAddr 3 v1 H fun v23 H =>
    W.get v23 H fun v24 H =>
    W.callQ Tryz.prog (.func (.func 74) #[] #[]) #[v24] H fun v25 H =>
    W.build [(.slice none 0 0), (.slice none 0 0), (.slice none 0 0), (.slice none 0 0)] [(0, 1, v16), (1, 1, v19), (2, 1, v22), (3, 1, v25)] H fun v26 H =>
    W.new [(.slice none 0 0), (.slice none 0 0), (.slice none 0 0), (.slice none 0 0)] 27 H fun v27 H =>
    W.putN 4 v27 v26 H fun _ H =>
    W.fieldAddr 1 v27 H fun v28 H =>
    W.get v28 H fun v29 H =>
    W.len v29 H fun v30 H =>
    W.loop (S := St [33]) (fun I1 s H => f12.l1 Q v30 v27 v2 v3 I1 s.1 H) ((.int .i64 0), ()) H))
theorem f12.enter {Q : Post} {p_0 : Value} {k_1 : Value} {H : Heap} (h : f12.w Q p_0 k_1 H) : Runs Tryz.prog 12 #[p_0, k_1] H Q :=
  fn_enter (ann := [(7, [33])]) (by kernel_rfl) Tryz.func12 rfl (by kernel_rfl) h (by kernel_rfl)

/- loop.example/g01343/impl.ScaleProgram$1 -/
def f73.w (Q : Post) (a_0 : Value) (b_1 : Value) (x_2 : Value) (x_3 : Value) (H : Heap) : Prop :=
  W.get x_2 H fun v1 H =>
  W.fieldAddr 0 x_3 H fun v2 H =>
  W.get v2 H fun v3 H =>
  W.indexAddr 1 v3 a_0 H fun v4 H =>
  W.get v4 H fun v5 H =>
  W.indexAddr 1 v5 b_1 H fun v6 H =>
  W.get v6 H fun v7 H =>
  W.bin .mul v1 v7 H fun v8 H =>
  Q v8 H
theorem f73.enter {Q : Post} {a_0 : Value} {b_1 : Value} {x_2 : Value} {x_3 : Value} {H : Heap} (h : f73.w Q a_0 b_1 x_2 x_3 H) : Runs Tryz.prog 73 #[a_0, b_1, x_2, x_3] H Q :=
  fn_enter (ann := []) (by kernel_rfl) Tryz.func73 rfl (by kernel_rfl) h (by kernel_rfl)


theorem okD {p : Prg} (h : IsPrg p) : okRows p.1 := ⟨by have := h.nm; have := h.dl; omega, fun r hr => by have := h.nm; rw [(h.d r hr).1]; omega⟩
theorem okA {p : Prg} (h : IsPrg p) : okRows p.2.2.1 := ⟨by have := h.nm; have := h.al; omega, fun r hr => by have := h.nm; rw [(h.a r hr).1]; omega⟩

theorem fn12 {H0 : Heap} {Q : Post} {cs : List Value} {p : Prg} {k : Int} (hr : Has RPrg H0 cs p) (hk : I64 k) (hw : wPrg p ≤ 1048576) (hQ : ∀ H' cs', Fresh RPrg H0 cs' (spRes p k).1 H' → Q (.tuple #[.agg cs'.toArray, .int .i64 (spRes p k).2]) H') :
    Runs Tryz.prog 12 #[.agg cs.toArray, .int .i64 k] H0 Q := by
  obtain ⟨u1, u2, u3, u4, rfl, r1, r2, r3, r4⟩ := hasPrg hr
  refine f12.enter ?_
  unfold f12.w
  have h := (((((Loc.start H0).lent r1).lent r2).lent r3).lent r4).lent hr
  refine Wl.box h fun H b h => Wl.box1 h rfl fun H bk h => Wl.new h fun H b2 h => Wl.getA h rfl (Wi.call (fn28 (h.rd (cs := [u1, u2, u3, u4])) hw fun H t l ht => ?_))
  have h := h.to l
  cases t with
  | false =>
    have hp : ¬ IsPrg p := fun g => Bool.noConfusion (ht.2 g)
    simp only [g7, g10]
    refine Wi.build (cells := zCells4) rfl (Wl.putA h rfl rfl rfl fun H h => Wl.getA h rfl ?_)
    have := hQ H zCells4
    simp only [spRes, if_neg hp] at this
    exact this (fresh_nil4 h.le)
  | true =>
  have hp := ht.1 rfl
  simp only [g8, g9]
  refine Wl.get h rfl (Wi.call (fn71 ?_))
  cases hI : inR 1 20 k with
  | false =>
    simp only [g7, g10]
    refine Wi.build (cells := zCells4) rfl (Wl.putA h rfl rfl rfl fun H h => Wl.getA h rfl ?_)
    have := hQ H zCells4
    simp only [spRes, if_pos hp, hI] at this
    exact this (fresh_nil4 h.le)
  | true =>
  have hk20 := inR_iff.1 hI
  simp only [spRes, if_pos hp, hI, if_true] at hQ
  simp only [g8, g9]
  have n1 := hp.n1; have nm := hp.nm; have dl := hp.dl; have al := hp.al
  refine Wi.fieldAddr0 (Wl.get h rfl (Wi.callQ (fn72 (f := fun i j => k * (p.1.getD i []).getD j 0) (h.rd (cs := [u1])) (okD hp) ?_ fun H w1 f1 => ⟨f1.le, ?_⟩)))
  · intro H' i j K hi hj l hK
    have h := h.to l
    refine Wi.callV (f73.enter (Wl.get h rfl (Wi.fieldAddr0 (Wl.get h rfl (Wl.at1 rfl h hi fun v hv => Wl.atIntH hv hj fun _ => Wi.mul ?_ ?_)))))
    · exact (mul20 ((hp.d _ (List.getElem_mem hi)).2 _ (List.getElem_mem hj)) (by omega) hk20).1
    · have := hK H' (.refl _)
      simp only [List.getD_eq_getElem?_getD, List.getElem?_eq_getElem hi, Option.getD_some, List.getElem?_eq_getElem hj] at this
      exact this (mul20 ((hp.d _ (List.getElem_mem hi)).2 _ (List.getElem_mem hj)) (by omega) hk20).1
  have h := h.add f1
  refine Wi.fieldAddr0 (Wl.get h rfl (Wi.callQ (fn74 (h.rd (cs := [u2])) (by omega) fun H w2 f2 => ⟨f2.le, ?_⟩)))
  have h := h.add f2.fresh
  refine Wi.fieldAddr0 (Wl.get h rfl (Wi.callQ (fn75 (h.rd (cs := [u3])) (okA hp) fun H w3 f3 => ⟨f3.le, ?_⟩)))
  have h := h.add f3.fresh
  refine Wi.fieldAddr0 (Wl.get h rfl (Wi.callQ (fn74 (h.rd (cs := [u4])) (by omega) fun H w4 f4 => ⟨f4.le, ?_⟩)))
  have h := h.add f4.fresh
  have c1 := f1.read.cell1; have c2 := f2.fresh.read.cell1; have c3 := f3.fresh.read.cell1; have c4 := f4.fresh.read.cell1
  have kc : [w1, w2, w3, w4].all isCell = true := by simp [c1, c2, c3, c4]
  refine Wi.build (cells := [w1, w2, w3, w4]) (by simp [fillA, f1.read.one, f2.fresh.read.one, f3.fresh.read.one, f4.fresh.read.one]) (Wl.new h fun H b3 h => Wl.putA h rfl rfl kc fun H h => Wi.fieldAddr0 (Wl.get h rfl (Wl.len h ?_)))
  refine W.for_rule p.2.1.length (fun i s H => s = (.int .i64 (i : Nat), ()) ∧ Ab.Loc H0 [.box b3 [w1, w2, w3, w4], .data RS [w4] p.2.2.2, .data RSS [w3] p.2.2.1, .data RS [w2] (mapTo (fun _ x => k * x) p.2.1 i), .data RSS [w1] (mapF (fun i j => k * (p.1.getD i []).getD j 0) p.1), .box b2 zCells4, .box bk [.int .i64 k], .box b [u1, u2, u3, u4]] H)
    ⟨rfl, by
      rw [mapTo_zero]
      exact h.first 8⟩ ?_
  rintro i s H J hi ⟨rfl, h⟩ hJ
  refine Wi.lssC (fun hlt => Wi.tru ?_) fun hge => Wi.fls ?_
  · have hix : i < p.2.1.length := by omega
    have hl := mapTo_length (fun _ x => k * x) p.2.1 i
    have hb := mul20 (hp.c _ (List.getElem_mem hix)) (by omega) hk20
    refine Wi.fieldAddr0 (Wl.get h rfl (Wl.atInt h (by omega) fun _ => ?_))
    rw [mapTo_get hix]
    refine Wl.get h rfl (Wi.mul hb.2 (Wl.setInt h (by omega) hb.2 fun H h => Wi.add (by unfold I64; omega) (hJ _ _ hix ⟨rfl, ?_⟩)))
    rw [← mapTo_succ hix, Int.mul_comm k]
    exact h
  · have : i = p.2.1.length := by omega
    subst this
    rw [mapTo_all] at h
    have e1 : mapF (fun i j => k * (p.1.getD i []).getD j 0) p.1 = (sclPrg p k).1 := by
      unfold mapF sclPrg
      apply List.ext_getElem
      · simp
      · intro i h1 h2
        have hi : i < p.1.length := by simpa using h2
        apply List.ext_getElem
        · simp
        · intro j h3 h4
          have hj : j < p.1[i].length := by simpa using h4
          simp [List.getD_eq_getElem?_getD, List.getElem?_eq_getElem hi, List.getElem?_eq_getElem hj]
    have e2 : p.2.1.mapIdx (fun _ x => k * x) = (sclPrg p k).2.1 := by
      unfold sclPrg
      apply List.ext_getElem <;> simp
    rw [e1, e2] at h
    have f := Loc.ret4 (p := sclPrg p k) h (i1 := 4) (i2 := 3) (i3 := 2) (i4 := 1) rfl rfl rfl rfl (by decide)
    simp only [List.cons_append, List.nil_append] at f
    refine Wl.getA h rfl (Wi.call (fn76 f.read (scl_w hp k) (fun hs H l => ?_) fun hs H l => ?_))
    · have h := h.to l
      simp only [g11, g12]
      refine Wl.putA (vs := [w1, w2, w3, w4]) h rfl rfl kc fun H h => Wl.getA h rfl ?_
      have := hQ H [w1, w2, w3, w4]
      simp only [limRes, if_pos hs] at this
      exact this (by
        have f := Loc.ret4 (p := sclPrg p k) h (i1 := 4) (i2 := 3) (i3 := 2) (i4 := 1) rfl rfl rfl rfl (by decide)
        exact f)
    · have h := h.to l
      simp only [g11, g12]
      refine Wl.putA (vs := zCells4) h rfl rfl rfl fun H h => Wl.getA h rfl ?_
      have := hQ H zCells4
      simp only [limRes, if_neg hs] at this
      exact this (fresh_nil4 h.le)

end Go.Proofs.YtdchibdcfdbcpaaGreat

/-! The contract of the reference's ScaleProgram. No condition. -/
namespace Go.Proofs.YtdchibdcfdbcpaaGreat
open Go.Ab

/- loop.example/g01343/spec.ScaleProgram -/
def f13.l2 (Q : Post) (v41 : Value) (k_1 : Value) (i_7 : Value) (I1 : St [7] → Heap → Prop) (I2 : St [9] → Heap → Prop) (j_9 : Value) (H : Heap) : Prop :=
  W.len v41 H fun v42 H =>
  W.bin .lss j_9 v42 H fun v43 H =>
  W.cond v43 H
  (fun H => W.indexAddr 1 v41 j_9 H fun v44 H =>
   W.get v44 H fun v45 H =>
   W.bin .mul k_1 v45 H fun v46 H =>
   W.indexAddr 1 v41 j_9 H fun v47 H =>
   W.put v47 v46 H fun _ H =>
   W.bin .add j_9 (.int .i64 1) H fun v48 H =>
   I2 (v48, ()) H)
  (fun H => W.bin .add i_7 (.int .i64 1) H fun v49 H =>
   I1 (v49, ()) H)
def f13.l1 (Q : Post) (v25 : Value) (k_1 : Value) (v2 : Value) (I1 : St [7] → Heap → Prop) (i_7 : Value) (H : Heap) : Prop :=
  W.fieldAddr 1 v25 H fun v26 H =>
  W.get v26 H fun v27 H =>
  W.len v27 H fun v28 H =>
  W.bin .lss i_7 v28 H fun v29 H =>
  W.cond v29 H
  (fun H => W.fieldAddr 1 v25 H fun v30 H =>
   W.get v30 H fun v31 H =>
   W.fieldAddr 1 v25 H fun v32 H =>
   W.get v32 H fun v33 H =>
   W.indexAddr 1 v33 i_7 H fun v34 H =>
   W.get v34 H fun v35 H =>
   W.bin .mul k_1 v35 H fun v36 H =>
   W.indexAddr 1 v31 i_7 H fun v37 H =>
   W.put v37 v36 H fun _ H =>
   W.fieldAddr 0 v25 H fun v38 H =>
   W.get v38 H fun v39 H =>
   W.indexAddr 1 v39 i_7 H fun v40 H =>
   W.get v40 H fun v41 H =>
   W.loop (S := St [9]) (fun I2 s H => f13.l2 Q v41 k_1 i_7 I1 I2 s.1 H) ((.int .i64 0), ()) H)
  (fun H => W.getN 4 v25 H fun v50 H =>
   W.call Tryz.prog (.func (.func 54) #[] #[]) #[v50] H fun v51 H =>
   W.un .not v51 H fun v52 H =>
   W.cond v52 H
   (fun H => W.build [(.slice none 0 0), (.slice none 0 0), (.slice none 0 0), (.slice none 0 0)] [] H fun v53 H =>
    W.putN 4 v2 v53 H fun _ H =>
    W.getN 4 v2 H fun v54 H => Q (.tuple #[v54, (.int .i64 3)]) H)
   (fun H => W.getN 4 v25 H fun v55 H =>
    W.putN 4 v2 v55 H fun _ H =>
    W.getN 4 v2 H fun v56 H => Q (.tuple #[v56, (.int .i64 0)]) H))
def f13.w (Q : Post) (p_0 : Value) (k_1 : Value) (H : Heap) : Prop :=
  W.box p_0 27 H fun v1 H =>
  W.new [(.slice none 0 0), (.slice none 0 0), (.slice none 0 0), (.slice none 0 0)] 27 H fun v2 H =>
  W.getN 4 v1 H fun v3 H =>
  W.call Tryz.prog (.func (.func 54) #[] #[]) #[v3] H fun v4 H =>
  W.un .not v4 H fun v5 H =>
  W.cond v5 H
  (fun H => W.build [(.slice none 0 0), (.slice none 0 0), (.slice none 0 0), (.slice none 0 0)] [] H fun v6 H =>
   W.putN 4 v2 v6 H fun _ H =>
   W.getN 4 v2 H fun v7 H => Q (.tuple #[v7, (.int .i64 1)]) H)
  (fun H => W.call Tryz.prog (.func (.func 77) #[] #[]) #[k_1, (.int .i64 1), (.int .i64 20)] H fun v8 H =>
   W.un .not v8 H fun v9 H =>
   W.cond v9 H
   (fun H => W.build [(.slice none 0 0), (.slice none 0 0), (.slice none 0 0), (.slice none 0 0)] [] H fun v10 H =>
    W.putN 4 v2 v10 H fun _ H =>
    W.getN 4 v2 H fun v11 H => Q (.tuple #[v11, (.int .i64 2)]) H)
   (fun H => W.fieldAddr 0 v1 H fun v12 H =>
    W.get v12 H fun v13 H =>
    W.callQ Tryz.prog (.func (.func 78) #[] #[]) #[v13] H fun v14 H =>
    W.fieldAddr 1 v1 H fun v15 H =>
    W.get v15 H fun v16 H =>
    W.callQ Tryz.prog (.func (.func 79) #[] #[]) #[v16] H fun v17 H =>
    W.fieldAddr 2 v1 H fun v18 H =>
    W.get v18 H fun v19 H =>
    W.callQ Tryz.prog (.func (.func 78) #[] #[]) #[v19] H fun v20 H =>
    W.fieldAddr 3 v1 H fun v21 H =>
    W.get v21 H fun v22 H =>
    W.callQ Tryz.prog (.func (.func 79) #[] #[]) #[v22] H fun v23 H =>
    W.build [(.slice none 0 0), (.slice none 0 0), (.slice none 0 0), (.slice none 0 0)] [(0, 1, v14), (1, 1, v17), (2, 1, v20), (3, 1, v23)] H fun v24 H =>
    W.new [(.slice none 0 0), (.slice none 0 0), (.slice none 0 0), (.slice none 0 0)] 27 H fun v25 H =>
    W.putN 4 v25 v24 H fun _ H =>
    W.loop (S := St [7]) (fun I1 s H => f13.l1 Q v25 k_1 v2 I1 s.1 H) ((.int .i64 0), ()) H))
theorem f13.enter {Q : Post} {p_0 : Value} {k_1 : Value} {H : Heap} (h : f13.w Q p_0 k_1 H) : Runs Tryz.prog 13 #[p_0, k_1] H Q :=
  fn_enter (ann := [(7, [7]), (12, [9])]) (by kernel_rfl) Tryz.func13 rfl (by kernel_rfl) h (by kernel_rfl)


theorem okD' {p : Prg} (h : IsPrg p) : okRows p.1 := ⟨by have := h.nm; have := h.dl; omega, fun r hr => by have := h.nm; rw [(h.d r hr).1]; omega⟩
theorem okA' {p : Prg} (h : IsPrg p) : okRows p.2.2.1 := ⟨by have := h.nm; have := h.al; omega, fun r hr => by have := h.nm; rw [(h.a r hr).1]; omega⟩

theorem fn13 {H0 : Heap} {Q : Post} {cs : List Value} {p : Prg} {k : Int} (hr : Has RPrg H0 cs p) (_ : I64 k) (hw : wPrg p ≤ 1048576) (hQ : ∀ H' cs', Fresh RPrg H0 cs' (spRes p k).1 H' → Q (.tuple #[.agg cs'.toArray, .int .i64 (spRes p k).2]) H') :
    Runs Tryz.prog 13 #[.agg cs.toArray, .int .i64 k] H0 Q := by
  obtain ⟨u1, u2, u3, u4, rfl, r1, r2, r3, r4⟩ := hasPrg hr
  refine f13.enter ?_
  unfold f13.w
  have h := (((((Loc.start H0).lent r1).lent r2).lent r3).lent r4).lent hr
  refine Wl.box h fun H b h => Wl.new h fun H b2 h => Wl.getA h rfl (Wi.call (fn54 (h.rd (cs := [u1, u2, u3, u4])) hw fun H t l ht => ?_))
  have h := h.to l
  cases t with
  | false =>
    have hp : ¬ IsPrg p := fun g => Bool.noConfusion (ht.2 g)
    simp only [g7, g10]
    refine Wi.build (cells := zCells4) rfl (Wl.putA h rfl rfl rfl fun H h => Wl.getA h rfl ?_)
    have := hQ H zCells4
    simp only [spRes, if_neg hp] at this
    exact this (fresh_nil4 h.le)
  | true =>
  have hp := ht.1 rfl
  simp only [g8, g9]
  refine Wi.call (fn77 ?_)
  cases hI : inR 1 20 k with
  | false =>
    simp only [g7, g10]
    refine Wi.build (cells := zCells4) rfl (Wl.putA h rfl rfl rfl fun H h => Wl.getA h rfl ?_)
    have := hQ H zCells4
    simp only [spRes, if_pos hp, hI] at this
    exact this (fresh_nil4 h.le)
  | true =>
  have hk20 := inR_iff.1 hI
  simp only [spRes, if_pos hp, hI, if_true] at hQ
  simp only [g8, g9]
  have n1 := hp.n1; have nm := hp.nm; have dl := hp.dl; have al := hp.al
  refine Wi.fieldAddr0 (Wl.get h rfl (Wi.callQ (fn78 (h.rd (cs := [u1])) (okD' hp) fun H w1 f1 => ⟨f1.le, ?_⟩)))
  have h := h.add f1.fresh
  refine Wi.fieldAddr0 (Wl.get h rfl (Wi.callQ (fn79 (h.rd (cs := [u2])) (by omega) fun H w2 f2 => ⟨f2.le, ?_⟩)))
  have h := h.add f2.fresh
  refine Wi.fieldAddr0 (Wl.get h rfl (Wi.callQ (fn78 (h.rd (cs := [u3])) (okA' hp) fun H w3 f3 => ⟨f3.le, ?_⟩)))
  have h := h.add f3.fresh
  refine Wi.fieldAddr0 (Wl.get h rfl (Wi.callQ (fn79 (h.rd (cs := [u4])) (by omega) fun H w4 f4 => ⟨f4.le, ?_⟩)))
  have h := h.add f4.fresh
  have c1 := f1.fresh.read.cell1; have c2 := f2.fresh.read.cell1; have c3 := f3.fresh.read.cell1; have c4 := f4.fresh.read.cell1
  have kc : [w1, w2, w3, w4].all isCell = true := by simp [c1, c2, c3, c4]
  refine Wi.build (cells := [w1, w2, w3, w4]) (by simp [fillA, f1.fresh.read.one, f2.fresh.read.one, f3.fresh.read.one, f4.fresh.read.one]) (Wl.new h fun H b3 h => Wl.putA h rfl rfl kc fun H h => ?_)
  obtain ⟨us, hus, h⟩ := h.heads (i := 4) rfl rfl
  refine W.for_rule p.2.1.length (fun i s H => s = (.int .i64 (i : Nat), ()) ∧ Ab.Loc H0 [.box b3 [w1, w2, w3, w4], .data RS [w4] p.2.2.2, .data RSS [w3] p.2.2.1, .data RS [w2] (mapTo (fun _ x => k * x) p.2.1 i), .rows RS w1 us (mapTo (fun _ r => r.map (k * ·)) p.1 i), .box b2 zCells4, .box b [u1, u2, u3, u4]] H)
    ⟨rfl, by rw [mapTo_zero, mapTo_zero]; exact h.first 7⟩ ?_
  rintro i s H J hi ⟨rfl, h⟩ hJ
  have hl := mapTo_length (fun _ x => k * x) p.2.1 i
  refine Wi.fieldAddr0 (Wl.get h rfl (Wl.len h (Wi.lssC (fun hlt => Wi.tru ?_) fun hge => Wi.fls ?_)))
  · have hix : i < p.2.1.length := by omega
    have hid : i < p.1.length := by omega
    have hb := mul20 (hp.c _ (List.getElem_mem hix)) (by omega) hk20
    refine Wi.fieldAddr0 (Wl.get h rfl (Wi.fieldAddr0 (Wl.get h rfl (Wl.atInt h (by omega) fun _ => ?_))))
    rw [mapTo_get hix]
    refine Wi.mul hb.1 (Wl.setInt h (by omega) hb.1 fun H h => Wi.fieldAddr0 (Wl.get h rfl ?_))
    rw [mapTo_succ (f := fun _ x => k * x) hix] at h
    have hl2 := mapTo_length (fun _ r => r.map (k * ·)) p.1 i
    have hget := mapTo_get (f := fun _ r => r.map (k * ·)) hid
    refine Wl.atRow rfl h (by omega) fun w hw _ => ?_
    have hd := hp.d _ (List.getElem_mem hid)
    refine W.for_rule p.1[i].length (fun j s H => s = (.int .i64 (j : Nat), ()) ∧ Ab.Loc H0 [.box b3 [w1, w2, w3, w4], .data RS [w4] p.2.2.2, .data RSS [w3] p.2.2.1, .data RS [w2] (mapTo (fun _ x => k * x) p.2.1 (i + 1)), .rows RS w1 us ((mapTo (fun _ r => r.map (k * ·)) p.1 i).set i (mapTo (fun _ x => k * x) p.1[i] j)), .box b2 zCells4, .box b [u1, u2, u3, u4]] H)
      ⟨rfl, by rw [mapTo_zero, ← hget, List.set_getElem_self]; exact h⟩ ?_
    rintro j s H J2 hj ⟨rfl, h⟩ hJ2
    have ha : i < ((mapTo (fun _ r => r.map (k * ·)) p.1 i).set i (mapTo (fun _ x => k * x) p.1[i] j)).length := by rw [List.length_set]; omega
    have hg2 : ((mapTo (fun _ r => r.map (k * ·)) p.1 i).set i (mapTo (fun _ x => k * x) p.1[i] j))[i] = mapTo (fun _ x => k * x) p.1[i] j := by simp
    have hl3 := mapTo_length (fun _ x => k * x) p.1[i] j
    have hwr := h.row rfl (j := 4) rfl hw ha
    rw [hg2] at hwr
    refine Wl.lenH hwr (Wi.lssC (fun hlt2 => Wi.tru ?_) fun hge2 => Wi.fls ?_)
    · have hjx : j < p.1[i].length := by omega
      have hb2 := mul20 (hd.2 _ (List.getElem_mem hjx)) (by omega) hk20
      refine Wl.atIntH hwr (by omega) fun _ => ?_
      rw [mapTo_get hjx]
      refine Wi.mul hb2.1 (Wl.rowSet h (j := 4) rfl hw ha (by rw [hg2]; omega) hb2.1 fun H h => Wi.add (by unfold I64; omega) (hJ2 _ _ hjx ⟨rfl, ?_⟩))
      rw [hg2, List.set_set, mapTo_succ (f := fun _ x => k * x) hjx] at h
      exact h
    · have : j = p.1[i].length := by omega
      subst this
      refine Wi.add (by unfold I64; omega) (hJ _ _ hix ⟨rfl, ?_⟩)
      have e : mapTo (fun _ x => k * x) p.1[i] p.1[i].length = p.1[i].map (k * ·) := by
        rw [mapTo_all]
        apply List.ext_getElem <;> simp
      rw [e, mapTo_succ (f := fun _ r => r.map (k * ·)) hid] at h
      exact h
  · have : i = p.2.1.length := by omega
    subst this
    have e1 : mapTo (fun _ r => r.map (k * ·)) p.1 p.2.1.length = (sclPrg p k).1 := by
      rw [← dl, mapTo_all]
      unfold sclPrg
      apply List.ext_getElem <;> simp
    have e2 : mapTo (fun _ x => k * x) p.2.1 p.2.1.length = (sclPrg p k).2.1 := by
      rw [mapTo_all]
      unfold sclPrg
      apply List.ext_getElem <;> simp
    rw [e1, e2] at h
    have h := h.unrows (i := 4) rfl
    have f := Loc.ret4 (p := sclPrg p k) h (i1 := 4) (i2 := 3) (i3 := 2) (i4 := 1) rfl rfl rfl rfl (by decide)
    simp only [List.cons_append, List.nil_append] at f
    refine Wl.getA h rfl (Wi.call (fn54 f.read (scl_w hp k) fun H t l ht => ?_))
    have h := h.to l
    cases t with
    | false =>
      have hs : ¬ IsPrg (sclPrg p k) := fun g => Bool.noConfusion (ht.2 g)
      simp only [g7, g10]
      refine Wi.build (cells := zCells4) rfl (Wl.putA h rfl rfl rfl fun H h => Wl.getA h rfl ?_)
      have := hQ H zCells4
      simp only [limRes, if_neg hs] at this
      exact this (fresh_nil4 h.le)
    | true =>
      have hs := ht.1 rfl
      simp only [g8, g9]
      refine Wl.getA h rfl (Wl.putA (vs := [w1, w2, w3, w4]) h rfl rfl kc fun H h => Wl.getA h rfl ?_)
      have := hQ H [w1, w2, w3, w4]
      simp only [limRes, if_pos hs] at this
      exact this (by
        have f := Loc.ret4 (p := sclPrg p k) h (i1 := 4) (i2 := 3) (i3 := 2) (i4 := 1) rfl rfl rfl rfl (by decide)
        exact f)

end Go.Proofs.YtdchibdcfdbcpaaGreat

/-! What AddPrograms comes to; added. No condition. -/
namespace Go.Proofs.YtdchibdcfdbcpaaGreat
open Go.Ab

def addL (a b : List Int) : List Int := a.mapIdx fun i x => x + b.getD i 0
theorem addL_length (a b : List Int) : (addL a b).length = a.length := by simp [addL]

def addPrg (p q : Prg) : Prg := (p.1.mapIdx fun i r => addL r (q.1.getD i []), addL p.2.1 q.2.1, p.2.2.1 ++ q.2.2.1, p.2.2.2 ++ q.2.2.2)

noncomputable def apRes (p q : Prg) : Prg × Int := open Classical in if IsPrg p ∧ IsPrg q then (if p.2.1.length = q.2.1.length then limRes (addPrg p q) else (zPrg, 2)) else (zPrg, 1)

theorem add_w {p q : Prg} (h : IsPrg p) (g : IsPrg q) : wPrg (addPrg p q) ≤ 1048576 := by
  have := h.n1; have := h.nm; have := h.dl; have := h.al
  have := g.n1; have := g.nm; have := g.dl; have := g.al
  have h1 : szl List.length (addPrg p q).1 ≤ (addPrg p q).1.length * 5 := szl_le _ fun r hr => by
    obtain ⟨i, hi, rfl⟩ := List.mem_iff_getElem.1 hr
    have hi' : i < p.1.length := by simpa [addPrg] using hi
    simp only [addPrg, List.getElem_mapIdx, addL_length]
    rw [(h.d _ (List.getElem_mem hi')).1]
    omega
  have h2 : szl List.length (addPrg p q).2.2.1 ≤ (addPrg p q).2.2.1.length * 5 := szl_le _ fun r hr => by
    rcases List.mem_append.1 hr with hr | hr
    · rw [(h.a r hr).1]; omega
    · rw [(g.a r hr).1]; omega
  have e1 : (addPrg p q).1.length = p.1.length := by simp [addPrg]
  have e2 : (addPrg p q).2.2.1.length = p.2.2.1.length + q.2.2.1.length := by simp [addPrg]
  have e3 : (addPrg p q).2.1.length = p.2.1.length := by simp [addPrg, addL]
  have e4 : (addPrg p q).2.2.2.length = p.2.2.2.length + q.2.2.2.length := by simp [addPrg]
  simp only [szp, wl]
  omega

theorem okDD {p : Prg} (h : IsPrg p) : okRows p.1 := ⟨by have := h.nm; have := h.dl; omega, fun r hr => by have := h.nm; rw [(h.d r hr).1]; omega⟩
theorem okAA {p : Prg} (h : IsPrg p) : okRows p.2.2.1 := ⟨by have := h.nm; have := h.al; omega, fun r hr => by have := h.nm; rw [(h.a r hr).1]; omega⟩

end Go.Proofs.YtdchibdcfdbcpaaGreat

/-! Contracts of added and AddPrograms. No condition. -/
namespace Go.Proofs.YtdchibdcfdbcpaaGreat
open Go.Ab

/- loop.example/g01343/impl.added -/
def f81.l1 (Q : Post) (v2 : Value) (b_1 : Value) (v1 : Value) (I1 : St [12] → Heap → Prop) (x_12 : Value) (H : Heap) : Prop :=
  W.bin .lss x_12 v2 H fun v3 H =>
  W.cond v3 H
  (fun H => W.indexAddr 1 b_1 x_12 H fun v4 H =>
   W.get v4 H fun v5 H =>
   W.indexAddr 1 v1 x_12 H fun v6 H =>
   W.get v6 H fun v7 H =>
   W.bin .add v7 v5 H fun v8 H =>
   W.indexAddr 1 v1 x_12 H fun v9 H =>
   W.put v9 v8 H fun _ H =>
   W.bin .add x_12 (.int .i64 1) H fun v10 H =>
   I1 (v10, ()) H)
  (fun H => Q v1 H)
def f81.w (Q : Post) (a_0 : Value) (b_1 : Value) (H : Heap) : Prop :=
  W.call Tryz.prog (.func (.func 74) #[] #[]) #[a_0] H fun v1 H =>
  W.len b_1 H fun v2 H =>
  W.loop (S := St [12]) (fun I1 s H => f81.l1 Q v2 b_1 v1 I1 s.1 H) ((.int .i64 0), ()) H
theorem f81.enter {Q : Post} {a_0 : Value} {b_1 : Value} {H : Heap} (h : f81.w Q a_0 b_1 H) : Runs Tryz.prog 81 #[a_0, b_1] H Q :=
  fn_enter (ann := [(3, [12])]) (by kernel_rfl) Tryz.func81 rfl (by kernel_rfl) h (by kernel_rfl)

/- loop.example/g01343/impl.AddPrograms -/
def f16.l1 (Q : Post) (v44 : Value) (v43 : Value) (v41 : Value) (v2 : Value) (v3 : Value) (I1 : St [48] → Heap → Prop) (x_48 : Value) (H : Heap) : Prop :=
  W.bin .lss x_48 v44 H fun v45 H =>
  W.cond v45 H
  (fun H => W.indexAddr 1 v43 x_48 H fun v46 H =>
   W.get v46 H fun v47 H =>
   W.fieldAddr 0 v41 H fun v48 H =>
   W.get v48 H fun v49 H =>
   W.fieldAddr 0 v2 H fun v50 H =>
   W.get v50 H fun v51 H =>
   W.indexAddr 1 v51 x_48 H fun v52 H =>
   W.get v52 H fun v53 H =>
   W.callQ Tryz.prog (.func (.func 81) #[] #[]) #[v47, v53] H fun v54 H =>
   W.lit 1 [(.slice none 0 0)] 25 [(0, 1, v54)] H fun v55 H =>
   W.append 1 25 v49 v55 H fun v56 H =>
   W.fieldAddr 0 v41 H fun v57 H =>
   W.put v57 v56 H fun _ H =>
   W.bin .add x_48 (.int .i64 1) H fun v58 H =>
   I1 (v58, ()) H)
  (fun H => W.getN 4 v41 H fun v59 H =>
   W.call Tryz.prog (.func (.func 76) #[] #[]) #[v59] H fun v60 H =>
   W.extract 0 v60 H fun v61 H =>
   W.extract 1 v60 H fun v62 H =>
   W.putN 4 v3 v61 H fun _ H =>
   W.getN 4 v3 H fun v63 H => Q (.tuple #[v63, v62]) H)
def f16.w (Q : Post) (p_0 : Value) (q_1 : Value) (H : Heap) : Prop :=
  W.box p_0 27 H fun v1 H =>
  W.box q_1 27 H fun v2 H =>
  W.new [(.slice none 0 0), (.slice none 0 0), (.slice none 0 0), (.slice none 0 0)] 27 H fun v3 H =>
  W.getN 4 v1 H fun v4 H =>
  W.call Tryz.prog (.func (.func 28) #[] #[]) #[v4] H fun v5 H =>
  W.un .not v5 H fun v6 H =>
  W.guarded v6 false (fun H k => W.getN 4 v2 H k) H fun v7 H =>
  W.guarded v6 false (fun H k => W.call Tryz.prog (.func (.func 28) #[] #[]) #[v7] H k) H fun v8 H =>
  W.guarded v6 false (fun H k => W.un .not v8 H k) H fun v9 H =>
  W.pick v6 (.bool true) v9 H fun v10 H =>
  W.cond v10 H
  (fun H => W.build [(.slice none 0 0), (.slice none 0 0), (.slice none 0 0), (.slice none 0 0)] [] H fun v11 H =>
   W.putN 4 v3 v11 H fun _ H =>
   W.getN 4 v3 H fun v12 H => Q (.tuple #[v12, (.int .i64 1)]) H)
  (fun H => W.fieldAddr 1 v1 H fun v13 H =>
   W.get v13 H fun v14 H =>
   W.len v14 H fun v15 H =>
   W.fieldAddr 1 v2 H fun v16 H =>
   W.get v16 H fun v17 H =>
   W.len v17 H fun v18 H =>
   W.bin .neq v15 v18 H fun v19 H =>
   W.cond v19 H
   (fun H => W.build [(.slice none 0 0), (.slice none 0 0), (.slice none 0 0), (.slice none 0 0)] [] H fun v20 H =>
    W.putN 4 v3 v20 H fun _ H =>
    W.getN 4 v3 H fun v21 H => Q (.tuple #[v21, (.int .i64 2)]) H)
   (fun H => W.fieldAddr 1 v1 H fun v22 H =>
    W.get v22 H fun v23 H =>
    W.fieldAddr 1 v2 H fun v24 H =>
    W.get v24 H fun v25 H =>
    W.callQ Tryz.prog (.func (.func 81) #[] #[]) #[v23, v25] H fun v26 H =>
    W.fieldAddr 2 v1 H fun v27 H =>
    W.get v27 H fun v28 H =>
    W.fieldAddr 2 v2 H fun v29 H =>
    W.get v29 H fun v30 H =>
    W.lit 2 [(.slice none 0 0)] 24 [(0, 1, v28), (1, 1, v30)] H fun v31 H =>
    W.callQ Tryz.prog (.func (.func 82) #[] #[]) #[v31] H fun v32 H =>
    W.callQ Tryz.prog (.func (.func 75) #[] #[]) #[v32] H fun v33 H =>
    W.fieldAddr 3 v1 H fun v34 H =>
    W.get v34 H fun v35 H =>
    W.fieldAddr 3 v2 H fun v36 H =>
    W.get v36 H fun v37 H =>
    W.lit 2 [(.slice none 0 0)] 25 [(0, 1, v35), (1, 1, v37)] H fun v38 H =>
    W.callQ Tryz.prog (.func (.func 83) #[] #[]) #[v38] H fun v39 H =>
    W.build [(.slice none 0 0), (.slice none 0 0), (.slice none 0 0), (.slice none 0 0)] [(1, 1, v26), (2, 1, v33), (3, 1, v39)] H fun v40 H =>
    W.new [(.slice none 0 0), (.slice none 0 0), (.slice none 0 0), (.slice none 0 0)] 27 H fun v41 H =>
    W.putN 4 v41 v40 H fun _ H =>
    W.fieldAddr 0 v1 H fun v42 H =>
    W.get v42 H fun v43 H =>
    W.len v43 H fun v44 H =>
    W.loop (S := St [48]) (fun I1 s H => f16.l1 Q v44 v43 v41 v2 v3 I1 s.1 H) ((.int .i64 0), ()) H))
theorem f16.enter {Q : Post} {p_0 : Value} {q_1 : Value} {H : Heap} (h : f16.w Q p_0 q_1 H) : Runs Tryz.prog 16 #[p_0, q_1] H Q :=
  fn_enter (ann := [(7, [48])]) (by kernel_rfl) Tryz.func16 rfl (by kernel_rfl) h (by kernel_rfl)


theorem fn81 {H0 : Heap} {Q : Post} {v w : Value} {a b : List Int} (hr : Has RS H0 [v] a) (hr2 : Has RS H0 [w] b) (hlen : a.length ≤ 16777216) (hl : a.length = b.length) (hx : ∀ i (h1 : i < a.length) (h2 : i < b.length), I64 (a[i] + b[i])) (hQ : ∀ H' u, Fresh RS H0 [u] (addL a b) H' → Q u H') :
    Runs Tryz.prog 81 #[v, w] H0 Q := by
  refine f81.enter (Wi.call (fn74 hr hlen fun H u f => ?_))
  have h := ((Loc.start H0).lent hr2).add f.fresh
  refine Wl.len h (W.for_rule b.length (fun i s H => s = (.int .i64 (i : Nat), ()) ∧ Ab.Loc H0 [.data RS [u] (mapTo (fun i x => x + b.getD i 0) a i), .lent RS [w] b] H) ⟨rfl, by rw [mapTo_zero]; exact h⟩ ?_)
  rintro i s H J hi ⟨rfl, h⟩ hJ
  refine Wi.lssC (fun hlt => Wi.tru ?_) fun hge => Wi.fls ?_
  · have hix : i < b.length := by omega
    have hia : i < a.length := by omega
    have hl := mapTo_length (fun i x => x + b.getD i 0) a i
    refine Wl.atInt h hix fun _ => Wl.atInt h (by omega) fun _ => ?_
    rw [mapTo_get hia]
    refine Wi.add (hx i hia hix) (Wl.setInt h (by omega) (hx i hia hix) fun H h => Wi.add (by unfold I64; omega) (hJ _ _ hix ⟨rfl, ?_⟩))
    rw [← mapTo_succ hia]
    have e : b.getD i 0 = b[i] := by rw [List.getD_eq_getElem?_getD, List.getElem?_eq_getElem hix]; rfl
    rw [e]
    exact h
  · have : i = a.length := by omega
    subst this
    rw [mapTo_all] at h
    exact hQ _ _ (h.ret (i := 0) rfl)

theorem fn16 {H0 : Heap} {Q : Post} {cs ds : List Value} {p q : Prg} (hr : Has RPrg H0 cs p) (hr' : Has RPrg H0 ds q) (hw : wPrg p ≤ 1048576) (hw' : wPrg q ≤ 1048576)
    (hQ : ∀ H' cs', Fresh RPrg H0 cs' (apRes p q).1 H' → Q (.tuple #[.agg cs'.toArray, .int .i64 (apRes p q).2]) H') : Runs Tryz.prog 16 #[.agg cs.toArray, .agg ds.toArray] H0 Q := by
  obtain ⟨u1, u2, u3, u4, rfl, r1, r2, r3, r4⟩ := hasPrg hr
  obtain ⟨v1, v2, v3, v4, rfl, s1, s2, s3, s4⟩ := hasPrg hr'
  refine f16.enter ?_
  unfold f16.w
  have h := ((((((((((Loc.start H0).lent r1).lent r2).lent r3).lent r4).lent hr).lent s1).lent s2).lent s3).lent s4).lent hr'
  refine Wl.box h fun H b h => Wl.box h fun H bq h => Wl.new h fun H b2 h => Wl.getA h rfl (Wi.call (fn28 (h.rd (cs := [u1, u2, u3, u4])) hw fun H t l ht => ?_))
  have h := h.to l
  have zero : ∀ (H : Heap) (c : Int), Ab.Loc H0 _ H → apRes p q = (zPrg, c) → W.build [.slice none 0 0, .slice none 0 0, .slice none 0 0, .slice none 0 0] [] H fun x H => W.putN 4 (pt b2 0) x H fun _ H => W.getN 4 (pt b2 0) H fun y H => Q (.tuple #[y, .int .i64 c]) H := fun H c h' e =>
    Wi.build (cells := zCells4) rfl (Wl.putA (b := b2) (L := [.box b2 zCells4, .box bq [v1, v2, v3, v4], .box b [u1, u2, u3, u4], .lent RPrg [v1, v2, v3, v4] q, .lent RS [v4] q.2.2.2, .lent RSS [v3] q.2.2.1, .lent RS [v2] q.2.1, .lent RSS [v1] q.1, .lent RPrg [u1, u2, u3, u4] p, .lent RS [u4] p.2.2.2, .lent RSS [u3] p.2.2.1, .lent RS [u2] p.2.1, .lent RSS [u1] p.1]) h' rfl rfl rfl fun H h => Wl.getA h rfl (by
      have := hQ H zCells4
      rw [e] at this
      exact this (fresh_nil4 h.le)))
  cases t with
  | false =>
    have hp : ¬ (IsPrg p ∧ IsPrg q) := fun g => Bool.noConfusion (ht.2 g.1)
    simp only [gw]
    exact zero _ _ h (by simp only [apRes, if_neg hp])
  | true =>
  have hp := ht.1 rfl
  simp only [g9, g4]
  refine Wl.getA h rfl (Wi.call (fn28 (h.rd (cs := [v1, v2, v3, v4])) hw' fun H t l ht' => ?_))
  have h := h.to l
  cases t with
  | false =>
    have hp : ¬ (IsPrg p ∧ IsPrg q) := fun g => Bool.noConfusion (ht'.2 g.2)
    simp only [gw]
    exact zero _ _ h (by simp only [apRes, if_neg hp])
  | true =>
  have hq := ht'.1 rfl
  simp only [gw]
  refine Wi.fieldAddr0 (Wl.get h rfl (Wl.len h (Wi.fieldAddr0 (Wl.get h rfl (Wl.len h (Wi.neqC (fun hne => ?_) fun heq => ?_))))))
  · have hn : ¬ p.2.1.length = q.2.1.length := by omega
    simp only [gw]
    exact zero _ _ h (by simp only [apRes, if_pos (And.intro hp hq), if_neg hn])
  have hl : p.2.1.length = q.2.1.length := by omega
  simp only [apRes, if_pos (And.intro hp hq), if_pos hl] at hQ
  clear zero
  simp only [gw]
  have n1 := hp.n1; have nm := hp.nm; have dl := hp.dl; have al := hp.al
  have n1' := hq.n1; have nm' := hq.nm; have dl' := hq.dl; have al' := hq.al
  refine Wi.fieldAddr0 (Wl.get h rfl (Wi.fieldAddr0 (Wl.get h rfl (Wi.callQ (fn81 (h.rd (cs := [u2])) (h.rd (cs := [v2])) (by omega) hl (fun i h1 h2 => ?_) fun H w2 f2 => ⟨f2.le, ?_⟩)))))
  · have := hp.c _ (List.getElem_mem h1); have := hq.c _ (List.getElem_mem h2); unfold I64; omega
  have h := h.add f2
  -- the rows of both
  obtain ⟨bs3, q3⟩ := h.rd (cs := [u3])
  obtain ⟨bt3, q3'⟩ := h.rd (cs := [v3])
  refine Wi.fieldAddr0 (Wl.get h rfl (Wi.fieldAddr0 (Wl.get h rfl (Wi.lit (cells := [u3, v3]) (by simp [fillA, Has.one ⟨_, q3⟩, Has.one ⟨_, q3'⟩, reps]) fun H1 l1 n1'' k1 => ?_))))
  have h := h.to l1
  have hv : Has (Rd.slice RSS) H1 [.slice (some (adr _ 0)) 2 (2 * 2)] [p.2.2.1, q.2.2.1] := ⟨_, .inr ⟨_, 0, _, _, fun i => if i = 0 then bs3 else bt3, rfl, rfl, ⟨by omega, k1, by simp, by simp, by simp [Rd.slice], fun i hi => by
    match i, hi with
    | 0, _ => exact Rd.le _ q3 l1
    | 1, _ => exact Rd.le _ q3' l1⟩⟩⟩
  refine Wi.callQ (concat82 _ _ [p.2.2.1, q.2.2.1] _ hv (by simp; omega) fun H w j => ⟨j.le, ?_⟩)
  have eF : ([p.2.2.1, q.2.2.1] : List (List (List Int))).flatten = p.2.2.1 ++ q.2.2.1 := by simp
  have hj := j.read
  rw [eF] at hj
  have h := h.to j.le
  refine Wi.callQ (fn75 hj ⟨by simp; omega, fun r hr => ?_⟩ fun H w3 f3 => ⟨f3.le, ?_⟩)
  · rcases List.mem_append.1 hr with hr | hr
    · exact (okAA hp).2 r hr
    · exact (okAA hq).2 r hr
  have h := h.add f3.fresh
  -- the limits of both
  obtain ⟨bs4, q4⟩ := h.rd (cs := [u4])
  obtain ⟨bt4, q4'⟩ := h.rd (cs := [v4])
  refine Wi.fieldAddr0 (Wl.get h rfl (Wi.fieldAddr0 (Wl.get h rfl (Wi.lit (cells := [u4, v4]) (by simp [fillA, Has.one ⟨_, q4⟩, Has.one ⟨_, q4'⟩, reps]) fun H2 l2 n2'' k2 => ?_))))
  have h := h.to l2
  have hv2 : Has (Rd.slice RS) H2 [.slice (some (adr _ 0)) 2 (2 * 2)] [p.2.2.2, q.2.2.2] := ⟨_, .inr ⟨_, 0, _, _, fun i => if i = 0 then bs4 else bt4, rfl, rfl, ⟨by omega, k2, by simp, by simp, by simp [Rd.slice], fun i hi => by
    match i, hi with
    | 0, _ => exact Rd.le _ q4 l2
    | 1, _ => exact Rd.le _ q4' l2⟩⟩⟩
  refine Wi.callQ (concat83 _ _ [p.2.2.2, q.2.2.2] _ hv2 (by simp; omega) fun H w4 j4 => ⟨j4.le, ?_⟩)
  have eF4 : ([p.2.2.2, q.2.2.2] : List (List Int)).flatten = p.2.2.2 ++ q.2.2.2 := by simp
  rw [eF4] at j4
  have f4 := j4.plain.fresh
  have h := (h.add f4).nilG RS 25
  have c2 := f2.read.cell1; have c3 := f3.fresh.read.cell1; have c4 := f4.read.cell1
  refine Wi.build (cells := [.slice none 0 0, w2, w3, w4]) (by simp [fillA, f2.read.one, f3.fresh.read.one, f4.read.one]) (Wl.new h fun H b3 h => Wl.putA h rfl rfl (by simp only [List.all_cons, List.all_nil, Bool.and_true, c2, c3, c4]; rfl) fun H h => Wi.fieldAddr0 (Wl.get h rfl (Wl.len h ?_)))
  refine W.for_rule p.1.length (fun i s H => ∃ g, s = (.int .i64 (i : Nat), ()) ∧ Ab.Loc H0 [.box b3 [g, w2, w3, w4], .grow RS 25 g ((p.1.take i).mapIdx fun i r => addL r (q.1.getD i [])), .data RS [w4] (p.2.2.2 ++ q.2.2.2), .data RSS [w3] (p.2.2.1 ++ q.2.2.1), .data RS [w2] (addL p.2.1 q.2.1), .box b2 zCells4, .box bq [v1, v2, v3, v4], .box b [u1, u2, u3, u4], .lent RPrg [v1, v2, v3, v4] q, .lent RS [v4] q.2.2.2, .lent RSS [v3] q.2.2.1, .lent RS [v2] q.2.1, .lent RSS [v1] q.1, .lent RPrg [u1, u2, u3, u4] p, .lent RS [u4] p.2.2.2, .lent RSS [u3] p.2.2.1, .lent RS [u2] p.2.1, .lent RSS [u1] p.1] H) ⟨_, rfl, h⟩ ?_
  rintro i s H J hi ⟨g, rfl, h⟩ hJ
  refine Wi.lssC (fun hlt => Wi.tru ?_) fun hge => Wi.fls ?_
  · have hix : i < p.1.length := by omega
    have hiq : i < q.1.length := by omega
    have hd := hp.d _ (List.getElem_mem hix)
    have hd' := hq.d _ (List.getElem_mem hiq)
    refine Wl.at1 rfl h hix fun w hw => Wi.fieldAddr0 (Wl.get h rfl (Wi.fieldAddr0 (Wl.get h rfl (Wl.at1 rfl h hiq fun w' hw' => Wi.callQ (fn81 hw hw' (by omega) (by omega) (fun j h1 h2 => ?_) fun H r f => ⟨f.le, ?_⟩)))))
    · have := hd.2 _ (List.getElem_mem h1); have := hd'.2 _ (List.getElem_mem h2); unfold I64; omega
    refine Wl.pushF rfl h f f.read.one (by simp; omega) fun H g' h => Wi.fieldAddr0 (Wl.put h (h.rd (cs := [g'])).cell1 (by simp) fun H h => Wi.add (by unfold I64; omega) (hJ _ _ hix ⟨g', rfl, ?_⟩))
    have e : (p.1.take (i + 1)).mapIdx (fun i r => addL r (q.1.getD i [])) = (p.1.take i).mapIdx (fun i r => addL r (q.1.getD i [])) ++ [addL p.1[i] q.1[i]] := by
      have hm : min i p.1.length = i := by omega
      rw [List.take_succ_eq_append_getElem hix, List.mapIdx_append]
      simp [hm, List.getD_eq_getElem?_getD, List.getElem?_eq_getElem hiq]
    rw [e]
    exact h
  · have : i = p.1.length := by omega
    subst this
    rw [List.take_length] at h
    have h := h.asData (i := 1) rfl
    have kc : [g, w2, w3, w4].all isCell = true := by simp [c2, c3, c4, (h.rd (cs := [g])).cell1]
    have f := Loc.ret4 (p := addPrg p q) h (i1 := 1) (i2 := 4) (i3 := 3) (i4 := 2) rfl rfl rfl rfl (by decide)
    simp only [List.cons_append, List.nil_append] at f
    refine Wl.getA h rfl (Wi.call (fn76 f.read (add_w hp hq) (fun hs H l => ?_) fun hs H l => ?_))
    · have h := h.to l
      simp only [gw]
      refine Wl.putA (vs := [g, w2, w3, w4]) h rfl rfl kc fun H h => Wl.getA h rfl ?_
      have := hQ H [g, w2, w3, w4]
      simp only [limRes, if_pos hs] at this
      exact this (by
        have f := Loc.ret4 (p := addPrg p q) h (i1 := 1) (i2 := 4) (i3 := 3) (i4 := 2) rfl rfl rfl rfl (by decide)
        exact f)
    · have h := h.to l
      simp only [gw]
      refine Wl.putA (vs := zCells4) h rfl rfl rfl fun H h => Wl.getA h rfl ?_
      have := hQ H zCells4
      simp only [limRes, if_neg hs] at this
      exact this (fresh_nil4 h.le)

end Go.Proofs.YtdchibdcfdbcpaaGreat

/-! The contract of the reference's AddPrograms. No condition. -/
namespace Go.Proofs.YtdchibdcfdbcpaaGreat
open Go.Ab

/- loop.example/g01343/spec.AddPrograms -/
def f17.l2 (Q : Post) (v2 : Value) (v62 : Value) (i_7 : Value) (I1 : St [7] → Heap → Prop) (I2 : St [9] → Heap → Prop) (k_9 : Value) (H : Heap) : Prop :=
  W.fieldAddr 1 v2 H fun v63 H =>
  W.get v63 H fun v64 H =>
  W.len v64 H fun v65 H =>
  W.bin .lss k_9 v65 H fun v66 H =>
  W.cond v66 H
  (fun H => W.indexAddr 1 v62 k_9 H fun v67 H =>
   W.get v67 H fun v68 H =>
   W.fieldAddr 0 v2 H fun v69 H =>
   W.get v69 H fun v70 H =>
   W.indexAddr 1 v70 i_7 H fun v71 H =>
   W.get v71 H fun v72 H =>
   W.indexAddr 1 v72 k_9 H fun v73 H =>
   W.get v73 H fun v74 H =>
   W.bin .add v68 v74 H fun v75 H =>
   W.indexAddr 1 v62 k_9 H fun v76 H =>
   W.put v76 v75 H fun _ H =>
   W.bin .add k_9 (.int .i64 1) H fun v77 H =>
   I2 (v77, ()) H)
  (fun H => W.bin .add i_7 (.int .i64 1) H fun v78 H =>
   I1 (v78, ()) H)
def f17.l1 (Q : Post) (v2 : Value) (v42 : Value) (v3 : Value) (I1 : St [7] → Heap → Prop) (i_7 : Value) (H : Heap) : Prop :=
  W.fieldAddr 1 v2 H fun v43 H =>
  W.get v43 H fun v44 H =>
  W.len v44 H fun v45 H =>
  W.bin .lss i_7 v45 H fun v46 H =>
  W.cond v46 H
  (fun H => W.fieldAddr 1 v42 H fun v47 H =>
   W.get v47 H fun v48 H =>
   W.fieldAddr 1 v42 H fun v49 H =>
   W.get v49 H fun v50 H =>
   W.indexAddr 1 v50 i_7 H fun v51 H =>
   W.get v51 H fun v52 H =>
   W.fieldAddr 1 v2 H fun v53 H =>
   W.get v53 H fun v54 H =>
   W.indexAddr 1 v54 i_7 H fun v55 H =>
   W.get v55 H fun v56 H =>
   W.bin .add v52 v56 H fun v57 H =>
   W.indexAddr 1 v48 i_7 H fun v58 H =>
   W.put v58 v57 H fun _ H =>
   W.fieldAddr 0 v42 H fun v59 H =>
   W.get v59 H fun v60 H =>
   W.indexAddr 1 v60 i_7 H fun v61 H =>
   W.get v61 H fun v62 H =>
   W.loop (S := St [9]) (fun I2 s H => f17.l2 Q v2 v62 i_7 I1 I2 s.1 H) ((.int .i64 0), ()) H)
  (fun H => W.getN 4 v42 H fun v79 H =>
   W.call Tryz.prog (.func (.func 54) #[] #[]) #[v79] H fun v80 H =>
   W.un .not v80 H fun v81 H =>
   W.cond v81 H
   (fun H => W.build [(.slice none 0 0), (.slice none 0 0), (.slice none 0 0), (.slice none 0 0)] [] H fun v82 H =>
    W.putN 4 v3 v82 H fun _ H =>
    W.getN 4 v3 H fun v83 H => Q (.tuple #[v83, (.int .i64 3)]) H)
   (fun H => W.getN 4 v42 H fun v84 H =>
    W.putN 4 v3 v84 H fun _ H =>
    W.getN 4 v3 H fun v85 H => Q (.tuple #[v85, (.int .i64 0)]) H))
def f17.w (Q : Post) (p_0 : Value) (q_1 : Value) (H : Heap) : Prop :=
  W.box p_0 27 H fun v1 H =>
  W.box q_1 27 H fun v2 H =>
  W.new [(.slice none 0 0), (.slice none 0 0), (.slice none 0 0), (.slice none 0 0)] 27 H fun v3 H =>
  W.getN 4 v1 H fun v4 H =>
  W.call Tryz.prog (.func (.func 54) #[] #[]) #[v4] H fun v5 H =>
  W.un .not v5 H fun v6 H =>
  W.guarded v6 false (fun H k => W.getN 4 v2 H k) H fun v7 H =>
  W.guarded v6 false (fun H k => W.call Tryz.prog (.func (.func 54) #[] #[]) #[v7] H k) H fun v8 H =>
  W.guarded v6 false (fun H k => W.un .not v8 H k) H fun v9 H =>
  W.pick v6 (.bool true) v9 H fun v10 H =>
  W.cond v10 H
  (fun H => W.build [(.slice none 0 0), (.slice none 0 0), (.slice none 0 0), (.slice none 0 0)] [] H fun v11 H =>
   W.putN 4 v3 v11 H fun _ H =>
   W.getN 4 v3 H fun v12 H => Q (.tuple #[v12, (.int .i64 1)]) H)
  (fun H => W.fieldAddr 1 v1 H fun v13 H =>
   W.get v13 H fun v14 H =>
   W.len v14 H fun v15 H =>
   W.fieldAddr 1 v2 H fun v16 H =>
   W.get v16 H fun v17 H =>
   W.len v17 H fun v18 H =>
   W.bin .neq v15 v18 H fun v19 H =>
   W.cond v19 H
   (fun H => W.build [(.slice none 0 0), (.slice none 0 0), (.slice none 0 0), (.slice none 0 0)] [] H fun v20 H =>
    W.putN 4 v3 v20 H fun _ H =>
    W.getN 4 v3 H fun v21 H => Q (.tuple #[v21, (.int .i64 2)]) H)
   (fun H => W.fieldAddr 0 v1 H fun v22 H =>
    W.get v22 H fun v23 H =>
    W.callQ Tryz.prog (.func (.func 78) #[] #[]) #[v23] H fun v24 H =>
    W.fieldAddr 1 v1 H fun v25 H =>
    W.get v25 H fun v26 H =>
    W.callQ Tryz.prog (.func (.func 79) #[] #[]) #[v26] H fun v27 H =>
    W.fieldAddr 2 v1 H fun v28 H =>
    W.get v28 H fun v29 H =>
    W.callQ Tryz.prog (.func (.func 78) #[] #[]) #[v29] H fun v30 H =>
    W.fieldAddr 2 v2 H fun v31 H =>
    W.get v31 H fun v32 H =>
    W.callQ Tryz.prog (.func (.func 78) #[] #[]) #[v32] H fun v33 H =>
    (fun Hk12 => W.append 1 25 v30 v33 H fun v34 H =>
    W.fieldAddr 3 v1 H fun v35 H =>
    W.get v35 H fun v36 H =>
    W.chk (fun H k => W.get v35 H k) v36 Hk12 (W.callQ Tryz.prog (.func (.func 79) #[] #[]) #[v36] H fun v37 H =>
    W.fieldAddr 3 v2 H fun v38 H =>
    W.get v38 H fun v39 H =>
    W.chk (fun H k => W.get v38 H k) v39 Hk12 (W.append 1 2 v37 v39 H fun v40 H =>
    W.build [(.slice none 0 0), (.slice none 0 0), (.slice none 0 0), (.slice none 0 0)] [(0, 1, v24), (1, 1, v27), (2, 1, v34), (3, 1, v40)] H fun v41 H =>
    W.new [(.slice none 0 0), (.slice none 0 0), (.slice none 0 0), (.slice none 0 0)] 27 H fun v42 H =>
    W.putN 4 v42 v41 H fun _ H =>
    W.loop (S := St [7]) (fun I1 s H => f17.l1 Q v2 v42 v3 I1 s.1 H) ((.int .i64 0), ()) H))) H))
theorem f17.enter {Q : Post} {p_0 : Value} {q_1 : Value} {H : Heap} (h : f17.w Q p_0 q_1 H) : Runs Tryz.prog 17 #[p_0, q_1] H Q :=
  fn_enter (ann := [(7, [7]), (12, [9])]) (by kernel_rfl) Tryz.func17 rfl (by kernel_rfl) h (by kernel_rfl)


theorem fn17 {H0 : Heap} {Q : Post} {cs ds : List Value} {p q : Prg} (hr : Has RPrg H0 cs p) (hr' : Has RPrg H0 ds q) (hw : wPrg p ≤ 1048576) (hw' : wPrg q ≤ 1048576)
    (hQ : ∀ H' cs', Fresh RPrg H0 cs' (apRes p q).1 H' → Q (.tuple #[.agg cs'.toArray, .int .i64 (apRes p q).2]) H') : Runs Tryz.prog 17 #[.agg cs.toArray, .agg ds.toArray] H0 Q := by
  obtain ⟨u1, u2, u3, u4, rfl, r1, r2, r3, r4⟩ := hasPrg hr
  obtain ⟨v1, v2, v3, v4, rfl, s1, s2, s3, s4⟩ := hasPrg hr'
  refine f17.enter ?_
  unfold f17.w
  have h := ((((((((((Loc.start H0).lent r1).lent r2).lent r3).lent r4).lent hr).lent s1).lent s2).lent s3).lent s4).lent hr'
  refine Wl.box h fun H b h => Wl.box h fun H bq h => Wl.new h fun H b2 h => Wl.getA h rfl (Wi.call (fn54 (h.rd (cs := [u1, u2, u3, u4])) hw fun H t l ht => ?_))
  have h := h.to l
  have zero : ∀ (H : Heap) (c : Int), Ab.Loc H0 _ H → apRes p q = (zPrg, c) → W.build [.slice none 0 0, .slice none 0 0, .slice none 0 0, .slice none 0 0] [] H fun x H => W.putN 4 (pt b2 0) x H fun _ H => W.getN 4 (pt b2 0) H fun y H => Q (.tuple #[y, .int .i64 c]) H := fun H c h' e =>
    Wi.build (cells := zCells4) rfl (Wl.putA (b := b2) (L := [.box b2 zCells4, .box bq [v1, v2, v3, v4], .box b [u1, u2, u3, u4], .lent RPrg [v1, v2, v3, v4] q, .lent RS [v4] q.2.2.2, .lent RSS [v3] q.2.2.1, .lent RS [v2] q.2.1, .lent RSS [v1] q.1, .lent RPrg [u1, u2, u3, u4] p, .lent RS [u4] p.2.2.2, .lent RSS [u3] p.2.2.1, .lent RS [u2] p.2.1, .lent RSS [u1] p.1]) h' rfl rfl rfl fun H h => Wl.getA h rfl (by
      have := hQ H zCells4
      rw [e] at this
      exact this (fresh_nil4 h.le)))
  cases t with
  | false =>
    have hp : ¬ (IsPrg p ∧ IsPrg q) := fun g => Bool.noConfusion (ht.2 g.1)
    simp only [gw]
    exact zero _ _ h (by simp only [apRes, if_neg hp])
  | true =>
  have hp := ht.1 rfl
  simp only [g9, g4]
  refine Wl.getA h rfl (Wi.call (fn54 (h.rd (cs := [v1, v2, v3, v4])) hw' fun H t l ht' => ?_))
  have h := h.to l
  cases t with
  | false =>
    have hp : ¬ (IsPrg p ∧ IsPrg q) := fun g => Bool.noConfusion (ht'.2 g.2)
    simp only [gw]
    exact zero _ _ h (by simp only [apRes, if_neg hp])
  | true =>
  have hq := ht'.1 rfl
  simp only [gw]
  refine Wi.fieldAddr0 (Wl.get h rfl (Wl.len h (Wi.fieldAddr0 (Wl.get h rfl (Wl.len h (Wi.neqC (fun hne => ?_) fun heq => ?_))))))
  · have hn : ¬ p.2.1.length = q.2.1.length := by omega
    simp only [gw]
    exact zero _ _ h (by simp only [apRes, if_pos (And.intro hp hq), if_neg hn])
  have hl : p.2.1.length = q.2.1.length := by omega
  simp only [apRes, if_pos (And.intro hp hq), if_pos hl] at hQ
  clear zero
  simp only [gw]
  have n1 := hp.n1; have nm := hp.nm; have dl := hp.dl; have al := hp.al
  have n1' := hq.n1; have nm' := hq.nm; have dl' := hq.dl; have al' := hq.al
  refine Wi.fieldAddr0 (Wl.get h rfl (Wi.callQ (fn78 (h.rd (cs := [u1])) (okDD hp) fun H w1 f1 => ⟨f1.le, ?_⟩)))
  have h := h.add f1.fresh
  refine Wi.fieldAddr0 (Wl.get h rfl (Wi.callQ (fn79 (h.rd (cs := [u2])) (by omega) fun H w2 f2 => ⟨f2.le, ?_⟩)))
  have h := h.add f2.fresh
  refine Wi.fieldAddr0 (Wl.get h rfl (Wi.callQ (fn78 (h.rd (cs := [u3])) (okAA hp) fun H w3 f3 => ⟨f3.le, ?_⟩)))
  have h := h.addG f3
  refine Wi.fieldAddr0 (Wl.get h rfl (Wi.callQ (fn78 (h.rd (cs := [v3])) (okAA hq) fun H w3' f3' => ⟨f3'.le, ?_⟩)))
  have h := h.add f3'.fresh
  have hk := h
  refine Wl.appendO (r := RS) (v := w3) (y := w3') rfl h (by omega) (by omega) fun H w3 h => ?_
  refine Wi.fieldAddr0 (Wl.get h rfl (Wi.chk (Wl.get hk rfl ⟨rfl, rfl⟩) (Wi.callQ (fn79 (h.rd (cs := [u4])) (by omega) fun H w4 f4 => ⟨f4.le, ?_⟩))))
  have h := h.addG f4
  refine Wi.fieldAddr0 (Wl.get h rfl (Wi.chk (Wl.get hk rfl ⟨rfl, rfl⟩) (Wl.appendH (i := 0) rfl h rfl (h.rd (cs := [v4])) (by omega) fun H w4 h => ?_)))
  have h : Ab.Loc H0 [.grow Rd.int 2 w4 (p.2.2.2 ++ q.2.2.2), .emp, .grow RS 25 w3 (p.2.2.1 ++ q.2.2.1), .data RS [w2] p.2.1, .data RSS [w1] p.1, .box b2 zCells4, .box bq [v1, v2, v3, v4], .box b [u1, u2, u3, u4], .lent RPrg [v1, v2, v3, v4] q, .lent RS [v4] q.2.2.2, .lent RSS [v3] q.2.2.1, .lent RS [v2] q.2.1, .lent RSS [v1] q.1] H := h.first 13
  have c1 := f1.fresh.read.cell1; have c2 := f2.fresh.read.cell1
  have e3 := h.rd (cs := [w3]); have e4 := h.rd (cs := [w4])
  have c3 := e3.cell1; have c4 := e4.cell1
  have kc : [w1, w2, w3, w4].all isCell = true := by simp only [List.all_cons, List.all_nil, Bool.and_true, c1, c2, c3, c4]
  refine Wi.build (cells := [w1, w2, w3, w4]) (by simp [fillA, f1.fresh.read.one, f2.fresh.read.one, e3.one, e4.one]) (Wl.new h fun H b3 h => Wl.putA h rfl rfl kc fun H h => ?_)
  obtain ⟨us, hus, h⟩ := h.heads (i := 5) rfl rfl
  refine W.for_rule q.2.1.length (fun i s H => s = (.int .i64 (i : Nat), ()) ∧ Ab.Loc H0 [.box b3 [w1, w2, w3, w4], .grow Rd.int 2 w4 (p.2.2.2 ++ q.2.2.2), .emp, .grow RS 25 w3 (p.2.2.1 ++ q.2.2.1), .data RS [w2] (mapTo (fun i x => x + q.2.1.getD i 0) p.2.1 i), .rows RS w1 us (mapTo (fun i r => addL r (q.1.getD i [])) p.1 i), .box b2 zCells4, .box bq [v1, v2, v3, v4], .box b [u1, u2, u3, u4], .lent RPrg [v1, v2, v3, v4] q, .lent RS [v4] q.2.2.2, .lent RSS [v3] q.2.2.1, .lent RS [v2] q.2.1, .lent RSS [v1] q.1] H)
    ⟨rfl, by rw [mapTo_zero, mapTo_zero]; exact h⟩ ?_
  rintro i s H J hi ⟨rfl, h⟩ hJ
  have hl2 := mapTo_length (fun i x => x + q.2.1.getD i 0) p.2.1 i
  have hl3 := mapTo_length (fun i r => addL r (q.1.getD i [])) p.1 i
  refine Wi.fieldAddr0 (Wl.get h rfl (Wl.len h (Wi.lssC (fun hlt => Wi.tru ?_) fun hge => Wi.fls ?_)))
  · have hiq : i < q.2.1.length := by omega
    have hix : i < p.2.1.length := by omega
    have hid : i < p.1.length := by omega
    have hid' : i < q.1.length := by omega
    have hb1 := hp.c _ (List.getElem_mem hix)
    have hb2 := hq.c _ (List.getElem_mem hiq)
    have hs : I64 (p.2.1[i] + q.2.1[i]) := by unfold I64; omega
    refine Wi.fieldAddr0 (Wl.get h rfl (Wi.fieldAddr0 (Wl.get h rfl (Wl.atInt h (by omega) fun _ => Wi.fieldAddr0 (Wl.get h rfl (Wl.atInt h hiq fun _ => ?_))))))
    rw [mapTo_get hix]
    refine Wi.add hs (Wl.setInt h (by omega) hs fun H h => Wi.fieldAddr0 (Wl.get h rfl ?_))
    have eq2 : q.2.1.getD i 0 = q.2.1[i] := by rw [List.getD_eq_getElem?_getD, List.getElem?_eq_getElem hiq]; rfl
    have es : (mapTo (fun i x => x + q.2.1.getD i 0) p.2.1 i).set i (p.2.1[i] + q.2.1[i]) = mapTo (fun i x => x + q.2.1.getD i 0) p.2.1 (i + 1) := by
      rw [← mapTo_succ hix, eq2]
    rw [es] at h
    have hget := mapTo_get (f := fun i r => addL r (q.1.getD i [])) hid
    refine Wl.atRow rfl h (by omega) fun w hw _ => ?_
    have hd := hp.d _ (List.getElem_mem hid)
    have hd' := hq.d _ (List.getElem_mem hid')
    have eq1 : q.1.getD i [] = q.1[i] := by rw [List.getD_eq_getElem?_getD, List.getElem?_eq_getElem hid']; rfl
    refine W.for_rule q.2.1.length (fun j s H => s = (.int .i64 (j : Nat), ()) ∧ Ab.Loc H0 [.box b3 [w1, w2, w3, w4], .grow Rd.int 2 w4 (p.2.2.2 ++ q.2.2.2), .emp, .grow RS 25 w3 (p.2.2.1 ++ q.2.2.1), .data RS [w2] (mapTo (fun i x => x + q.2.1.getD i 0) p.2.1 (i + 1)), .rows RS w1 us ((mapTo (fun i r => addL r (q.1.getD i [])) p.1 i).set i (mapTo (fun j x => x + q.1[i].getD j 0) p.1[i] j)), .box b2 zCells4, .box bq [v1, v2, v3, v4], .box b [u1, u2, u3, u4], .lent RPrg [v1, v2, v3, v4] q, .lent RS [v4] q.2.2.2, .lent RSS [v3] q.2.2.1, .lent RS [v2] q.2.1, .lent RSS [v1] q.1] H)
      ⟨rfl, by rw [mapTo_zero, ← hget, List.set_getElem_self]; exact h⟩ ?_
    rintro j s H J2 hj ⟨rfl, h⟩ hJ2
    have ha : i < ((mapTo (fun i r => addL r (q.1.getD i [])) p.1 i).set i (mapTo (fun j x => x + q.1[i].getD j 0) p.1[i] j)).length := by rw [List.length_set]; omega
    have hg2 : ((mapTo (fun i r => addL r (q.1.getD i [])) p.1 i).set i (mapTo (fun j x => x + q.1[i].getD j 0) p.1[i] j))[i] = mapTo (fun j x => x + q.1[i].getD j 0) p.1[i] j := by simp
    have hl4 := mapTo_length (fun j x => x + q.1[i].getD j 0) p.1[i] j
    have hwr := h.row rfl (j := 5) rfl hw ha
    rw [hg2] at hwr
    refine Wi.fieldAddr0 (Wl.get h rfl (Wl.len h (Wi.lssC (fun hlt2 => Wi.tru ?_) fun hge2 => Wi.fls ?_)))
    · have hjx : j < p.1[i].length := by omega
      have hjq : j < q.1[i].length := by omega
      have hx1 := hd.2 _ (List.getElem_mem hjx)
      have hx2 := hd'.2 _ (List.getElem_mem hjq)
      have hs2 : I64 (p.1[i][j] + q.1[i][j]) := by unfold I64; omega
      refine Wl.atIntH hwr (by omega) fun _ => Wi.fieldAddr0 (Wl.get h rfl (Wl.at1 rfl h hid' fun x hx => Wl.atIntH hx hjq fun _ => ?_))
      rw [mapTo_get hjx]
      refine Wi.add hs2 (Wl.rowSet h (j := 5) rfl hw ha (by rw [hg2]; omega) hs2 fun H h => Wi.add (by unfold I64; omega) (hJ2 _ _ (by omega) ⟨rfl, ?_⟩))
      have es2 : (mapTo (fun j x => x + q.1[i].getD j 0) p.1[i] j).set j (p.1[i][j] + q.1[i][j]) = mapTo (fun j x => x + q.1[i].getD j 0) p.1[i] (j + 1) := by
        rw [← mapTo_succ hjx]
        congr 2
        rw [List.getD_eq_getElem?_getD, List.getElem?_eq_getElem hjq]; rfl
      rw [hg2, List.set_set, es2] at h
      exact h
    · have : j = p.1[i].length := by omega
      subst this
      refine Wi.add (by unfold I64; omega) (hJ _ _ hiq ⟨rfl, ?_⟩)
      rw [mapTo_all] at h
      have e : p.1[i].mapIdx (fun j x => x + q.1[i].getD j 0) = addL p.1[i] (q.1.getD i []) := by rw [eq1]; rfl
      rw [e, mapTo_succ (f := fun i r => addL r (q.1.getD i [])) hid] at h
      exact h
  · have : i = p.2.1.length := by omega
    subst this
    have e1 : mapTo (fun i r => addL r (q.1.getD i [])) p.1 p.2.1.length = (addPrg p q).1 := by
      rw [← dl, mapTo_all]
      rfl
    have e2 : mapTo (fun i x => x + q.2.1.getD i 0) p.2.1 p.2.1.length = (addPrg p q).2.1 := by
      rw [mapTo_all]
      rfl
    rw [e1, e2] at h
    have h := ((h.unrows (i := 5) rfl).asData (i := 1) rfl).asData (i := 3) rfl
    have f := Loc.ret4 (p := addPrg p q) h (i1 := 5) (i2 := 4) (i3 := 3) (i4 := 1) rfl rfl rfl rfl (by decide)
    simp only [List.cons_append, List.nil_append] at f
    refine Wl.getA h rfl (Wi.call (fn54 f.read (add_w hp hq) fun H t l ht => ?_))
    have h := h.to l
    cases t with
    | false =>
      have hs : ¬ IsPrg (addPrg p q) := fun g => Bool.noConfusion (ht.2 g)
      simp only [g7, g10]
      refine Wi.build (cells := zCells4) rfl (Wl.putA h rfl rfl rfl fun H h => Wl.getA h rfl ?_)
      have := hQ H zCells4
      simp only [limRes, if_neg hs] at this
      exact this (fresh_nil4 h.le)
    | true =>
      have hs := ht.1 rfl
      simp only [g8, g9]
      refine Wl.getA h rfl (Wl.putA (vs := [w1, w2, w3, w4]) h rfl rfl kc fun H h => Wl.getA h rfl ?_)
      have := hQ H [w1, w2, w3, w4]
      simp only [limRes, if_pos hs] at this
      exact this (by
        have f := Loc.ret4 (p := addPrg p q) h (i1 := 5) (i2 := 4) (i3 := 3) (i4 := 1) rfl rfl rfl rfl (by decide)
        exact f)

end Go.Proofs.YtdchibdcfdbcpaaGreat
