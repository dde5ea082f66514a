/- The contracts of negative and the program's DualProgram. No condition. -/
import Derived.Test.YtccppfpjiaafaaaJ2
import Derived.Test.YtccppfpjiaafaaaN3
import Derived.Test.YtccppfpjiaafaaaC2
namespace Go.Proofs.Ytccppfpjiaafaaa
open Go.Ab

/- loop.example/g01343/impl.negative -/
def f91.l1 (Q : Post) (v2 : Value) (v1 : Value) (I1 : St [10] → Heap → Prop) (x_10 : Value) (H : Heap) : Prop :=
  W.bin .lss x_10 v2 H fun v3 H =>
  W.cond v3 H
  (fun H => W.indexAddr 1 v1 x_10 H fun v4 H =>
   W.get v4 H fun v5 H =>
   W.un .neg v5 H fun v6 H =>
   W.indexAddr 1 v1 x_10 H fun v7 H =>
   W.put v7 v6 H fun _ H =>
   W.bin .add x_10 (.int .i64 1) H fun v8 H =>
   I1 (v8, ()) H)
  (fun H => Q v1 H)
def f91.w (Q : Post) (list_0 : Value) (H : Heap) : Prop :=
  W.call Try.prog (.func (.func 80) #[] #[]) #[list_0] H fun v1 H =>
  W.len v1 H fun v2 H =>
  W.loop (S := St [10]) (fun I1 s H => f91.l1 Q v2 v1 I1 s.1 H) ((.int .i64 0), ()) H
theorem f91.enter {Q : Post} {list_0 : Value} {H : Heap} (h : f91.w Q list_0 H) : Runs Try.prog 91 #[list_0] H Q :=
  fn_enter (ann := [(3, [10])]) (by kernel_rfl) Try.func91 rfl (by kernel_rfl) h (by kernel_rfl)

/- loop.example/g01343/impl.DualProgram -/
def f44.l2 (Q : Post) (v45 : Value) (v44 : Value) (v27 : Value) (v2 : Value) (I2 : St [49] → Heap → Prop) (x_49 : Value) (H : Heap) : Prop :=
  W.bin .lss x_49 v45 H fun v46 H =>
  W.cond v46 H
  (fun H => W.indexAddr 1 v44 x_49 H fun v47 H =>
   W.get v47 H fun v48 H =>
   W.fieldAddr 2 v27 H fun v49 H =>
   W.get v49 H fun v50 H =>
   W.callQ Try.prog (.func (.func 91) #[] #[]) #[v48] H fun v51 H =>
   W.lit 1 [(.slice none 0 0)] 23 [(0, 1, v51)] H fun v52 H =>
   W.append 1 23 v50 v52 H fun v53 H =>
   W.fieldAddr 2 v27 H fun v54 H =>
   W.put v54 v53 H fun _ H =>
   W.bin .add x_49 (.int .i64 1) H fun v55 H =>
   I2 (v55, ()) H)
  (fun H => W.getN 4 v27 H fun v56 H =>
   W.putN 4 v2 v56 H fun _ H =>
   W.getN 4 v2 H fun v57 H => Q (.tuple #[v57, (.int .i64 0)]) H)
def f44.l1 (Q : Post) (v30 : Value) (v27 : Value) (v1 : Value) (v2 : Value) (I1 : St [33] → Heap → Prop) (x_33 : Value) (H : Heap) : Prop :=
  W.bin .lss x_33 v30 H fun v31 H =>
  W.cond v31 H
  (fun H => W.fieldAddr 0 v27 H fun v32 H =>
   W.get v32 H fun v33 H =>
   W.fieldAddr 3 v1 H fun v34 H =>
   W.get v34 H fun v35 H =>
   W.len v35 H fun v36 H =>
   W.make [(.int .i64 0)] 2 v36 v36 H fun v37 H =>
   W.lit 1 [(.slice none 0 0)] 23 [(0, 1, v37)] H fun v38 H =>
   W.append 1 23 v33 v38 H fun v39 H =>
   W.fieldAddr 0 v27 H fun v40 H =>
   W.put v40 v39 H fun _ H =>
   W.bin .add x_33 (.int .i64 1) H fun v41 H =>
   I1 (v41, ()) H)
  (fun H => W.fieldAddr 2 v1 H fun v42 H =>
   W.get v42 H fun v43 H =>
   W.call Try.prog (.func (.func 92) #[] #[]) #[v43] H fun v44 H =>
   W.len v44 H fun v45 H =>
   W.loop (S := St [49]) (fun I2 s H => f44.l2 Q v45 v44 v27 v2 I2 s.1 H) ((.int .i64 0), ()) H)
def f44.w (Q : Post) (p_0 : Value) (H : Heap) : Prop :=
  W.box p_0 28 H fun v1 H =>
  W.new [(.slice none 0 0), (.slice none 0 0), (.slice none 0 0), (.slice none 0 0)] 28 H fun v2 H =>
  W.getN 4 v1 H fun v3 H =>
  W.call Try.prog (.func (.func 14) #[] #[]) #[v3] H fun v4 H =>
  W.un .not v4 H fun v5 H =>
  W.cond v5 H
  (fun H => W.build [(.slice none 0 0), (.slice none 0 0), (.slice none 0 0), (.slice none 0 0)] [] H fun v6 H =>
   W.putN 4 v2 v6 H fun _ H =>
   W.getN 4 v2 H fun v7 H => Q (.tuple #[v7, (.int .i64 1)]) H)
  (fun H => W.fieldAddr 2 v1 H fun v8 H =>
   W.get v8 H fun v9 H =>
   W.len v9 H fun v10 H =>
   W.bin .eql v10 (.int .i64 0) H fun v11 H =>
   W.guarded v11 false (fun H k => W.fieldAddr 0 v1 H k) H fun v12 H =>
   W.guarded v11 false (fun H k => W.get v12 H k) H fun v13 H =>
   W.guarded v11 false (fun H k => k (.func (.func 90) #[] #[v1]) H) H fun v14 H =>
   W.guarded v11 false (fun H k => W.call Try.prog (.func (.func 52) #[] #[]) #[v13, v14] H k) H fun v15 H =>
   W.guarded v11 false (fun H k => W.un .not v15 H k) H fun v16 H =>
   W.pick v11 (.bool true) v16 H fun v17 H =>
   W.cond v17 H
   (fun H => W.build [(.slice none 0 0), (.slice none 0 0), (.slice none 0 0), (.slice none 0 0)] [] H fun v18 H =>
    W.putN 4 v2 v18 H fun _ H =>
    W.getN 4 v2 H fun v19 H => Q (.tuple #[v19, (.int .i64 5)]) H)
   (fun H => W.fieldAddr 3 v1 H fun v20 H =>
    W.get v20 H fun v21 H =>
    W.callQ Try.prog (.func (.func 91) #[] #[]) #[v21] H fun v22 H =>
    W.fieldAddr 1 v1 H fun v23 H =>
    W.get v23 H fun v24 H =>
    W.callQ Try.prog (.func (.func 91) #[] #[]) #[v24] H fun v25 H =>
    W.build [(.slice none 0 0), (.slice none 0 0), (.slice none 0 0), (.slice none 0 0)] [(1, 1, v22), (3, 1, v25)] H fun v26 H =>
    W.new [(.slice none 0 0), (.slice none 0 0), (.slice none 0 0), (.slice none 0 0)] 28 H fun v27 H =>
    W.putN 4 v27 v26 H fun _ H =>
    W.fieldAddr 3 v1 H fun v28 H =>
    W.get v28 H fun v29 H =>
    W.len v29 H fun v30 H =>
    W.loop (S := St [33]) (fun I1 s H => f44.l1 Q v30 v27 v1 v2 I1 s.1 H) ((.int .i64 0), ()) H))
theorem f44.enter {Q : Post} {p_0 : Value} {H : Heap} (h : f44.w Q p_0 H) : Runs Try.prog 44 #[p_0] H Q :=
  fn_enter (ann := [(7, [33]), (11, [49])]) (by kernel_rfl) Try.func44 rfl (by kernel_rfl) h (by kernel_rfl)

/- loop.example/g01343/impl.DualProgram$1 -/
def f90.w (Q : Post) (i_0 : Value) (k_1 : Value) (x_2 : Value) (H : Heap) : Prop :=
  W.fieldAddr 0 x_2 H fun v1 H =>
  W.get v1 H fun v2 H =>
  W.indexAddr 1 v2 i_0 H fun v3 H =>
  W.get v3 H fun v4 H =>
  W.indexAddr 1 v4 k_1 H fun v5 H =>
  W.get v5 H fun v6 H =>
  W.bin .eql v6 (.int .i64 0) H fun v7 H =>
  Q v7 H
theorem f90.enter {Q : Post} {i_0 : Value} {k_1 : Value} {x_2 : Value} {H : Heap} (h : f90.w Q i_0 k_1 x_2 H) : Runs Try.prog 90 #[i_0, k_1, x_2] H Q :=
  fn_enter (ann := []) (by kernel_rfl) Try.func90 rfl (by kernel_rfl) h (by kernel_rfl)


theorem fn91 {H0 : Heap} {Q : Post} {v : Value} {xs : List Int} (hr : Has RS H0 [v] xs) (hlen : xs.length ≤ 16777216) (hx : ∀ x ∈ xs, I64 (-x)) (hQ : ∀ H' u, Fresh RS H0 [u] (neg xs) H' → Q u H') : Runs Try.prog 91 #[v] H0 Q := by
  refine f91.enter (Wi.call (fn80 hr hlen fun H u f => ?_))
  have h := (Loc.start H0).add f.fresh
  refine Wl.len h (W.for_rule xs.length (fun i s H => s = (.int .i64 (i : Nat), ()) ∧ Ab.Loc H0 [.data RS [u] (mapTo (fun _ x => -x) xs i)] H) ⟨rfl, by rw [mapTo_zero]; exact h⟩ ?_)
  rintro i s H J hi ⟨rfl, h⟩ hJ
  refine Wi.lssC (fun hlt => Wi.tru ?_) fun hge => Wi.fls ?_
  · have hix : i < xs.length := by omega
    have hl := mapTo_length (fun _ x => -x) xs i
    refine Wl.atInt h (by omega) fun _ => ?_
    rw [mapTo_get hix]
    refine Wi.neg (hx _ (List.getElem_mem hix)) (Wl.setInt h (by omega) (hx _ (List.getElem_mem hix)) fun H h => Wi.add (by unfold I64; omega) (hJ _ _ hix ⟨rfl, ?_⟩))
    rw [← mapTo_succ hix]
    exact h
  · have : i = xs.length := by omega
    subst this
    rw [mapTo_all, neg_idx] at h
    exact hQ _ _ (h.ret (i := 0) rfl)


theorem zeroD_allN {m : List (List Int)} {n : Nat} (h : ∀ r ∈ m, r.length = n) (hm : m.length = n) : (allN m.length fun i => allN m.length fun k => decide ((m.getD i []).getD k 0 = 0)) = true ↔ zeroD m := by
  rw [allN_iff]
  constructor
  · intro g r hr x hx
    obtain ⟨i, hi, rfl⟩ := List.mem_iff_getElem.1 hr
    obtain ⟨k, hk, rfl⟩ := List.mem_iff_getElem.1 hx
    have := h _ (List.getElem_mem hi)
    have := allN_iff.1 (g i hi) k (by omega)
    simpa [List.getD_eq_getElem?_getD, List.getElem?_eq_getElem hi, List.getElem?_eq_getElem hk] using this
  · intro g i hi
    refine allN_iff.2 fun k hk => ?_
    have h1 := h _ (List.getElem_mem hi)
    have hk2 : k < m[i].length := by omega
    have := g _ (List.getElem_mem hi) _ (List.getElem_mem hk2)
    simpa [List.getD_eq_getElem?_getD, List.getElem?_eq_getElem hi, List.getElem?_eq_getElem hk2] using this

theorem fn44 {H0 : Heap} {Q : Post} {cs : List Value} {p : Prg} (hr : Has RPrg H0 cs p) (hw : wPrg p ≤ 1048576) (hQ : ∀ H' cs', Fresh RPrg H0 cs' (dpRes p).1 H' → Q (.tuple #[.agg cs'.toArray, .int .i64 (dpRes p).2]) H') :
    Runs Try.prog 44 #[.agg cs.toArray] H0 Q := by
  obtain ⟨u1, u2, u3, u4, rfl, r1, r2, r3, r4⟩ := hasPrg hr
  refine f44.enter ?_
  unfold f44.w
  have h := (((((Loc.start H0).lent r1).lent r2).lent r3).lent r4).lent hr
  refine Wl.box h fun H b h => Wl.new h fun H b2 h => Wl.getA h rfl (Wi.call (fn14 (h.rd (cs := [u1, u2, u3, u4])) hw fun H t l ht => ?_))
  have h := h.to l
  have hzero : ∀ H c, H0.Le H → (dpRes p) = (zPrg, c) → Q (.tuple #[.agg zCells4.toArray, .int .i64 c]) H := fun H c l e => by
    have := hQ H zCells4
    rw [e] at this
    exact this (fresh_nil4 l)
  cases t with
  | false =>
    have hp : ¬ IsPrg p := fun g => Bool.noConfusion (ht.2 g)
    simp only [g7, g10]
    exact Wi.build (cells := zCells4) rfl (Wl.putA h rfl rfl rfl fun H h => Wl.getA h rfl (hzero _ _ h.le (by simp only [dpRes, if_neg hp])))
  | true =>
  have hp := ht.1 rfl
  simp only [g8, g9]
  have n1 := hp.n1; have nm := hp.nm; have dl := hp.dl; have al := hp.al
  refine Wi.fieldAddr0 (Wl.get h rfl (Wl.len h (Wi.eqlC (fun h0 => ?_) fun h0 => ?_)))
  · simp only [g3, g5, g7]
    exact Wi.build (cells := zCells4) rfl (Wl.putA h rfl rfl rfl fun H h => Wl.getA h rfl (hzero _ _ h.le (by
      simp only [dpRes, if_pos hp]
      rw [if_neg]
      omega)))
  simp only [g4, g6]
  refine Wi.fieldAddr0 (Wl.get h rfl (Wi.call (fn52 (p := fun i k => decide ((p.1.getD i []).getD k 0 = 0)) (h.rd (cs := [u1])) ?_ fun H l => ?_)))
  · intro H3 i k K l3 hi hk hK
    have hk2 : k < p.1[i].length := by have := hp.d _ (List.getElem_mem hi); omega
    have h := h.to l3
    refine Wi.callV (f90.enter (Wi.fieldAddr0 (Wl.get h rfl (Wl.at1 rfl h hi fun w1 hw1 => Wl.atIntH hw1 hk2 fun _ => Wi.eql ?_))))
    have := hK _ (.refl _)
    simp only [List.getD_eq_getElem?_getD, List.getElem?_eq_getElem hi, Option.getD_some, List.getElem?_eq_getElem hk2] at this
    have e2 : (p.1[i][k] == 0) = decide (p.1[i][k] = 0) := rfl
    rw [e2]
    exact this
  have h := h.to l
  have hz := zeroD_allN (fun r hr => (hp.d r hr).1) dl
  cases hc : (allN p.1.length fun i => allN p.1.length fun k => decide ((p.1.getD i []).getD k 0 = 0)) with
  | false =>
    simp only [g4, g6, g7, g10]
    exact Wi.build (cells := zCells4) rfl (Wl.putA h rfl rfl rfl fun H h => Wl.getA h rfl (hzero _ _ h.le (by
      simp only [dpRes, if_pos hp]
      rw [if_neg]
      rintro ⟨g, _⟩
      rw [hz.2 g] at hc
      cases hc)))
  | true =>
  have hz := hz.1 hc
  have hd : dpRes p = (dualPrg p, 0) := by
    simp only [dpRes, if_pos hp]
    rw [if_pos ⟨hz, by omega⟩]
  rw [hd] at hQ
  simp only [g4, g6, g8, g9]
  have nb : ∀ x ∈ p.2.2.2, I64 (-x) := fun x hx => by have := hp.b x hx; unfold I64; omega
  have nc : ∀ x ∈ p.2.1, I64 (-x) := fun x hx => by have := hp.c x hx; unfold I64; omega
  refine Wi.fieldAddr0 (Wl.get h rfl (Wi.callQ (fn91 (h.rd (cs := [u4])) (by omega) nb fun H w1 f1 => ⟨f1.le, ?_⟩)))
  have h := h.add f1
  refine Wi.fieldAddr0 (Wl.get h rfl (Wi.callQ (fn91 (h.rd (cs := [u2])) (by omega) nc fun H w2 f2 => ⟨f2.le, ?_⟩)))
  have h := (((h.add f2)).nilG RS 23).nilG RS 23
  have c1 := f1.read.cell1; have c2 := f2.read.cell1
  refine Wi.build (cells := [.slice none 0 0, w1, .slice none 0 0, w2]) (by simp [fillA, f1.read.one, f2.read.one]) (Wl.new h fun H b3 h => Wl.putA h rfl rfl (by simp [c1, c2]; rfl) fun H h => Wi.fieldAddr0 (Wl.get h rfl (Wl.len h ?_)))
  refine W.for_rule p.2.2.2.length (fun i s H => ∃ g, s = (.int .i64 (i : Nat), ()) ∧ Ab.Loc H0 [.box b3 [g, w1, .slice none 0 0, w2], .grow RS 23 g (List.replicate i (List.replicate p.2.2.2.length 0)), .grow RS 23 (.slice none 0 0) [], .data RS [w2] (neg p.2.1), .data RS [w1] (neg p.2.2.2), .box b2 zCells4, .box b [u1, u2, u3, u4], .lent RPrg [u1, u2, u3, u4] p, .lent RS [u4] p.2.2.2, .lent RSS [u3] p.2.2.1] H) ⟨_, rfl, h.first 10⟩ ?_
  rintro i s H J hi ⟨g, rfl, h⟩ hJ
  refine Wi.lssC (fun hlt => Wi.tru ?_) fun hge => Wi.fls ?_
  · refine Wi.fieldAddr0 (Wl.get h rfl (Wi.fieldAddr0 (Wl.get h rfl (Wl.len h (Wl.make (r := Rd.int) (z := 0) (fun _ => ⟨rfl, rfl, by unfold I64; omega⟩) h (by omega) (by decide) fun H w h => ?_)))))
    refine Wl.pushG (v := g) h (by simp; omega) fun H g' h => Wi.fieldAddr0 (Wl.put h (h.rd (cs := [g'])).cell1 (by simp) fun H h => Wi.add (by unfold I64; omega) (hJ _ _ (by omega) ⟨g', rfl, ?_⟩))
    rw [List.replicate_succ']
    exact h
  have : i = p.2.2.2.length := by omega
  subst this
  have hm : ∀ r ∈ p.2.2.1, r.length = p.2.1.length := fun r hr => (hp.a r hr).1
  refine Wi.fieldAddr0 (Wl.get h rfl (Wi.call (fn92 (n := p.2.1.length) (h.rd (cs := [u3])) (by omega) (by omega) (by omega) hm fun H t f => ?_)))
  have h := h.add f
  have htl : (turnM p.2.2.1 p.2.1.length).length = p.2.1.length := by simp [turnM]
  refine Wl.len h (W.for_rule p.2.1.length (fun i s H => ∃ g2, s = (.int .i64 (i : Nat), ()) ∧ Ab.Loc H0 [.data RSS [t] (turnM p.2.2.1 p.2.1.length), .box b3 [g, w1, g2, w2], .grow RS 23 g (List.replicate p.2.2.2.length (List.replicate p.2.2.2.length 0)), .grow RS 23 g2 (((turnM p.2.2.1 p.2.1.length).map neg).take i), .data RS [w2] (neg p.2.1), .data RS [w1] (neg p.2.2.2), .box b2 zCells4, .box b [u1, u2, u3, u4]] H) ⟨_, rfl, by simpa using h.first 8⟩ ?_)
  rintro i s H J hi ⟨g2, rfl, h⟩ hJ
  rw [htl]
  refine Wi.lssC (fun hlt => Wi.tru ?_) fun hge => Wi.fls ?_
  · have hix : i < (turnM p.2.2.1 p.2.1.length).length := by omega
    have hrow : (turnM p.2.2.1 p.2.1.length)[i].length = p.2.2.1.length := by simp [turnM]
    have hx : ∀ x ∈ (turnM p.2.2.1 p.2.1.length)[i], I64 (-x) := fun x hx => by
      simp only [turnM, List.getElem_map, List.mem_map, List.getElem_range] at hx
      obtain ⟨r, hr, rfl⟩ := hx
      have ha := hp.a r hr
      have hir : i < r.length := by omega
      have := ha.2 _ (List.getElem_mem hir)
      simp only [List.getD_eq_getElem?_getD, List.getElem?_eq_getElem hir, Option.getD_some]
      unfold I64
      omega
    refine Wl.at1 rfl h hix fun w hw => Wi.fieldAddr0 (Wl.get h rfl (Wi.callQ (fn91 hw (by omega) hx fun H r f => ⟨f.le, ?_⟩)))
    refine Wl.pushF (v := g2) rfl h f f.read.one (by simp; omega) fun H g' h => Wi.fieldAddr0 (Wl.put h (h.rd (cs := [g'])).cell1 (by simp) fun H h => Wi.add (by unfold I64; omega) (hJ _ _ (by omega) ⟨g', rfl, ?_⟩))
    have hix2 : i < ((turnM p.2.2.1 p.2.1.length).map neg).length := by simpa using hix
    rw [List.take_succ_eq_append_getElem hix2, List.getElem_map]
    exact h
  · have : i = p.2.1.length := by omega
    subst this
    rw [List.take_of_length_le (by simp [turnM])] at h
    have k1 := (h.rd (cs := [g])).cell1
    have k2 := (h.rd (cs := [g2])).cell1
    refine Wl.getA h rfl (Wl.putA h rfl rfl (by simp [c1, c2, k1, k2]) fun H h => Wl.getA h rfl (hQ _ _ ?_))
    have h := (h.asData (i := 2) rfl).asData (i := 3) rfl
    exact Loc.ret4 (p := dualPrg p) h (i1 := 2) (i2 := 5) (i3 := 3) (i4 := 4) rfl rfl rfl rfl (by decide)


end Go.Proofs.Ytccppfpjiaafaaa
