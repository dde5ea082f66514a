/- A game's problem, as a plain value; the contract of the program's. No condition. -/
import Derived.Test.YtbcfknboheghkaaGM0
import Derived.Test.YtbcfknboheghkaaRP
import Derived.Test.YtbcfknboheghkaaZabG9
namespace Go.Proofs.Ytbcfknboheghkaa
open Go.Ab

/- (loop.example/g01343/impl.Game).sizes -/
def f24.w (Q : Post) (g_0 : Value) (H : Heap) : Prop :=
  W.box g_0 29 H fun v1 H =>
  W.fieldAddr 0 v1 H fun v2 H =>
  W.get v2 H fun v3 H =>
  W.len v3 H fun v4 H =>
  W.fieldAddr 0 v1 H fun v5 H =>
  W.get v5 H fun v6 H =>
  W.indexAddr 1 v6 (.int .i64 0) H fun v7 H =>
  W.get v7 H fun v8 H =>
  W.len v8 H fun v9 H =>
  Q (.tuple #[v4, v9]) H
theorem f24.enter {Q : Post} {g_0 : Value} {H : Heap} (h : f24.w Q g_0 H) : Runs Try.prog 24 #[g_0] H Q :=
  fn_enter (ann := []) (by kernel_rfl) Try.func24 rfl (by kernel_rfl) h (by kernel_rfl)

/- (loop.example/g01343/impl.Game).problem -/
def f27.l3 (Q : Post) (v6 : Value) (v11 : Value) (x_35 : Value) (v5 : Value) (v1 : Value) (I2 : St [35] → Heap → Prop) (I3 : St [39] → Heap → Prop) (x_39 : Value) (H : Heap) : Prop :=
  W.bin .lss x_39 v6 H fun v23 H =>
  W.cond v23 H
  (fun H => W.fieldAddr 0 v11 H fun v24 H =>
   W.get v24 H fun v25 H =>
   W.indexAddr 1 v25 x_35 H fun v26 H =>
   W.get v26 H fun v27 H =>
   W.bin .add v5 x_39 H fun v28 H =>
   W.fieldAddr 0 v1 H fun v29 H =>
   W.get v29 H fun v30 H =>
   W.indexAddr 1 v30 x_35 H fun v31 H =>
   W.get v31 H fun v32 H =>
   W.indexAddr 1 v32 x_39 H fun v33 H =>
   W.get v33 H fun v34 H =>
   W.un .neg v34 H fun v35 H =>
   W.indexAddr 1 v27 v28 H fun v36 H =>
   W.put v36 v35 H fun _ H =>
   W.fieldAddr 0 v11 H fun v37 H =>
   W.get v37 H fun v38 H =>
   W.bin .add v5 x_39 H fun v39 H =>
   W.indexAddr 1 v38 v39 H fun v40 H =>
   W.get v40 H fun v41 H =>
   W.fieldAddr 1 v1 H fun v42 H =>
   W.get v42 H fun v43 H =>
   W.indexAddr 1 v43 x_35 H fun v44 H =>
   W.get v44 H fun v45 H =>
   W.indexAddr 1 v45 x_39 H fun v46 H =>
   W.get v46 H fun v47 H =>
   W.un .neg v47 H fun v48 H =>
   W.indexAddr 1 v41 x_35 H fun v49 H =>
   W.put v49 v48 H fun _ H =>
   W.bin .add x_39 (.int .i64 1) H fun v50 H =>
   I3 (v50, ()) H)
  (fun H => W.bin .add x_35 (.int .i64 1) H fun v51 H =>
   I2 (v51, ()) H)
def f27.l2 (Q : Post) (v5 : Value) (v6 : Value) (v11 : Value) (v1 : Value) (v2 : Value) (I2 : St [35] → Heap → Prop) (x_35 : Value) (H : Heap) : Prop :=
  W.bin .lss x_35 v5 H fun v22 H =>
  W.cond v22 H
  (fun H => W.loop (S := St [39]) (fun I3 s H => f27.l3 Q v6 v11 x_35 v5 v1 I2 I3 s.1 H) ((.int .i64 0), ()) H)
  (fun H => W.getN 2 v11 H fun v52 H =>
   W.putN 2 v2 v52 H fun _ H =>
   W.getN 2 v2 H fun v53 H => Q v53 H)
def f27.l1 (Q : Post) (v12 : Value) (v11 : Value) (v5 : Value) (v6 : Value) (v1 : Value) (v2 : Value) (I1 : St [22] → Heap → Prop) (x_22 : Value) (H : Heap) : Prop :=
  W.bin .lss x_22 v12 H fun v13 H =>
  W.cond v13 H
  (fun H => W.fieldAddr 0 v11 H fun v14 H =>
   W.get v14 H fun v15 H =>
   W.bin .add v5 v6 H fun v16 H =>
   W.make [(.int .i64 0)] 2 v16 v16 H fun v17 H =>
   W.lit 1 [(.slice none 0 0)] 38 [(0, 1, v17)] H fun v18 H =>
   W.append 1 38 v15 v18 H fun v19 H =>
   W.fieldAddr 0 v11 H fun v20 H =>
   W.put v20 v19 H fun _ H =>
   W.bin .add x_22 (.int .i64 1) H fun v21 H =>
   I1 (v21, ()) H)
  (fun H => W.loop (S := St [35]) (fun I2 s H => f27.l2 Q v5 v6 v11 v1 v2 I2 s.1 H) ((.int .i64 0), ()) H)
def f27.w (Q : Post) (g_0 : Value) (H : Heap) : Prop :=
  W.box g_0 29 H fun v1 H =>
  W.new [(.slice none 0 0), (.slice none 0 0)] 40 H fun v2 H =>
  W.getN 2 v1 H fun v3 H =>
  W.call Try.prog (.func (.func 24) #[] #[]) #[v3] H fun v4 H =>
  W.extract 0 v4 H fun v5 H =>
  W.extract 1 v4 H fun v6 H =>
  W.lit 1 [(.int .i64 0)] 2 [(0, 1, (.int .i64 1))] H fun v7 H =>
  W.bin .add v5 v6 H fun v8 H =>
  W.call Try.prog (.func (.func 43) #[] #[]) #[v7, v8] H fun v9 H =>
  W.build [(.slice none 0 0), (.slice none 0 0)] [(1, 1, v9)] H fun v10 H =>
  W.new [(.slice none 0 0), (.slice none 0 0)] 40 H fun v11 H =>
  W.putN 2 v11 v10 H fun _ H =>
  W.bin .add v5 v6 H fun v12 H =>
  W.loop (S := St [22]) (fun I1 s H => f27.l1 Q v12 v11 v5 v6 v1 v2 I1 s.1 H) ((.int .i64 0), ()) H
theorem f27.enter {Q : Post} {g_0 : Value} {H : Heap} (h : f27.w Q g_0 H) : Runs Try.prog 27 #[g_0] H Q :=
  fn_enter (ann := [(4, [22]), (8, [35]), (11, [39])]) (by kernel_rfl) Try.func27 rfl (by kernel_rfl) h (by kernel_rfl)


abbrev nG (g : Game) : Nat := g.1.length + lw g
def gmE (g : Game) (r c : Nat) : Int := if r < g.1.length ∧ g.1.length ≤ c then -(mAt g.1 r (c - g.1.length)) else if g.1.length ≤ r ∧ c < g.1.length then -(mAt g.2 c (r - g.1.length)) else 0
def gmP (g : Game) : Prob := (tabL (nG g) (gmE g), List.replicate (nG g) 1)
noncomputable def gmRes (g : Game) : Prob × Int := open Classical in if IsGm g then (gmP g, 0) else (([], []), 1)

theorem tabL_len (n : Nat) (f : Nat → Nat → Int) : (tabL n f).length = n := by simp [tabL]
theorem tabL_row {n : Nat} {f : Nat → Nat → Int} {r : Nat} (h : r < (tabL n f).length) : (tabL n f)[r] = (List.range n).map (f r) := by simp [tabL]
theorem tabL_congr {n : Nat} {f g : Nat → Nat → Int} (h : ∀ r c, r < n → c < n → f r c = g r c) : tabL n f = tabL n g :=
  List.map_congr_left fun r hr => List.map_congr_left fun c hc => h r c (by simpa using hr) (by simpa using hc)

theorem range_set2 {n x : Nat} {f g : Nat → Int} {y : Int} (h : g x = y) (hk : ∀ k, k < n → k ≠ x → g k = f k) : ((List.range n).map f).set x y = (List.range n).map g := by
  apply List.ext_getElem
  · simp
  · intro k h1 h2
    have hkn : k < n := by simpa using h2
    rw [List.getElem_set]
    simp only [List.getElem_map, List.getElem_range]
    by_cases e : x = k
    · subst e; rw [if_pos rfl, h]
    · rw [if_neg e, hk k hkn (fun g => e g.symm)]

theorem tabL_set {n r c : Nat} {f g : Nat → Nat → Int} {y : Int} (hr : r < (tabL n f).length) (h : g r c = y) (hk : ∀ a b, a < n → b < n → ¬ (a = r ∧ b = c) → g a b = f a b) : (tabL n f).set r ((tabL n f)[r].set c y) = tabL n g := by
  have hrn : r < n := by rw [tabL_len] at hr; exact hr
  rw [tabL_row hr, range_set2 (g := g r) h fun k hkn hne => hk r k hrn hkn fun e => hne e.2]
  apply List.ext_getElem
  · simp [tabL]
  · intro k h1 h2
    have hkn : k < n := by simpa [tabL] using h2
    rw [List.getElem_set]
    by_cases e : r = k
    · subst e; rw [if_pos rfl, tabL_row]
    · rw [if_neg e, tabL_row, tabL_row]
      exact List.map_congr_left fun b hb => (hk k b hkn (by simpa using hb) fun q => e q.1.symm).symm

/-- What is written ahead of the j-th number of the i-th row. -/
def wr (k i j r c : Nat) : Prop := (r < k ∧ k ≤ c ∧ (r < i ∨ r = i ∧ c - k < j)) ∨ (k ≤ r ∧ c < k ∧ (c < i ∨ c = i ∧ r - k < j))
instance (k i j r c : Nat) : Decidable (wr k i j r c) := by unfold wr; infer_instance
def gmF (g : Game) (i j : Nat) : Nat → Nat → Int := fun r c => if wr g.1.length i j r c then gmE g r c else 0
/-- The same between the two numbers. -/
def gmF1 (g : Game) (i j : Nat) : Nat → Nat → Int := fun r c => if wr g.1.length i j r c ∨ (r = i ∧ c = g.1.length + j) then gmE g r c else 0

theorem gmF_zero (g : Game) : tabL (nG g) (gmF g 0 0) = List.replicate (nG g) (List.replicate (nG g) 0) := by
  have : tabL (nG g) (gmF g 0 0) = tabL (nG g) fun _ _ => 0 := tabL_congr fun r c _ _ => by
    unfold gmF
    rw [if_neg (by unfold wr; omega)]
  rw [this]
  simp [tabL, List.map_const']
theorem gmF_next {g : Game} (i : Nat) : tabL (nG g) (gmF g i (lw g)) = tabL (nG g) (gmF g (i + 1) 0) := tabL_congr fun r c hr hc => by
  have hnn : nG g = g.1.length + lw g := rfl
  have : wr g.1.length i (lw g) r c ↔ wr g.1.length (i + 1) 0 r c := by unfold wr; omega
  simp only [gmF, this]
theorem gmF_all (g : Game) : tabL (nG g) (gmF g g.1.length 0) = tabL (nG g) (gmE g) := tabL_congr fun r c hr hc => by
  unfold gmF
  split
  · rfl
  · rename_i h
    have hnn : nG g = g.1.length + lw g := rfl
    unfold wr at h
    unfold gmE
    rw [if_neg (by omega), if_neg (by omega)]

theorem gmE_abs {g : Game} (h : IsGm g) (r c : Nat) : (gmE g r c).natAbs ≤ 20 := by
  have q : ∀ (m : List (List Int)) (_ : ∀ r ∈ m, r.length = lw g ∧ ∀ x ∈ r, 1 ≤ x ∧ x ≤ 20) (a b : Nat), (mAt m a b).natAbs ≤ 20 := fun m hm a b => by
    simp only [mAt, List.getD_eq_getElem?_getD]
    cases e1 : m[a]? with
    | none => simp
    | some row =>
      simp only [Option.getD_some]
      cases e2 : row[b]? with
      | none => simp
      | some x =>
        have := (hm row (List.mem_of_getElem? e1)).2 x (List.mem_of_getElem? e2)
        simp only [Option.getD_some]
        omega
  unfold gmE
  split
  · rw [Int.natAbs_neg]; exact q _ h.a _ _
  · split
    · rw [Int.natAbs_neg]; exact q _ h.b _ _
    · decide

theorem fn27 {H0 : Heap} {Q : Post} {cs : List Value} {g : Game} (hr : Has RGame H0 cs g) (hg : IsGm g) (hQ : ∀ H' w1 w2, Fresh RProblem H0 [w1, w2] (gmP g) H' → Q (.agg #[w1, w2]) H') : Runs Try.prog 27 #[.agg cs.toArray] H0 Q := by
  obtain ⟨u1, u2, rfl, r1, r2⟩ := hasGame hr
  have k1 := hg.k1; have k4 := hg.k4; have l1 := hg.l1; have l4 := hg.l4; have kl := hg.kl; have bl := hg.bl
  have hk0 : 0 < g.1.length := by omega
  have hlw := lw_at hk0
  have h := ((Loc.start H0).lent r1).lent r2
  refine f27.enter ?_
  unfold f27.w
  refine Wl.box h fun H b h => Wl.new h fun H b2 h => Wl.getA h rfl (Wi.call (f24.enter (Wl.box h fun H b3 h => Wi.fieldAddr0 (Wl.get h rfl (Wl.len h (Wi.fieldAddr0 (Wl.get h rfl (Wl.at1 (i := 0) rfl h hk0 fun w hw => Wl.lenH hw ?_))))))))
  rw [← hlw]
  have h := h.tl
  simp only [gw]
  have hkl : ((g.1.length : Nat) : Int) + ((lw g : Nat) : Int) = ((nG g : Nat) : Int) := by simp [nG]
  have hn5 : nG g ≤ 5 := kl
  have hn2 : 2 ≤ nG g := by show 2 ≤ g.1.length + lw g; omega
  refine Wi.lit (cells := [.int .i64 1]) rfl fun H1 le1 n1' kk1 => ?_
  have h := h.to le1
  have hv : Has RS H1 [.slice (some (adr _ 0)) 1 (2 * 1)] [1] := ⟨_, .inr ⟨_, 0, _, _, fun _ => [], rfl, rfl, ⟨by omega, kk1, by simp, by simp, by simp [Rd.int], fun i hi => by
    match i, hi with
    | 0, _ => exact ⟨rfl, rfl, show I64 1 by unfold I64; omega⟩⟩⟩⟩
  refine Wi.add (by unfold I64; omega) ?_
  rw [hkl]
  refine Wi.call (fn43 (n := nG g) hv (by omega) (by omega) fun H q f => ?_)
  have h := (h.addG f).nilG RS 38
  have kq := f.fresh.read
  refine Wi.build (cells := [.slice none 0 0, q]) (by simp [fillA, kq.one]) (Wl.new h fun H b3 h => Wl.putA h rfl rfl (by have := kq.cell; simpa [isCell] using this) fun H h => Wi.add (by unfold I64; omega) ?_)
  rw [hkl]
  have kall : ∀ (m : Value) (H : Heap) (xs : List (List Int)), Has RSS H [m] xs → [m, q].all isCell = true := fun m H xs hg => by
    have k1 := hg.cell
    have k3 := kq.cell
    simp only [List.all_cons, List.all_nil, Bool.and_true] at k1 k3 ⊢
    rw [k1, k3]
    rfl
  refine W.for_rule (nG g) (fun x st H => ∃ m, st = (.int .i64 (x : Nat), ()) ∧ Ab.Loc H0 [.box b3 [m, q], .grow RS 38 m (List.replicate x (List.replicate (nG g) 0)), .grow Rd.int 2 q (List.replicate (nG g) 1), .box b2 [.slice none 0 0, .slice none 0 0], .box b [u1, u2], .lent RSS [u2] g.2, .lent RSS [u1] g.1] H) ⟨_, rfl, h⟩ ?_
  rintro x st H J hx ⟨m, rfl, h⟩ hJ
  refine Wi.lssC (fun hlt => Wi.tru ?_) fun hge => Wi.fls ?_
  · have hxn : x < nG g := by omega
    refine Wi.fieldAddr0 (Wl.get h rfl (Wi.add (by unfold I64; omega) ?_))
    rw [hkl]
    refine Wl.make (r := Rd.int) (z := 0) (m := nG g) (fun _ => ⟨rfl, rfl, by unfold I64; omega⟩) h (by omega) (by decide) fun H u h => Wl.pushG h (by simp; omega) fun H m' h => Wi.fieldAddr0 (Wl.put h (h.rd (cs := [m'])).cell1 (by simp) fun H h => Wi.add (by unfold I64; omega) (hJ _ _ hxn ⟨m', rfl, ?_⟩))
    rw [← List.replicate_succ'] at h
    exact h
  have hxe : x = nG g := by omega
  rw [hxe, ← gmF_zero] at h
  have h := (h.asData (i := 1) rfl).asData (i := 2) rfl
  obtain ⟨us, hus, h⟩ := h.heads (i := 1) rfl rfl
  rw [tabL_len] at hus
  refine W.for_rule g.1.length (fun i st H => st = (.int .i64 (i : Nat), ()) ∧ Ab.Loc H0 [.box b3 [m, q], .rows RS m us (tabL (nG g) (gmF g i 0)), .data RS [q] (List.replicate (nG g) 1), .box b2 [.slice none 0 0, .slice none 0 0], .box b [u1, u2], .lent RSS [u2] g.2, .lent RSS [u1] g.1] H) ⟨rfl, h⟩ ?_
  rintro i st H J2 hi ⟨rfl, h⟩ hJ2
  refine Wi.lssC (fun hlt2 => Wi.tru ?_) fun hge2 => Wi.fls ?_
  · have hik : i < g.1.length := by omega
    have hib : i < g.2.length := by omega
    have ha := hg.a _ (List.getElem_mem hik)
    have hb := hg.b _ (List.getElem_mem hib)
    refine W.for_rule (lw g) (fun j st H => st = (.int .i64 (j : Nat), ()) ∧ Ab.Loc H0 [.box b3 [m, q], .rows RS m us (tabL (nG g) (gmF g i j)), .data RS [q] (List.replicate (nG g) 1), .box b2 [.slice none 0 0, .slice none 0 0], .box b [u1, u2], .lent RSS [u2] g.2, .lent RSS [u1] g.1] H) ⟨rfl, h⟩ ?_
    rintro j st H J3 hj ⟨rfl, h⟩ hJ3
    refine Wi.lssC (fun hlt3 => Wi.tru ?_) fun hge3 => Wi.fls ?_
    · have hjl : j < lw g := by omega
      have hja : j < g.1[i].length := by omega
      have hjb : j < g.2[i].length := by omega
      have va := ha.2 _ (List.getElem_mem hja)
      have vb := hb.2 _ (List.getElem_mem hjb)
      have ekj : ((g.1.length : Nat) : Int) + ((j : Nat) : Int) = ((g.1.length + j : Nat) : Int) := by simp
      have hnn : nG g = g.1.length + lw g := rfl
      have tl := tabL_len (nG g) (gmF g i j)
      have hrow : i < (tabL (nG g) (gmF g i j)).length := by omega
      have eA : gmE g i (g.1.length + j) = -g.1[i][j] := by
        unfold gmE
        rw [if_pos ⟨hik, by omega⟩, show g.1.length + j - g.1.length = j by omega, mAt_at hik hja]
      have eB : gmE g (g.1.length + j) i = -g.2[i][j] := by
        unfold gmE
        rw [if_neg (by omega), if_pos ⟨by omega, hik⟩, show g.1.length + j - g.1.length = j by omega, mAt_at hib hjb]
      refine Wi.fieldAddr0 (Wl.get h rfl (Wl.atRow rfl h hrow fun w hw _ => Wi.add (by unfold I64; omega) ?_))
      rw [ekj]
      refine Wi.fieldAddr0 (Wl.get h rfl (Wl.at1 rfl h hik fun wa hwa => Wl.atIntH hwa hja fun _ => Wi.neg (by unfold I64; omega) (Wl.rowSet h (j := 1) rfl hw hrow (by rw [tabL_row]; simp; omega) (by unfold I64; omega) fun H h => ?_)))
      rw [tabL_set (g := gmF1 g i j) hrow (by unfold gmF1; rw [if_pos (.inr ⟨rfl, rfl⟩), eA]) fun a b _ _ hne => by
        unfold gmF1 gmF
        by_cases hw : wr g.1.length i j a b
        · rw [if_pos (.inl hw), if_pos hw]
        · rw [if_neg (fun q => q.elim hw hne), if_neg hw]] at h
      have tl1 := tabL_len (nG g) (gmF1 g i j)
      have hrow1 : g.1.length + j < (tabL (nG g) (gmF1 g i j)).length := by omega
      refine Wi.fieldAddr0 (Wl.get h rfl (Wi.add (by unfold I64; omega) ?_))
      rw [ekj]
      refine Wl.atRow rfl h hrow1 fun w2 hw2 _ => Wi.fieldAddr (Wl.get h rfl (Wl.at1 rfl h hib fun wb hwb => Wl.atIntH hwb hjb fun _ => Wi.neg (by unfold I64; omega) (Wl.rowSet h (j := 1) rfl hw2 hrow1 (by rw [tabL_row]; simp; omega) (by unfold I64; omega) fun H h => ?_)))
      rw [tabL_set (g := gmF g i (j + 1)) hrow1 (by unfold gmF; rw [if_pos (by unfold wr; omega), eB]) fun a b _ _ hne => by
        have : wr g.1.length i (j + 1) a b ↔ wr g.1.length i j a b ∨ (a = i ∧ b = g.1.length + j) := by unfold wr; omega
        simp only [gmF1, gmF, this]] at h
      exact Wi.add (by unfold I64; omega) (hJ3 _ _ hjl ⟨rfl, h⟩)
    · have : j = lw g := by omega
      subst this
      rw [gmF_next] at h
      exact Wi.add (by unfold I64; omega) (hJ2 _ _ hik ⟨rfl, h⟩)
  · have : i = g.1.length := by omega
    subst this
    rw [gmF_all] at h
    have h := h.unrows (i := 1) rfl
    refine Wl.getA h rfl (Wl.putA h rfl rfl (kall _ _ _ (h.rd (cs := [m]))) fun H h => Wl.getA h rfl (hQ _ _ _ ?_))
    exact h.ret2 (i := 1) (j := 2) rfl rfl (by omega)

end Go.Proofs.Ytbcfknboheghkaa
