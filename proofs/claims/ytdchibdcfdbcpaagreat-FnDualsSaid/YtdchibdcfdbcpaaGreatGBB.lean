/- Contracts of l01Own and slices.Clone. No condition. -/
import Derived.Test.YtdchibdcfdbcpaaGreatGAA
import Derived.Test.YtdchibdcfdbcpaaGreatZabG5
namespace Go.Proofs.YtdchibdcfdbcpaaGreat
open Go.Ab

/- slices.Clone[[]int64,int64] -/
def f74.w (Q : Post) (s_0 : Value) (H : Heap) : Prop :=
  W.eqNilR .eql s_0 (.slice none 0 0) H fun v1 H =>
  W.cond v1 H
  (fun H => Q (.slice none 0 0) H)
  (fun H => W.lit 0 [(.int .i64 0)] 2 [] H fun v2 H =>
   W.append 1 2 v2 s_0 H fun v3 H =>
   Q v3 H)
theorem f74.enter {Q : Post} {s_0 : Value} {H : Heap} (h : f74.w Q s_0 H) : Runs Tryz.prog 74 #[s_0] H Q :=
  fn_enter (ann := []) (by kernel_rfl) Tryz.func74 rfl (by kernel_rfl) h (by kernel_rfl)


theorem fn74 {H0 : Heap} {Q : Post} {v : Value} {xs : List Int} (hr : Has RS H0 [v] xs) (hlen : xs.length ≤ 16777216) (hQ : ∀ H' u, FreshG Rd.int 2 H0 u xs H' → Q u H') : Runs Tryz.prog 74 #[v] H0 Q := by
  refine f74.enter (Wl.isNilH hr (fun e => Wi.tru ?_) (Wi.fls ?_))
  · subst e
    exact hQ _ _ ((((Loc.start H0).nilG Rd.int 2)).retGG (i := 0) rfl)
  · exact Wl.lit0 Rd.int rfl ((Loc.start H0).lent hr) fun H u h => Wl.appendH (i := 0) rfl h rfl h.rd (by simpa using hlen) fun H' v' h => hQ _ _ (h.retGG (i := 0) rfl)

end Go.Proofs.YtdchibdcfdbcpaaGreat
/-! The contract of copyRows. No condition. -/
namespace Go.Proofs.YtdchibdcfdbcpaaGreat
open Go.Ab

/- loop.example/g01343/impl.copyRows -/
def f75.l1 (Q : Post) (v1 : Value) (rows_0 : Value) (I1 : St [3, 8] → Heap → Prop) (out_3 : Value) (x_8 : Value) (H : Heap) : Prop :=
  W.bin .lss x_8 v1 H fun v2 H =>
  W.cond v2 H
  (fun H => W.indexAddr 1 rows_0 x_8 H fun v3 H =>
   W.get v3 H fun v4 H =>
   W.call Tryz.prog (.func (.func 74) #[] #[]) #[v4] H fun v5 H =>
   W.lit 1 [(.slice none 0 0)] 25 [(0, 1, v5)] H fun v6 H =>
   W.append 1 25 out_3 v6 H fun v7 H =>
   W.bin .add x_8 (.int .i64 1) H fun v8 H =>
   I1 (v7, v8, ()) H)
  (fun H => Q out_3 H)
def f75.w (Q : Post) (rows_0 : Value) (H : Heap) : Prop :=
  W.len rows_0 H fun v1 H =>
  W.loop (S := St [3, 8]) (fun I1 s H => f75.l1 Q v1 rows_0 I1 s.1 s.2.1 H) ((.slice none 0 0), (.int .i64 0), ()) H
theorem f75.enter {Q : Post} {rows_0 : Value} {H : Heap} (h : f75.w Q rows_0 H) : Runs Tryz.prog 75 #[rows_0] H Q :=
  fn_enter (ann := [(3, [3, 8])]) (by kernel_rfl) Tryz.func75 rfl (by kernel_rfl) h (by kernel_rfl)


/-- Rows that may be copied. -/
def okRows (m : List (List Int)) : Prop := m.length ≤ 1048576 ∧ ∀ r ∈ m, r.length ≤ 1048576

theorem fn75 {H0 : Heap} {Q : Post} {v : Value} {m : List (List Int)} (hr : Has RSS H0 [v] m) (hm : okRows m) (hQ : ∀ H' u, FreshG RS 25 H0 u m H' → Q u H') : Runs Tryz.prog 75 #[v] H0 Q := by
  refine f75.enter (Wl.lenH hr ?_)
  refine W.for_rule m.length (fun i s H => ∃ u, s = (u, .int .i64 (i : Nat), ()) ∧ Ab.Loc H0 [.grow RS 25 u (m.take i), .lent RSS [v] m] H) ⟨_, rfl, (((Loc.start H0).lent hr).nilG RS 25)⟩ ?_
  rintro i s H J hi ⟨u, rfl, h⟩ hJ
  have := hm.1
  refine Wi.lssC (fun hlt => Wi.tru ?_) fun hge => Wi.fls ?_
  · have hix : i < m.length := by omega
    refine Wl.at1 rfl h hix fun w hw => Wi.call (fn74 hw (by have := hm.2 _ (List.getElem_mem hix); omega) fun H2 u2 f => ?_)
    refine Wl.pushF rfl h f.fresh f.fresh.read.one (by simp; omega) fun H3 v' h => Wi.add (by unfold I64; omega) (hJ _ _ hix ⟨v', rfl, ?_⟩)
    rw [List.take_succ_eq_append_getElem hix]
    exact h
  · have : i = m.length := by omega
    subst this
    rw [List.take_length] at h
    exact hQ _ _ (h.retGG (i := 0) rfl)

end Go.Proofs.YtdchibdcfdbcpaaGreat

/-! The problem of a program, as a plain value. No condition. -/
namespace Go.Proofs.YtdchibdcfdbcpaaGreat
open Go.Ab

def neg (xs : List Int) : List Int := xs.map (fun x => -x)
theorem neg_idx (xs : List Int) : xs.mapIdx (fun _ x => -x) = neg xs := by
  unfold neg
  apply List.ext_getElem <;> simp
theorem neg_length (xs : List Int) : (neg xs).length = xs.length := by simp [neg]

/-- The first rows of a program's problem. -/
def prgTop (p : Prg) (i : Nat) : List (List Int) := (List.range i).map fun i => p.1.getD i [] ++ (List.range p.2.2.2.length).map fun j => -((p.2.2.1.getD j []).getD i 0)
def prgLow (p : Prg) (j : Nat) : List (List Int) := (p.2.2.1.take j).map fun r => r ++ List.replicate p.2.2.2.length 0
def prgProblem (p : Prg) : Prob := (prgTop p p.2.1.length ++ prgLow p p.2.2.1.length, p.2.1 ++ neg p.2.2.2)

theorem prgTop_len (p : Prg) (i : Nat) : (prgTop p i).length = i := by unfold prgTop; rw [List.length_map, List.length_range]
theorem prgTop_succ (p : Prg) (i : Nat) : prgTop p (i + 1) = prgTop p i ++ [p.1.getD i [] ++ (List.range p.2.2.2.length).map fun j => -((p.2.2.1.getD j []).getD i 0)] := by
  unfold prgTop
  rw [List.range_succ, List.map_append]
  rfl
theorem prgLow_len (p : Prg) (j : Nat) : (prgLow p j).length ≤ p.2.2.1.length := by unfold prgLow; rw [List.length_map, List.length_take]; omega
theorem prgLow_succ (p : Prg) {j : Nat} (h : j < p.2.2.1.length) : prgLow p (j + 1) = prgLow p j ++ [p.2.2.1[j] ++ List.replicate p.2.2.2.length 0] := by
  unfold prgLow
  rw [List.take_succ_eq_append_getElem h, List.map_append]
  rfl

noncomputable def ppRes (p : Prg) : Prob × Int := open Classical in if IsPrg p then (prgProblem p, 0) else (([], []), 1)

theorem prgProblem_dims {p : Prg} (h : IsPrg p) : (prgProblem p).1.length = p.2.1.length + p.2.2.2.length ∧ (prgProblem p).2.length = p.2.1.length + p.2.2.2.length ∧ ∀ r ∈ (prgProblem p).1, r.length = p.2.1.length + p.2.2.2.length := by
  have h1 := h.al
  have h2 := h.dl
  refine ⟨by simp [prgProblem, prgTop, prgLow, h1], by simp [prgProblem, neg], fun r hr => ?_⟩
  simp only [prgProblem, List.mem_append] at hr
  rcases hr with hr | hr
  · simp only [prgTop, List.mem_map, List.mem_range] at hr
    obtain ⟨i, hi, rfl⟩ := hr
    have hi2 : i < p.1.length := by omega
    simp [List.getD_eq_getElem?_getD, List.getElem?_eq_getElem hi2, (h.d _ (List.getElem_mem hi2)).1]
  · simp only [prgLow, List.mem_map] at hr
    obtain ⟨r, hr, rfl⟩ := hr
    simp [(h.a r (List.mem_of_mem_take hr)).1]

end Go.Proofs.YtdchibdcfdbcpaaGreat

/-! Contracts of the program's IsMatrix, IsProblem and isSet. No condition. -/
namespace Go.Proofs.YtdchibdcfdbcpaaGreat
open Go.Ab

/- loop.example/g01343/impl.IsMatrix -/
/- loop.example/g01343/impl.IsMatrix$1 -/
/- loop.example/g01343/impl.IsProblem -/
/-- A matrix: square, of 1 to 5 rows, numbers of at most 20. -/
def isMat (m : List (List Int)) : Bool := (inR 1 5 m.length && isSq m.length m) && m.all (allUp 20)

/-- A problem. -/
def isProb (p : Prob) : Bool := (isMat p.1 && decide (p.2.length = p.1.length)) && allUp 100 p.2

end Go.Proofs.YtdchibdcfdbcpaaGreat

/-! Contracts of the reference's l01In, l01Matrix and l01Is. No condition. -/
namespace Go.Proofs.YtdchibdcfdbcpaaGreat
open Go.Ab



theorem isMat_eq (m : List (List Int)) : isMat m = (decide (1 ≤ m.length) && decide (m.length ≤ 5) && m.all (fun r => decide (r.length = m.length) && r.all (inR (-20) 20))) := by
  unfold isMat isSq inR allUp inR
  have : (m.all fun r => decide (r.length = m.length) && r.all fun n => decide (-20 ≤ n) && decide (n ≤ 20)) = (m.all (fun r => decide (r.length = m.length)) && m.all fun xs => xs.all fun n => decide (-20 ≤ n) && decide (n ≤ 20)) := by
    induction m with
    | nil => rfl
    | cons x xs ih =>
      rw [Bool.eq_iff_iff]
      simp only [List.all_eq_true, Bool.and_eq_true, decide_eq_true_eq]
      constructor
      · intro h; exact ⟨fun r hr => (h r hr).1, fun r hr n hn => (h r hr).2 n hn⟩
      · intro h r hr; exact ⟨h.1 r hr, fun n hn => h.2 r hr n hn⟩
  rw [this]
  simp
  have e : decide (1 ≤ (m.length : Int)) = decide (1 ≤ m.length) := by
    by_cases h : 1 ≤ m.length <;> simp <;> omega
  have e2 : decide ((m.length : Int) ≤ 5) = decide (m.length ≤ 5) := by
    by_cases h : m.length ≤ 5 <;> simp <;> omega
  rw [e, e2]
  simp [Bool.and_assoc]



end Go.Proofs.YtdchibdcfdbcpaaGreat
