/- Contracts of l01Own and slices.Clone. No condition. -/
import Derived.Test.YtbcfknboheghkaaGreatGAA
import Derived.Test.YtbcfknboheghkaaGreatZabG5
import Derived.Test.YtbcfknboheghkaaGreatGQQ
import Derived.Test.YtbcfknboheghkaaGreatGBB
import Derived.Test.YtbcfknboheghkaaGreatZabOrd
import Derived.Test.YtbcfknboheghkaaGreatZabG9
import Derived.Test.YtbcfknboheghkaaGreatZabG8
namespace Go.Proofs.YtbcfknboheghkaaGreat
open Go.Ab

/- slices.Clone[[]int64,int64] -/
def f127.w (Q : Post) (s_0 : Value) (H : Heap) : Prop :=
  W.eqNilR .eql s_0 (.slice none 0 0) H fun v1 H =>
  W.cond v1 H
  (fun H => Q (.slice none 0 0) H)
  (fun H => W.lit 0 [(.int .i64 0)] 2 [] H fun v2 H =>
   W.append 1 2 v2 s_0 H fun v3 H =>
   Q v3 H)
theorem f127.enter {Q : Post} {s_0 : Value} {H : Heap} (h : f127.w Q s_0 H) : Runs Tryz.prog 127 #[s_0] H Q :=
  fn_enter (ann := []) (by kernel_rfl) Tryz.func127 rfl (by kernel_rfl) h (by kernel_rfl)


theorem fn127 {H0 : Heap} {Q : Post} {v : Value} {xs : List Int} (hr : Has RS H0 [v] xs) (hlen : xs.length ≤ 16777216) (hQ : ∀ H' u, FreshG Rd.int 2 H0 u xs H' → Q u H') : Runs Tryz.prog 127 #[v] H0 Q := by
  refine f127.enter (Wl.isNilH hr (fun e => Wi.tru ?_) (Wi.fls ?_))
  · subst e
    exact hQ _ _ ((((Loc.start H0).nilG Rd.int 2)).retGG (i := 0) rfl)
  · exact Wl.lit0 Rd.int rfl ((Loc.start H0).lent hr) fun H u h => Wl.appendH (i := 0) rfl h rfl h.rd (by simpa using hlen) fun H' v' h => hQ _ _ (h.retGG (i := 0) rfl)

end Go.Proofs.YtbcfknboheghkaaGreat
/-! The contract of copyRows. No condition. -/
namespace Go.Proofs.YtbcfknboheghkaaGreat
open Go.Ab

/- loop.example/g01343/impl.copyRows -/
def f150.l1 (Q : Post) (v1 : Value) (rows_0 : Value) (I1 : St [3, 8] → Heap → Prop) (out_3 : Value) (x_8 : Value) (H : Heap) : Prop :=
  W.bin .lss x_8 v1 H fun v2 H =>
  W.cond v2 H
  (fun H => W.indexAddr 1 rows_0 x_8 H fun v3 H =>
   W.get v3 H fun v4 H =>
   W.call Tryz.prog (.func (.func 127) #[] #[]) #[v4] H fun v5 H =>
   W.lit 1 [(.slice none 0 0)] 35 [(0, 1, v5)] H fun v6 H =>
   W.append 1 35 out_3 v6 H fun v7 H =>
   W.bin .add x_8 (.int .i64 1) H fun v8 H =>
   I1 (v7, v8, ()) H)
  (fun H => Q out_3 H)
def f150.w (Q : Post) (rows_0 : Value) (H : Heap) : Prop :=
  W.len rows_0 H fun v1 H =>
  W.loop (S := St [3, 8]) (fun I1 s H => f150.l1 Q v1 rows_0 I1 s.1 s.2.1 H) ((.slice none 0 0), (.int .i64 0), ()) H
theorem f150.enter {Q : Post} {rows_0 : Value} {H : Heap} (h : f150.w Q rows_0 H) : Runs Tryz.prog 150 #[rows_0] H Q :=
  fn_enter (ann := [(3, [3, 8])]) (by kernel_rfl) Tryz.func150 rfl (by kernel_rfl) h (by kernel_rfl)


/-- Rows that may be copied. -/
def okRows (m : List (List Int)) : Prop := m.length ≤ 1048576 ∧ ∀ r ∈ m, r.length ≤ 1048576

theorem fn150 {H0 : Heap} {Q : Post} {v : Value} {m : List (List Int)} (hr : Has RSS H0 [v] m) (hm : okRows m) (hQ : ∀ H' u, FreshG RS 35 H0 u m H' → Q u H') : Runs Tryz.prog 150 #[v] H0 Q := by
  refine f150.enter (Wl.lenH hr ?_)
  refine W.for_rule m.length (fun i s H => ∃ u, s = (u, .int .i64 (i : Nat), ()) ∧ Ab.Loc H0 [.grow RS 35 u (m.take i), .lent RSS [v] m] H) ⟨_, rfl, (((Loc.start H0).lent hr).nilG RS 35)⟩ ?_
  rintro i s H J hi ⟨u, rfl, h⟩ hJ
  have := hm.1
  refine Wi.lssC (fun hlt => Wi.tru ?_) fun hge => Wi.fls ?_
  · have hix : i < m.length := by omega
    refine Wl.at1 rfl h hix fun w hw => Wi.call (fn127 hw (by have := hm.2 _ (List.getElem_mem hix); omega) fun H2 u2 f => ?_)
    refine Wl.pushF rfl h f.fresh f.fresh.read.one (by simp; omega) fun H3 v' h => Wi.add (by unfold I64; omega) (hJ _ _ hix ⟨v', rfl, ?_⟩)
    rw [List.take_succ_eq_append_getElem hix]
    exact h
  · have : i = m.length := by omega
    subst this
    rw [List.take_length] at h
    exact hQ _ _ (h.retGG (i := 0) rfl)

end Go.Proofs.YtbcfknboheghkaaGreat

/-! The problem of a program, as a plain value. No condition. -/
namespace Go.Proofs.YtbcfknboheghkaaGreat
open Go.Ab

def neg (xs : List Int) : List Int := xs.map (fun x => -x)
/-- The first rows of a program's problem. -/
def prgTop (p : Prg) (i : Nat) : List (List Int) := (List.range i).map fun i => p.1.getD i [] ++ (List.range p.2.2.2.length).map fun j => -((p.2.2.1.getD j []).getD i 0)
def prgLow (p : Prg) (j : Nat) : List (List Int) := (p.2.2.1.take j).map fun r => r ++ List.replicate p.2.2.2.length 0
def prgProblem (p : Prg) : Prob := (prgTop p p.2.1.length ++ prgLow p p.2.2.1.length, p.2.1 ++ neg p.2.2.2)

noncomputable def ppRes (p : Prg) : Prob × Int := open Classical in if IsPrg p then (prgProblem p, 0) else (([], []), 1)

end Go.Proofs.YtbcfknboheghkaaGreat

/-! Contracts of the program's IsMatrix, IsProblem and isSet. No condition. -/
namespace Go.Proofs.YtbcfknboheghkaaGreat
open Go.Ab

/- loop.example/g01343/impl.IsMatrix -/
/- loop.example/g01343/impl.IsMatrix$1 -/
/- loop.example/g01343/impl.IsProblem -/
/-- A matrix: square, of 1 to 5 rows, numbers of at most 20. -/
def isMat (m : List (List Int)) : Bool := (inR 1 5 m.length && isSq m.length m) && m.all (allUp 20)

/-- A problem. -/
def isProb (p : Prob) : Bool := (isMat p.1 && decide (p.2.length = p.1.length)) && allUp 100 p.2

end Go.Proofs.YtbcfknboheghkaaGreat

/-! Contracts of the reference's l01In, l01Matrix and l01Is. No condition. -/
namespace Go.Proofs.YtbcfknboheghkaaGreat
open Go.Ab



end Go.Proofs.YtbcfknboheghkaaGreat

/-! What RenumberProblem comes to; problems' limits. No condition. -/
namespace Go.Proofs.YtbcfknboheghkaaGreat
open Go.Ab

/-- The first x numbers of a row put to their new places. -/
def rowPut (l src dst : List Int) (x : Nat) : List Int := (List.range x).foldl (fun d k => d.set (l.getD k 0).toNat (src.getD k 0)) dst

/-- The first x rows put to their new places. -/
def probPut (p : Prob) (l : List Int) (x : Nat) : Prob :=
  (List.range x).foldl (fun o i => (o.1.set (l.getD i 0).toNat (rowPut l (p.1.getD i []) (o.1.getD (l.getD i 0).toNat []) p.1.length), o.2.set (l.getD i 0).toNat (p.2.getD i 0))) p

def renRes (p : Prob) (l : List Int) : Prob × Int :=
  if isProb p then (if isOrd p.2.length l then (probPut p l p.1.length, 0) else (([], []), 2)) else (([], []), 1)


end Go.Proofs.YtbcfknboheghkaaGreat

/-! What a problem's numbers are. No condition. -/
namespace Go.Proofs.YtbcfknboheghkaaGreat
open Go.Ab

/-- What a problem's numbers are, n of them. -/
structure PB (n : Nat) (p : Prob) : Prop where
  sq : Sq n p.1
  ql : p.2.length = n
  n0 : 0 < n
  n5 : n ≤ 5
  m : ∀ r c, (mAt p.1 r c).natAbs ≤ 20
  q : ∀ e ∈ p.2, e.natAbs ≤ 100

end Go.Proofs.YtbcfknboheghkaaGreat

/-! When numbers with a common denominator solve a problem, as plain values; the problem of a program is one. No condition. -/
namespace Go.Proofs.YtbcfknboheghkaaGreat
open Go.Ab

/-- The remainder, times the denominator. -/
def restN (P : Prob) (d : Int) (l : List Int) (i : Nat) : Int := P.2.getD i 0 * d + dot (P.1.getD i []) l
def restL (n : Nat) (P : Prob) (d : Int) (l : List Int) : List Int := (List.range n).map (restN P d l)

/-- At one place. -/
def okI (w a : Int) : Bool := decide (0 ≤ w) && (decide (0 ≤ a) && !(decide (0 < w) && decide (0 < a)))

def solV (n : Nat) (P : Prob) (l : List Int) (d : Int) : Bool := allN n fun i => okI (restN P d l i) (l.getD i 0)

def stOf (n : Nat) (P : Prob) : Option (List Int × Int) → Bool × Int
  | none => (false, 3)
  | some (l, d) => (solV n P l d, 0)

noncomputable def stRes (p : Prg) (xs ys : List Frac) : Bool × Int := open Classical in
  if IsPrg p ∧ Frs xs ∧ Frs ys then (if xs.length = p.2.1.length ∧ ys.length = p.2.2.2.length then stOf (p.2.1.length + p.2.2.2.length) (prgProblem p) (tog 1000000000 1000000000000 (xs ++ ys)) else (false, 2)) else (false, 1)

end Go.Proofs.YtbcfknboheghkaaGreat

/-! Contracts of slices.Grow and slices.Concat, numbers. No condition. -/
namespace Go.Proofs.YtbcfknboheghkaaGreat
open Go.Ab




end Go.Proofs.YtbcfknboheghkaaGreat

/-! Numbers times -1. No condition. -/
namespace Go.Proofs.YtbcfknboheghkaaGreat
open Go.Ab




end Go.Proofs.YtbcfknboheghkaaGreat

/-! Contracts of the program's problem and ProgramProblem. No condition. -/
namespace Go.Proofs.YtbcfknboheghkaaGreat
open Go.Ab





end Go.Proofs.YtbcfknboheghkaaGreat

/-! The contract of the program's IsPlace. No condition. -/
namespace Go.Proofs.YtbcfknboheghkaaGreat
open Go.Ab



/-- The numbers make a place. -/
def plOK (p : Prg) (l : List Int) (d : Int) : Prop := (∀ j, j < p.2.2.1.length → p.2.2.2.getD j 0 * d ≤ dot (p.2.2.1.getD j []) l) ∧ ∀ a ∈ l, 0 ≤ a

noncomputable def plRes (p : Prg) (xs : List Frac) : Bool × Int := open Classical in
  if IsPrg p ∧ Frs xs then (if xs.length = p.2.1.length then (match tog 1000000000 1000000000000 xs with | none => (false, 3) | some (l, d) => (decide (plOK p l d), 0)) else (false, 2)) else (false, 1)

end Go.Proofs.YtbcfknboheghkaaGreat
