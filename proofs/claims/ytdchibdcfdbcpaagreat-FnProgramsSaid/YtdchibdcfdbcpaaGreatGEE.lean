/- What MinimumOf answers, as a plain value; lists of fractions copied. No condition. -/
import Derived.Test.YtdchibdcfdbcpaaGreatGAA
import Derived.Test.YtdchibdcfdbcpaaGreatGBB
import Derived.Test.YtdchibdcfdbcpaaGreatGCC
import Derived.Test.YtdchibdcfdbcpaaGreatM1
import Derived.Test.YtdchibdcfdbcpaaGreatGDD
import Derived.Test.YtdchibdcfdbcpaaGreatZabG9
namespace Go.Proofs.YtdchibdcfdbcpaaGreat
open Go.Ab

/- slices.Clone[[]loop.example/g01343/impl.Frac,loop.example/g01343/impl.Frac] -/
def f68.w (Q : Post) (s_0 : Value) (H : Heap) : Prop :=
  W.eqNilR .eql s_0 (.slice none 0 0) H fun v1 H =>
  W.cond v1 H
  (fun H => Q (.slice none 0 0) H)
  (fun H => W.lit 0 [(.int .i64 0), (.int .i64 0)] 34 [] H fun v2 H =>
   W.append 2 34 v2 s_0 H fun v3 H =>
   Q v3 H)
theorem f68.enter {Q : Post} {s_0 : Value} {H : Heap} (h : f68.w Q s_0 H) : Runs Tryz.prog 68 #[s_0] H Q :=
  fn_enter (ann := []) (by kernel_rfl) Tryz.func68 rfl (by kernel_rfl) h (by kernel_rfl)


theorem fn68 {H0 : Heap} {Q : Post} {v : Value} {xs : List Frac} (hr : Has RFS H0 [v] xs) (hlen : xs.length ≤ 16777216) (hQ : ∀ H' u, FreshG RFrac 34 H0 u xs H' → Q u H') : Runs Tryz.prog 68 #[v] H0 Q := by
  refine f68.enter (Wl.isNilH hr (fun e => Wi.tru ?_) (Wi.fls ?_))
  · subst e
    exact hQ _ _ ((((Loc.start H0).nilG RFrac 34)).retGG (i := 0) rfl)
  · exact Wl.lit0 RFrac rfl ((Loc.start H0).lent hr) fun H u h => Wl.appendH (i := 0) rfl h rfl h.rd (by simpa using hlen) fun H' v' h => hQ _ _ (h.retGG (i := 0) rfl)

theorem mAt_all {m : List (List Int)} {B : Nat} (h : ∀ r ∈ m, ∀ x ∈ r, x.natAbs ≤ B) (r c : Nat) : (mAt m r c).natAbs ≤ B := by
  simp only [mAt, List.getD_eq_getElem?_getD]
  cases e1 : m[r]? with
  | none => simp
  | some row =>
    simp only [Option.getD_some]
    cases e2 : row[c]? with
    | none => simp
    | some x => exact h row (List.mem_of_getElem? e1) x (List.mem_of_getElem? e2)

/-- A program's problem is one. -/
theorem prg_pb {p : Prg} (h : IsPrg p) : PB (p.2.1.length + p.2.2.2.length) (prgProblem p) := by
  obtain ⟨h1, h2, h3⟩ := prgProblem_dims h
  have n1 := h.n1
  refine ⟨⟨h1, h3⟩, h2, by omega, h.nm, mAt_all fun r hr x hx => ?_, fun e he => ?_⟩
  · simp only [prgProblem, List.mem_append] at hr
    rcases hr with hr | hr
    · simp only [prgTop, List.mem_map, List.mem_range] at hr
      obtain ⟨i, hi, rfl⟩ := hr
      have hi2 : i < p.1.length := by have := h.dl; omega
      rw [getD_row hi2] at hx
      rcases List.mem_append.1 hx with hx | hx
      · have := (h.d _ (List.getElem_mem hi2)).2 x hx
        omega
      · obtain ⟨j, _, rfl⟩ := List.mem_map.1 hx
        have : (mAt p.2.2.1 j i).natAbs ≤ 20 := mAt_all (fun r hr x hx => by have := (h.a r hr).2 x hx; omega) j i
        show (-(mAt p.2.2.1 j i)).natAbs ≤ 20
        omega
    · simp only [prgLow, List.mem_map] at hr
      obtain ⟨r, hr, rfl⟩ := hr
      rcases List.mem_append.1 hx with hx | hx
      · have := (h.a r (List.mem_of_mem_take hr)).2 x hx
        omega
      · rw [(List.mem_replicate.1 hx).2]
        decide
  · simp only [prgProblem, neg, List.mem_append, List.mem_map] at he
    rcases he with he | ⟨y, hy, rfl⟩
    · have := h.c e he
      omega
    · have := h.b y hy
      omega

abbrev nOf (g : Prg) : Nat := g.2.1.length + g.2.2.2.length

/-- A set whose point has no number less than 0. -/
def mcB (n : Nat) (p : Prob) (s : Nat) : Bool := decide (det n (mAt (colL n p.1 s)) ≠ 0) && (ptOf n p s).all (fun x => decide (0 ≤ x))

theorem mcB_of {n : Nat} {p : Prob} {s : Nat} (h : det n (mAt (colL n p.1 s)) ≠ 0) : mcB n p s = (ptOf n p s).all (fun x => decide (0 ≤ x)) := by
  unfold mcB
  rw [decide_eq_true h, Bool.true_and]
theorem mcB_no {n : Nat} {p : Prob} {s : Nat} (h : det n (mAt (colL n p.1 s)) = 0) : mcB n p s = false := by
  unfold mcB
  rw [decide_eq_false (fun g => g h), Bool.false_and]

def moZ (g : Prg) (s : Nat) : List Int := onlyL (nOf g) (ptOf (nOf g) (prgProblem g) s) s
def moD (g : Prg) (s : Nat) : Int := ((det (nOf g) (mAt (colL (nOf g) (prgProblem g).1 s))).natAbs : Nat)
def moSum (g : Prg) (z : List Int) : Int := dot g.2.1 (z.take g.2.1.length) + dot g.2.2.2 (z.drop g.2.1.length)
def moAt (g : Prg) (s : Nat) : List Frac × List Frac × Frac × Int :=
  if (frAll (moZ g s) (moD g s)).2 = 0 then
    (if (fracT (moSum g (moZ g s)) (2 * moD g s)).2 = 0 then ((frAll (moZ g s) (moD g s)).1.take g.2.1.length, (frAll (moZ g s) (moD g s)).1.drop g.2.1.length, (fracT (moSum g (moZ g s)) (2 * moD g s)).1, 0)
      else ([], [], (0, 0), (fracT (moSum g (moZ g s)) (2 * moD g s)).2))
  else ([], [], (0, 0), (frAll (moZ g s) (moD g s)).2)
noncomputable def moRes (g : Prg) : List Frac × List Frac × Frac × Int := open Classical in
  if IsPrg g then (if semiL g.2.1.length g.1 = true then (match (List.range (2 ^ nOf g)).find? (mcB (nOf g) (prgProblem g)) with | some s => moAt g s | none => ([], [], (0, 0), 4)) else ([], [], (0, 0), 5)) else ([], [], (0, 0), 1)

theorem moZ_len (g : Prg) (s : Nat) : (moZ g s).length = nOf g := by simp [moZ, onlyL]

theorem moAt_len (g : Prg) (s : Nat) : (moAt g s).1.length ≤ nOf g ∧ (moAt g s).2.1.length ≤ nOf g := by
  have h1 := frAll_len (moZ g s) (moD g s)
  rw [moZ_len] at h1
  unfold moAt
  split
  · split
    · simp only [List.length_take, List.length_drop]; omega
    · simp
  · simp

theorem moRes_len (g : Prg) : (moRes g).1.length ≤ 5 ∧ (moRes g).2.1.length ≤ 5 := by
  unfold moRes
  split
  · rename_i hp
    have hn := hp.nm
    split
    · split
      · rename_i s _
        have := moAt_len g s
        have : nOf g ≤ 5 := hn
        omega
      · simp
    · simp
  · simp

theorem moRes_some {g : Prg} {s : Nat} (hp : IsPrg g) (hs : semiL g.2.1.length g.1 = true) (hlt : s < 2 ^ nOf g) (h : mcB (nOf g) (prgProblem g) s = true) (hb : ∀ j, j < s → mcB (nOf g) (prgProblem g) j = false) : moRes g = moAt g s := by
  have e : (List.range (2 ^ nOf g)).find? (mcB (nOf g) (prgProblem g)) = some s := List.find?_range_eq_some.2 ⟨h, List.mem_range.2 hlt, fun j hj => by rw [hb j hj]; rfl⟩
  unfold moRes
  rw [if_pos hp, if_pos hs, e]

theorem moRes_none {g : Prg} (hp : IsPrg g) (hs : semiL g.2.1.length g.1 = true) (hb : ∀ j, j < 2 ^ nOf g → mcB (nOf g) (prgProblem g) j = false) : moRes g = ([], [], (0, 0), 4) := by
  have e : (List.range (2 ^ nOf g)).find? (mcB (nOf g) (prgProblem g)) = none := List.find?_range_eq_none.2 fun j hj => by rw [hb j hj]; rfl
  unfold moRes
  rw [if_pos hp, if_pos hs, e]

theorem ptOf_abs {n : Nat} {p : Prob} (hpb : PB n p) (s : Nat) : ∀ x ∈ ptOf n p s, x.natAbs ≤ 1920000000 := fun x hx => by
  unfold ptOf pointL at hx
  obtain ⟨y, hy, rfl⟩ := List.mem_map.1 hx
  have h1 := solve_leib s hpb.n5 hpb.m hpb.q y hy
  have h2 := mulA (sgI_abs (det n (mAt (colL n p.1 s)))) h1
  omega

theorem moZ_abs {g : Prg} (hp : IsPrg g) (s : Nat) : ∀ x ∈ moZ g s, x.natAbs ≤ 1920000000 := fun x hx => by
  obtain ⟨i, hi, rfl⟩ := List.mem_map.1 hx
  split
  · exact getD_abs (ptOf_abs (prg_pb hp) s) i
  · decide

theorem dot5 {a b : List Int} {n : Nat} (h : a.length ≤ 5) (hA : ∀ x ∈ a, -100 ≤ x ∧ x ≤ 100) (hB : ∀ x ∈ b, x.natAbs ≤ 1920000000) : (dot a b).natAbs ≤ 960000000000 := by
  have h1 : (dot a b).natAbs ≤ a.length * (100 * 1920000000) := dot_abs (fun x hx => by have := hA x hx; omega) hB
  have := Nat.mul_le_mul_right (100 * 1920000000) h
  omega

theorem moSum_abs {g : Prg} (hp : IsPrg g) (s : Nat) : (dot g.2.1 ((moZ g s).take g.2.1.length)).natAbs ≤ 960000000000 ∧ (dot g.2.2.2 ((moZ g s).drop g.2.1.length)).natAbs ≤ 960000000000 := by
  have hn := hp.nm
  have hz := moZ_abs hp s
  exact ⟨dot5 (n := 0) (by omega) hp.c fun x hx => hz x (List.mem_of_mem_take hx), dot5 (n := 0) (by omega) hp.b fun x hx => hz x (List.mem_of_mem_drop hx)⟩

end Go.Proofs.YtdchibdcfdbcpaaGreat
/-! Programs with changed numbers, as plain values; limitedProgram. No condition. -/
namespace Go.Proofs.YtdchibdcfdbcpaaGreat
open Go.Ab

/- loop.example/g01343/impl.limitedProgram -/
abbrev zPrg : Prg := ([], [], [], [])
abbrev zCells4 : List Value := [.slice none 0 0, .slice none 0 0, .slice none 0 0, .slice none 0 0]

/-- What is told of a program: itself if it is one. -/
noncomputable def limRes (p : Prg) : Prg × Int := open Classical in if IsPrg p then (p, 0) else (zPrg, 3)

end Go.Proofs.YtdchibdcfdbcpaaGreat

/-! What DualProgram comes to. No condition. -/
namespace Go.Proofs.YtdchibdcfdbcpaaGreat
open Go.Ab

def zeroD (m : List (List Int)) : Prop := ∀ r ∈ m, ∀ x ∈ r, x = 0

def turnM (m : List (List Int)) (n : Nat) : List (List Int) := (List.range n).map fun j => m.map fun r => r.getD j 0

def dualPrg (p : Prg) : Prg := (List.replicate p.2.2.2.length (List.replicate p.2.2.2.length 0), neg p.2.2.2, (turnM p.2.2.1 p.2.1.length).map neg, neg p.2.1)

noncomputable def dpRes (p : Prg) : Prg × Int := open Classical in if IsPrg p then (if zeroD p.1 ∧ 0 < p.2.2.2.length then (dualPrg p, 0) else (zPrg, 5)) else (zPrg, 1)

end Go.Proofs.YtdchibdcfdbcpaaGreat

/-! What ScaleProgram comes to. No condition. -/
namespace Go.Proofs.YtdchibdcfdbcpaaGreat
open Go.Ab

def sclPrg (p : Prg) (k : Int) : Prg := (p.1.map (fun r => r.map (k * ·)), p.2.1.map (k * ·), p.2.2.1, p.2.2.2)

noncomputable def spRes (p : Prg) (k : Int) : Prg × Int := open Classical in if IsPrg p then (if inR 1 20 k then limRes (sclPrg p k) else (zPrg, 2)) else (zPrg, 1)

end Go.Proofs.YtdchibdcfdbcpaaGreat
