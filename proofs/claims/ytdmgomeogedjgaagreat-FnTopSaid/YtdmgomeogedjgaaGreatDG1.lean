/- The contracts of DegreeAt, the program's and the reference's. No condition. -/
import Derived.Test.YtdmgomeogedjgaaGreatCV1
import Derived.Test.YtdmgomeogedjgaaGreatX1
import Derived.Test.YtdmgomeogedjgaaGreatX2
import Derived.Test.YtdmgomeogedjgaaGreatD7
import Derived.Test.YtdmgomeogedjgaaGreatZabG9
namespace Go.Proofs.YtdmgomeogedjgaaGreat
open Go.Ab



def covN (n : Nat) (p : Prob) : List Nat := (List.range (2 ^ n)).filter (covB n p)
theorem covL_map (n : Nat) (p : Prob) : covL n p = (covN n p).map fun (s : Nat) => (s : Int) := rfl
theorem covN_len (n : Nat) (p : Prob) : (covN n p).length ≤ 2 ^ n := by
  have := List.length_filter_le (covB n p) (List.range (2 ^ n))
  simpa [covN] using this

theorem covN_at {n : Nat} {p : Prob} {i : Nat} (h : i < (covN n p).length) : (covN n p)[i] < 2 ^ n ∧ covB n p (covN n p)[i] = true := by
  have := List.mem_filter.1 (List.getElem_mem h)
  exact ⟨by simpa using this.1, this.2⟩

theorem covB_split {n : Nat} {p : Prob} {s : Nat} (h : covB n p s = true) : det n (mAt (colL n p.1 s)) ≠ 0 ∧ (pointL n (colL n p.1 s) p.2).all (fun x => decide (0 ≤ x)) = true := by
  unfold covB at h
  rw [Bool.and_eq_true] at h
  exact ⟨of_decide_eq_true h.1, h.2⟩

/-- One of its point's numbers is 0. -/
def zeroB (n : Nat) (p : Prob) (s : Nat) : Bool := (pointL n (colL n p.1 s) p.2).contains 0

theorem zeroB_inner {n : Nat} {p : Prob} {s : Nat} (h : (pointL n (colL n p.1 s) p.2).all (fun x => decide (0 ≤ x)) = true) : (pointL n (colL n p.1 s) p.2).all (fun x => decide (0 < x)) = !zeroB n p s := by
  unfold zeroB
  generalize pointL n (colL n p.1 s) p.2 = l at *
  rw [List.all_eq_true] at h
  rw [Bool.eq_iff_iff, List.all_eq_true]
  simp only [decide_eq_true_eq] at h
  simp only [decide_eq_true_eq, Bool.not_eq_true', List.contains_eq_mem, decide_eq_false_iff_not]
  constructor
  · intro g hm
    have := g 0 hm
    omega
  · intro g x hx
    have h1 := h x hx
    have h2 : x ≠ 0 := fun e => g (e ▸ hx)
    omega

def degF (n : Nat) (p : Prob) (s : Nat) : Int := sgI (minorL n p.1 s)
def degTo (n : Nat) (p : Prob) (i : Nat) : Int := (((covN n p).take i).map (degF n p)).sum

theorem degTo_succ {n : Nat} {p : Prob} {i : Nat} (h : i < (covN n p).length) : degTo n p (i + 1) = degTo n p i + degF n p (covN n p)[i] := by
  unfold degTo
  rw [List.take_succ_eq_append_getElem h, List.map_append, List.sum_append]
  simp

theorem degTo_abs {n : Nat} {p : Prob} : ∀ {i : Nat}, i ≤ (covN n p).length → (degTo n p i).natAbs ≤ i
  | 0, _ => by simp [degTo]
  | i + 1, h => by
    rw [degTo_succ (by omega)]
    have h1 := degTo_abs (n := n) (p := p) (i := i) (by omega)
    have h2 := sgI_abs (minorL n p.1 (covN n p)[i])
    unfold degF
    omega

def degRes (p : Prob) : Int × Int := if isProb p = true then (if (covN p.2.length p).any (zeroB p.2.length p) = true then (0, 5) else (degTo p.2.length p (covN p.2.length p).length, 0)) else (0, 1)

theorem deg_bad {p : Prob} (hp : isProb p = true) {i : Nat} (hi : i < (covN p.2.length p).length) (h : zeroB p.2.length p (covN p.2.length p)[i] = true) : degRes p = (0, 5) := by
  unfold degRes
  rw [if_pos hp, if_pos (List.any_eq_true.2 ⟨_, List.getElem_mem hi, h⟩)]

theorem deg_good {p : Prob} (hp : isProb p = true) (h : ∀ i (hi : i < (covN p.2.length p).length), zeroB p.2.length p (covN p.2.length p)[i] = false) : degRes p = (degTo p.2.length p (covN p.2.length p).length, 0) := by
  unfold degRes
  rw [if_pos hp, if_neg]
  intro g
  obtain ⟨s, hs, hz⟩ := List.any_eq_true.1 g
  obtain ⟨i, hi, rfl⟩ := List.mem_iff_getElem.1 hs
  rw [h i hi] at hz
  cases hz



end Go.Proofs.YtdmgomeogedjgaaGreat
