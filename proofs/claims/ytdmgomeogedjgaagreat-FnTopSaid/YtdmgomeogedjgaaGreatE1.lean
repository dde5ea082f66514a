/- What RenumberProblem comes to; problems' limits. No condition. -/
import Derived.Test.YtdmgomeogedjgaaGreatGAB
import Derived.Test.YtdmgomeogedjgaaGreatGDD
import Derived.Test.YtdmgomeogedjgaaGreatZabOrd
namespace Go.Proofs.YtdmgomeogedjgaaGreat
open Go.Ab

theorem isProb_rows {p : Prob} (h : isProb p = true) : okRows p.1 ∧ 0 < p.1.length ∧ p.1.length ≤ 5 ∧ p.2.length = p.1.length ∧ (∀ r ∈ p.1, r.length = p.1.length ∧ ∀ x ∈ r, -20 ≤ x ∧ x ≤ 20) ∧ ∀ x ∈ p.2, -100 ≤ x ∧ x ≤ 100 := by
  unfold isProb at h
  rw [isMat_eq] at h
  simp only [Bool.and_eq_true, decide_eq_true_eq, List.all_eq_true, inR, allUp] at h
  obtain ⟨⟨⟨⟨h1, h2⟩, h3⟩, h4⟩, h5⟩ := h
  refine ⟨⟨by omega, fun r hr => ?_⟩, by omega, h2, h4, fun r hr => ?_, fun x hx => by have := h5 x hx; omega⟩
  · have := (h3 r hr).1
    omega
  · exact ⟨(h3 r hr).1, fun x hx => by have := (h3 r hr).2 x hx; omega⟩


theorem sz_isProb {p : Prob} (h : isProb p = true) : szProblem p ≤ 1048576 := by
  obtain ⟨ok1, ok2, ok3, ok4, ok5, ok6⟩ := isProb_rows h
  have h1 : szSS p.1 ≤ p.1.length * 5 := szl_le _ fun r hr => by rw [szS_len]; have := (ok5 r hr).1; omega
  simp only [szp, szS_len]
  omega


/-- The first x numbers of a row put to their new places. -/
def rowPut (l src dst : List Int) (x : Nat) : List Int := (List.range x).foldl (fun d k => d.set (l.getD k 0).toNat (src.getD k 0)) dst

theorem rowPut_zero (l src dst : List Int) : rowPut l src dst 0 = dst := rfl
theorem rowPut_succ (l src dst : List Int) (x : Nat) : rowPut l src dst (x + 1) = (rowPut l src dst x).set (l.getD x 0).toNat (src.getD x 0) := by
  simp [rowPut, List.range_succ]
theorem rowPut_length (l src dst : List Int) (x : Nat) : (rowPut l src dst x).length = dst.length := by
  induction x with
  | zero => rfl
  | succ x ih => rw [rowPut_succ, List.length_set, ih]

/-- The first x rows put to their new places. -/
def probPut (p : Prob) (l : List Int) (x : Nat) : Prob :=
  (List.range x).foldl (fun o i => (o.1.set (l.getD i 0).toNat (rowPut l (p.1.getD i []) (o.1.getD (l.getD i 0).toNat []) p.1.length), o.2.set (l.getD i 0).toNat (p.2.getD i 0))) p

theorem probPut_zero (p : Prob) (l : List Int) : probPut p l 0 = p := rfl
theorem probPut_succ (p : Prob) (l : List Int) (x : Nat) : probPut p l (x + 1) =
    ((probPut p l x).1.set (l.getD x 0).toNat (rowPut l (p.1.getD x []) ((probPut p l x).1.getD (l.getD x 0).toNat []) p.1.length), (probPut p l x).2.set (l.getD x 0).toNat (p.2.getD x 0)) := by
  simp [probPut, List.range_succ]

def renRes (p : Prob) (l : List Int) : Prob × Int :=
  if isProb p then (if isOrd p.2.length l then (probPut p l p.1.length, 0) else (([], []), 2)) else (([], []), 1)


theorem probPut_len (p : Prob) (l : List Int) (x : Nat) : (probPut p l x).1.length = p.1.length ∧ (probPut p l x).2.length = p.2.length := by
  induction x with
  | zero => exact ⟨rfl, rfl⟩
  | succ x ih => rw [probPut_succ]; simp [ih.1, ih.2]

theorem probPut_rows {p : Prob} {l : List Int} {n : Nat} (h : ∀ r ∈ p.1, r.length = n) (x : Nat) : ∀ r ∈ (probPut p l x).1, r.length = n := by
  induction x with
  | zero => exact h
  | succ x ih =>
    rw [probPut_succ]
    intro r hr
    rcases List.mem_or_eq_of_mem_set hr with hr | rfl
    · exact ih r hr
    · by_cases hb : (l.getD x 0).toNat < (probPut p l x).1.length
      · rw [rowPut_length, List.getD_eq_getElem?_getD, List.getElem?_eq_getElem hb]
        exact ih _ (List.getElem_mem hb)
      · rw [List.set_eq_of_length_le (by omega)] at hr
        exact ih _ hr



end Go.Proofs.YtdmgomeogedjgaaGreat
