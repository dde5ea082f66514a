/- What RenumberProblem comes to; problems' limits. No condition. -/
import Derived.Test.YtdmgomeogedjgaaGreatGAB
import Derived.Test.YtdmgomeogedjgaaGreatGDD
import Derived.Test.YtdmgomeogedjgaaGreatZabOrd
namespace Go.Proofs.YtdmgomeogedjgaaGreat
open Go.Ab

theorem isProb_rows {p : Prob} (h : isProb p = true) : okRows p.1 ∧ 0 < p.1.length ∧ p.1.length ≤ 5 ∧ p.2.length = p.1.length ∧ (∀ r ∈ p.1, r.length = p.1.length ∧ ∀ x ∈ r, -20 ≤ x ∧ x ≤ 20) ∧ ∀ x ∈ p.2, -100 ≤ x ∧ x ≤ 100 := by
  unfold isProb at h
  rw [isMat_eq] at h
  simp only [Bool.and_eq_true, decide_eq_true_eq, List.all_eq_true, inR, allUp] at h
  obtain ⟨⟨⟨⟨h1, h2⟩, h3⟩, h4⟩, h5⟩ := h
  refine ⟨⟨by omega, fun r hr => ?_⟩, by omega, h2, h4, fun r hr => ?_, fun x hx => by have := h5 x hx; omega⟩
  · have := (h3 r hr).1
    omega
  · exact ⟨(h3 r hr).1, fun x hx => by have := (h3 r hr).2 x hx; omega⟩


/-- The first x numbers of a row put to their new places. -/
def rowPut (l src dst : List Int) (x : Nat) : List Int := (List.range x).foldl (fun d k => d.set (l.getD k 0).toNat (src.getD k 0)) dst

/-- The first x rows put to their new places. -/
def probPut (p : Prob) (l : List Int) (x : Nat) : Prob :=
  (List.range x).foldl (fun o i => (o.1.set (l.getD i 0).toNat (rowPut l (p.1.getD i []) (o.1.getD (l.getD i 0).toNat []) p.1.length), o.2.set (l.getD i 0).toNat (p.2.getD i 0))) p

def renRes (p : Prob) (l : List Int) : Prob × Int :=
  if isProb p then (if isOrd p.2.length l then (probPut p l p.1.length, 0) else (([], []), 2)) else (([], []), 1)


end Go.Proofs.YtdmgomeogedjgaaGreat
