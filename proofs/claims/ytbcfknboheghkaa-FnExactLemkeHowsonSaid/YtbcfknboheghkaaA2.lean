/- The laws' helpers for problems. No condition. -/
import Derived.Test.YtbcfknboheghkaaA1
namespace Go.Proofs.Ytbcfknboheghkaa
open Go.Ab



abbrev RProblem : Rd (List (List Int) × List Int) := Rd.pair RSS RS
abbrev Prob := List (List Int) × List Int
abbrev mkProblem := mkp mkSS szSS mkS
abbrev szProblem := szp szSS szS
abbrev wProblem := szp wSS (List.length (α := Int))

theorem prob_cells {H : Heap} {bs : List Nat} {cs : List Value} {p : Prob} (h : RProblem.rel H bs cs p) : ∃ u1 u2 b1 b2, cs = [u1, u2] ∧ bs = b1 ++ b2 ∧ RSS.rel H b1 [u1] p.1 ∧ RS.rel H b2 [u2] p.2 := by
  obtain ⟨b1, b2, c1, c2, hb, hc, h1, h2⟩ := h
  obtain ⟨u1, rfl⟩ := List.length_eq_one_iff.1 (RSS.len h1)
  obtain ⟨u2, rfl⟩ := List.length_eq_one_iff.1 (RS.len h2)
  exact ⟨u1, u2, b1, b2, hc, hb, h1, h2⟩

theorem hasProb {H : Heap} {cs : List Value} {p : Prob} (h : Has RProblem H cs p) : ∃ u1 u2, cs = [u1, u2] ∧ Has RSS H [u1] p.1 ∧ Has RS H [u2] p.2 := by
  obtain ⟨bs, h⟩ := h
  obtain ⟨u1, u2, b1, b2, h1, _, h3, h4⟩ := prob_cells h
  exact ⟨u1, u2, h1, ⟨_, h3⟩, ⟨_, h4⟩⟩

end Go.Proofs.Ytbcfknboheghkaa
