/- The laws' helpers for programs. No condition. -/
import Derived.Test.YtmhbbkidedjefaaA1
namespace Go.Proofs.Ytmhbbkidedjefaa
open Go.Ab



abbrev Prg := List (List Int) × List Int × List (List Int) × List Int
abbrev RPrg : Rd Prg := Rd.pair RSS (Rd.pair RS (Rd.pair RSS RS))

abbrev wPrg := szp wSS (szp (List.length (α := Int)) (szp wSS (List.length (α := Int))))

theorem hasPrg {H : Heap} {cs : List Value} {p : Prg} (h : Has RPrg H cs p) : ∃ u1 u2 u3 u4, cs = [u1, u2, u3, u4] ∧ Has RSS H [u1] p.1 ∧ Has RS H [u2] p.2.1 ∧ Has RSS H [u3] p.2.2.1 ∧ Has RS H [u4] p.2.2.2 := by
  obtain ⟨bs, b1, b2, c1, c2, hb, rfl, h1, b3, b4, c3, c4, hb2, rfl, h3, b5, b6, c5, c6, hb3, rfl, h5, h6⟩ := h
  obtain ⟨u1, rfl⟩ := List.length_eq_one_iff.1 (RSS.len h1)
  obtain ⟨u2, rfl⟩ := List.length_eq_one_iff.1 (RS.len h3)
  obtain ⟨u3, rfl⟩ := List.length_eq_one_iff.1 (RSS.len h5)
  obtain ⟨u4, rfl⟩ := List.length_eq_one_iff.1 (RS.len h6)
  exact ⟨u1, u2, u3, u4, rfl, ⟨_, h1⟩, ⟨_, h3⟩, ⟨_, h5⟩, ⟨_, h6⟩⟩

end Go.Proofs.Ytmhbbkidedjefaa
