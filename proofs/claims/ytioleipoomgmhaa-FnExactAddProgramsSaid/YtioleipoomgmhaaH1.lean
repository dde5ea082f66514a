/- What AddPrograms comes to; added. No condition. -/
import Derived.Test.YtioleipoomgmhaaG2
import Derived.Test.YtioleipoomgmhaaD1
namespace Go.Proofs.Ytioleipoomgmhaa
open Go.Ab

def addL (a b : List Int) : List Int := a.mapIdx fun i x => x + b.getD i 0
theorem addL_length (a b : List Int) : (addL a b).length = a.length := by simp [addL]

def addPrg (p q : Prg) : Prg := (p.1.mapIdx fun i r => addL r (q.1.getD i []), addL p.2.1 q.2.1, p.2.2.1 ++ q.2.2.1, p.2.2.2 ++ q.2.2.2)

noncomputable def apRes (p q : Prg) : Prg × Int := open Classical in if IsPrg p ∧ IsPrg q then (if p.2.1.length = q.2.1.length then limRes (addPrg p q) else (zPrg, 2)) else (zPrg, 1)

theorem apRes_sz (p q : Prg) : szSS (apRes p q).1.1 + szS (apRes p q).1.2.1 + szSS (apRes p q).1.2.2.1 + szS (apRes p q).1.2.2.2 ≤ 1048576 := by
  unfold apRes
  split
  · split
    · exact limRes_sz _
    · decide
  · decide

theorem add_w {p q : Prg} (h : IsPrg p) (g : IsPrg q) : wPrg (addPrg p q) ≤ 1048576 := by
  have := h.n1; have := h.nm; have := h.dl; have := h.al
  have := g.n1; have := g.nm; have := g.dl; have := g.al
  have h1 : szl List.length (addPrg p q).1 ≤ (addPrg p q).1.length * 5 := szl_le _ fun r hr => by
    obtain ⟨i, hi, rfl⟩ := List.mem_iff_getElem.1 hr
    have hi' : i < p.1.length := by simpa [addPrg] using hi
    simp only [addPrg, List.getElem_mapIdx, addL_length]
    rw [(h.d _ (List.getElem_mem hi')).1]
    omega
  have h2 : szl List.length (addPrg p q).2.2.1 ≤ (addPrg p q).2.2.1.length * 5 := szl_le _ fun r hr => by
    rcases List.mem_append.1 hr with hr | hr
    · rw [(h.a r hr).1]; omega
    · rw [(g.a r hr).1]; omega
  have e1 : (addPrg p q).1.length = p.1.length := by simp [addPrg]
  have e2 : (addPrg p q).2.2.1.length = p.2.2.1.length + q.2.2.1.length := by simp [addPrg]
  have e3 : (addPrg p q).2.1.length = p.2.1.length := by simp [addPrg, addL]
  have e4 : (addPrg p q).2.2.2.length = p.2.2.2.length + q.2.2.2.length := by simp [addPrg]
  simp only [szp, wl]
  omega

theorem okDD {p : Prg} (h : IsPrg p) : okRows p.1 := ⟨by have := h.nm; have := h.dl; omega, fun r hr => by have := h.nm; rw [(h.d r hr).1]; omega⟩
theorem okAA {p : Prg} (h : IsPrg p) : okRows p.2.2.1 := ⟨by have := h.nm; have := h.al; omega, fun r hr => by have := h.nm; rw [(h.a r hr).1]; omega⟩

end Go.Proofs.Ytioleipoomgmhaa
