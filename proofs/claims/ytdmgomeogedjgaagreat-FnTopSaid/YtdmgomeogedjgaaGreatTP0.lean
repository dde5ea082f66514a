/- Problems with P matrices: one solution, which the rule 0 finds. No condition. -/
import Derived.Test.YtdmgomeogedjgaaGreatSO5
import Derived.Test.YtdmgomeogedjgaaGreatFB
namespace Go.Proofs.YtdmgomeogedjgaaGreat
open Go.Ab

theorem covB_P {n : Nat} {p : Prob} {s : Nat} (hD : det n (mAt (colL n p.1 s)) ≠ 0) : covB n p s = true ↔ ∀ i, i < n → 0 ≤ (ptOf n p s).getD i 0 := by
  unfold covB
  rw [decide_eq_true hD, Bool.true_and, List.all_eq_true]
  constructor
  · intro h i hi
    have hl : i < (ptOf n p s).length := by rw [ptOf_len]; exact hi
    rw [atD hl]
    exact of_decide_eq_true (h _ (List.getElem_mem hl))
  · intro h x hx
    obtain ⟨i, hi, rfl⟩ := List.mem_iff_getElem.1 hx
    have hin : i < n := by simpa [pointL, solveL] using hi
    have := h i hin
    rw [atD (show i < (ptOf n p s).length by rw [ptOf_len]; exact hin)] at this
    exact decide_eq_true this

theorem frac_fr {x D : Int} (hD : D ≠ 0) (h1 : x.natAbs ≤ 1000000000) (h2 : D.natAbs ≤ 1000000000) : isFr 1000000000 (frac x D) = true := by
  have p1 := frac_pos (n := x) hD
  have m1 := frac_mul (n := x) hD
  have g1 := frac_gcd (n := x) hD
  generalize frac x D = c at *
  have hdvd : c.2 ∣ D := by
    have : c.2 ∣ c.1 * D := ⟨x, by rw [m1, Int.mul_comm]⟩
    exact Int.natAbs_dvd_natAbs.1 (Nat.Coprime.dvd_of_dvd_mul_left (show Nat.gcd c.2.natAbs c.1.natAbs = 1 by rw [Nat.gcd_comm]; exact g1) (by rw [← Int.natAbs_mul]; exact Int.natAbs_dvd_natAbs.2 this))
  have hle : c.2.natAbs ≤ D.natAbs := Nat.le_of_dvd (by omega) (Int.natAbs_dvd_natAbs.2 hdvd)
  have hx : c.1.natAbs ≤ x.natAbs := by
    obtain ⟨k, hk⟩ := hdvd
    have hk0 : k ≠ 0 := fun e => hD (by rw [hk, e, Int.mul_zero])
    rw [hk, ← Int.mul_assoc, Int.mul_comm (c.1) (c.2), Int.mul_assoc, Int.mul_comm x] at m1
    have := Int.eq_of_mul_eq_mul_left (show c.2 ≠ 0 by omega) m1
    rw [← this, Int.natAbs_mul]
    exact Nat.le_mul_of_pos_right _ (by omega)
  exact isFr_iff.2 ⟨⟨by omega, by omega⟩, ⟨by omega, by omega⟩, g1⟩

theorem solF_fr {n : Nat} {p : Prob} {s : Nat} (hp : PB n p) (hD : det n (mAt (colL n p.1 s)) ≠ 0) : ∀ a ∈ solF n p s, isFr 1000000000 a = true := fun a ha => by
  obtain ⟨i, hi, rfl⟩ := List.mem_map.1 ha
  have hin : i < n := by simpa using hi
  split
  · have hl : i < (solveL n (colL n p.1 s) p.2).length := by rw [solveL_len]; exact hin
    have h1 := solve_had s hp.n5 hp.m hp.q _ (List.getElem_mem hl)
    have h2 := colL_leib s hp.n5 hp.m
    rw [atD hl]
    exact frac_fr hD (by omega) (by omega)
  · decide

/-- What a problem with a P matrix comes to. -/
theorem top_facts {p : Prob} (hp : isProb p = true) (hP : IsP p.2.length p.1) : ∃ (Z : List Frac) (s0 : Nat), s0 < 2 ^ p.2.length ∧ covB p.2.length p s0 = true ∧ (∀ s, s < 2 ^ p.2.length → covB p.2.length p s = true → solF p.2.length p s = Z) ∧ (∀ a ∈ Z, isFr 1000000000 a = true) ∧ srRes p 0 = (Z, 0) := by
  have hpb := PB.of hp
  obtain ⟨s0, h1, h2⟩ := P_some (n := p.2.length) (p := p) hP
  have hD := fun s (hs : s < 2 ^ p.2.length) => P_det (p := p) hP hs
  have hall : ∀ s, s < 2 ^ p.2.length → covB p.2.length p s = true → solF p.2.length p s = solF p.2.length p s0 := fun s hs hc => P_solF hP hs h1 ((covB_P (hD s hs)).1 hc) h2
  have hfr := solF_fr hpb (hD s0 h1)
  refine ⟨solF p.2.length p s0, s0, h1, (covB_P (hD s0 h1)).2 h2, hall, hfr, ?_⟩
  obtain ⟨k, hk⟩ := P_run (n := p.2.length) (p := p) hP (s0 := 0) (Nat.pow_pos (by decide))
  have hc := cls_zero hk.2
  have hss := ss_lt (n := p.2.length) (p := p) (rule := 0) (s0 := 0) (Nat.pow_pos (by decide)) k
  have he : ruC p 0 = 0 := by unfold ruC; rw [if_pos hp, if_pos (by decide)]
  have e := hall _ hss ((covB_P hc.1).2 fun i hi => by
    have hl : i < (ptOf p.2.length p (ss p.2.length p 0 0 k)).length := by rw [ptOf_len]; exact hi
    rw [atD hl]
    exact hc.2 _ (List.getElem_mem hl))
  unfold srRes
  rw [if_pos he, runOf_eq hk, if_pos rfl]
  dsimp only
  rw [e]
  unfold tolF
  rw [if_pos (List.all_eq_true.2 hfr)]

end Go.Proofs.YtdmgomeogedjgaaGreat
