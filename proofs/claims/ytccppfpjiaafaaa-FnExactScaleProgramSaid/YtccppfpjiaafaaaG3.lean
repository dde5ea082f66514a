/- What ScaleProgram comes to. No condition. -/
import Derived.Test.YtccppfpjiaafaaaG2
namespace Go.Proofs.Ytccppfpjiaafaaa
open Go.Ab

def sclPrg (p : Prg) (k : Int) : Prg := (p.1.map (fun r => r.map (k * ·)), p.2.1.map (k * ·), p.2.2.1, p.2.2.2)

noncomputable def spRes (p : Prg) (k : Int) : Prg × Int := open Classical in if IsPrg p then (if inR 1 20 k then limRes (sclPrg p k) else (zPrg, 2)) else (zPrg, 1)

theorem spRes_sz (p : Prg) (k : Int) : szSS (spRes p k).1.1 + szS (spRes p k).1.2.1 + szSS (spRes p k).1.2.2.1 + szS (spRes p k).1.2.2.2 ≤ 1048576 := by
  unfold spRes
  split
  · split
    · exact limRes_sz _
    · decide
  · decide

theorem scl_w {p : Prg} (h : IsPrg p) (k : Int) : wPrg (sclPrg p k) ≤ 1048576 := by
  have := h.n1; have := h.nm; have := h.dl; have := h.al
  have h1 : szl List.length (p.1.map (fun r => r.map (k * ·))) ≤ (p.1.map (fun r => r.map (k * ·))).length * 5 := szl_le _ fun r hr => by
    simp only [List.mem_map] at hr
    obtain ⟨r, hr, rfl⟩ := hr
    rw [List.length_map, (h.d r hr).1]; omega
  have h2 : szl List.length p.2.2.1 ≤ p.2.2.1.length * 5 := szl_le _ fun r hr => by rw [(h.a r hr).1]; omega
  simp only [szp, wl, sclPrg, List.length_map] at h1 ⊢
  omega

theorem mul20 {x k : Int} {b : Int} (hx : -b ≤ x ∧ x ≤ b) (hb : b ≤ 100) (hk : 1 ≤ k ∧ k ≤ 20) : I64 (k * x) ∧ I64 (x * k) := by
  have h1 : k * x ≤ 20 * b := by
    rcases Int.le_total 0 x with h | h
    · exact Int.le_trans (Int.mul_le_mul_of_nonneg_right hk.2 h) (Int.mul_le_mul_of_nonneg_left hx.2 (by omega))
    · have := Int.mul_nonpos_of_nonneg_of_nonpos (a := k) (b := x) (by omega) h
      have : 0 ≤ 20 * b := by omega
      omega
  have h2 : -(20 * b) ≤ k * x := by
    rcases Int.le_total 0 x with h | h
    · have := Int.mul_nonneg (a := k) (b := x) (by omega) h
      omega
    · have h3 : k * (-x) ≤ 20 * (-x) := Int.mul_le_mul_of_nonneg_right hk.2 (by omega)
      have h4 : 20 * (-x) ≤ 20 * b := Int.mul_le_mul_of_nonneg_left (by omega) (by omega)
      rw [Int.mul_neg] at h3
      omega
  rw [Int.mul_comm x k]
  unfold I64
  constructor <;> omega

end Go.Proofs.Ytccppfpjiaafaaa
