/- Lists of fractions joined; compared. No condition. -/
import Derived.Test.YtdmgomeogedjgaaGreatGAB
import Derived.Test.YtdmgomeogedjgaaGreatZabG5
namespace Go.Proofs.YtdmgomeogedjgaaGreat
open Go.Ab





theorem Wi.nePair {a c : Frac} {H : Heap} {k : Post} (ha : I64 a.1 ∧ I64 a.2) (hc : I64 c.1 ∧ I64 c.2) (h : k (.bool !(decide (a = c))) H) : W.eqPair .neq (.agg (frC a).toArray) (.agg (frC c).toArray) H k := by
  show W.eqPair .neq (.agg #[.int .i64 a.1, .int .i64 a.2]) (.agg #[.int .i64 c.1, .int .i64 c.2]) H k
  unfold W.eqPair
  refine ⟨by rw [wf_of_i64 ha.1, wf_of_i64 ha.2, wf_of_i64 hc.1, wf_of_i64 hc.2]; rfl, ?_⟩
  have e : decide (a = c) = (decide (a.1 = c.1) && decide (a.2 = c.2)) := by
    rw [Bool.eq_iff_iff, Bool.and_eq_true, decide_eq_true_iff, decide_eq_true_iff, decide_eq_true_iff]
    exact Prod.ext_iff
  rw [e] at h
  exact h



end Go.Proofs.YtdmgomeogedjgaaGreat
