/- The least of a list, by a loop. No condition. -/
import Derived.Test.YtdmgomeogedjgaaGreatGAB
import Derived.Test.YtdmgomeogedjgaaGreatZabG5
namespace Go.Proofs.YtdmgomeogedjgaaGreat
open Go.Ab

theorem Wi.min2 {a b : Int} {κ κ' : IntKind} {H : Heap} {k : Post} (h : k (.int κ (if b < a then b else a)) H) : W.min2 (.int κ a) (.int κ' b) H k := h

/-- The least of a list, by a loop. -/
theorem min_loop {H0 H : Heap} {L : List (Atom H0.next)} {v : Value} {l : List Int} {K : Post} (h : Ab.Loc H0 L H) [RdV L [v] RS l] (h0 : 0 < l.length) (hK : ∀ r, r ∈ l → (∀ e ∈ l, r ≤ e) → K (.int .i64 r) H) :
    W.loop (S := Value × Value × Unit) (fun I s H => W.len v H fun v5 H => W.bin .lss s.2.1 v5 H fun v6 H => W.cond v6 H (fun H => W.indexAddr 1 v s.2.1 H fun v7 H => W.get v7 H fun v8 H => W.min2 s.1 v8 H fun v9 H => W.bin .add s.2.1 (.int .i64 1) H fun v10 H => I (v9, v10, ()) H) (fun H => K s.1 H))
      (.int .i64 l[0], .int .i64 1, ()) H := by
  have hsm := (h.rd (cs := [v])).small
  refine W.for_rule (l.length - 1) (fun k s H' => H' = H ∧ ∃ r, s = (.int .i64 r, .int .i64 ((k + 1 : Nat) : Int), ()) ∧ r ∈ l ∧ ∀ j (hj : j < l.length), j ≤ k → r ≤ l[j]) ⟨rfl, l[0], rfl, List.getElem_mem h0, fun j hj hj0 => ?_⟩ ?_
  · have : j = 0 := by omega
    subst this
    exact Int.le_refl _
  rintro k s H' J hk ⟨rfl, r, rfl, hr, hle⟩ hJ
  refine Wl.len h (Wi.lssC (fun hlt => Wi.tru ?_) fun hge => Wi.fls ?_)
  · have hkl : k + 1 < l.length := by omega
    refine Wl.atInt h (i := k + 1) hkl fun _ => Wi.min2 (Wi.add (by unfold I64; omega) (hJ _ _ (by omega) ⟨rfl, _, rfl, ?_, fun j hj hjk => ?_⟩))
    · split
      · exact List.getElem_mem hkl
      · exact hr
    · by_cases e : j = k + 1
      · subst e
        split <;> omega
      · have := hle j hj (by omega)
        split <;> omega
  · refine hK r hr fun e he => ?_
    obtain ⟨j, hj, rfl⟩ := List.mem_iff_getElem.1 he
    exact hle j hj (by omega)

end Go.Proofs.YtdmgomeogedjgaaGreat
