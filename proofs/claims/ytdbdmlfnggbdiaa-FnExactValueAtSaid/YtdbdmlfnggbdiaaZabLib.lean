/- Go's own slices functions, and guarded words. -/
import Derived.Test.YtdbdmlfnggbdiaaZabLaw7
namespace Go.Ab

section
variable {H : Heap} {k : Post} {op : Heap → Post → Prop}
theorem Wi.gT (h : op H k) : W.guarded (.bool true) true op H k := h
theorem Wi.gF (h : k undef H) : W.guarded (.bool false) true op H k := h
theorem Wi.nT (h : k undef H) : W.guarded (.bool true) false op H k := h
theorem Wi.nF (h : op H k) : W.guarded (.bool false) false op H k := h
theorem Wi.pickT {a b : Value} (h : k a H) : W.pick (.bool true) a b H k := h
theorem Wi.pickF {a b : Value} (h : k b H) : W.pick (.bool false) a b H k := h

/-- Both, the second looked at if the first holds. -/
theorem Wi.callV {P : Program} {f : FuncId} {xs cap : Array Value} (h : Runs P f (xs ++ cap) H k) : W.call P (.func (.func f) #[] cap) xs H k := by
  unfold W.call
  simpa using h
end

/-- A function value that tells whether something holds. -/
def PredF {α : Type} (P : Program) (fv : Value) (r : Rd α) (H : Heap) (p : α → Bool) : Prop :=
  ∀ H' bs u x (K : Post), H.Le H' → r.rel H' bs [u] x → (∀ H2, H'.Le H2 → K (.bool (p x)) H2) → W.call P fv #[u] H' K

def idxOf {α : Type} (p : α → Bool) (xs : List α) : Int := match xs.findIdx? p with | some i => i | none => -1

theorem idxOf_any {α : Type} (p : α → Bool) (xs : List α) : decide (0 ≤ idxOf p xs) = xs.any p := by
  unfold idxOf
  cases h : xs.findIdx? p with
  | none =>
    rw [List.findIdx?_eq_none_iff] at h
    have : xs.any p = false := by
      rw [List.any_eq_false]
      intro x hx
      simp [h x hx]
    rw [this]
    rfl
  | some i =>
    rw [List.findIdx?_eq_some_iff_getElem] at h
    obtain ⟨hi, hp, _⟩ := h
    have : xs.any p = true := List.any_eq_true.2 ⟨_, List.getElem_mem hi, hp⟩
    rw [this]
    simp

def indexFuncW (P : Program) (n : Nat) (Q : Post) (a f : Value) (H : Heap) : Prop :=
  W.len a H fun v1 H => W.loop (S := St [n]) (fun I s H => W.bin .lss s.1 v1 H fun v2 H => W.cond v2 H
    (fun H => W.indexAddr 1 a s.1 H fun v3 H => W.get v3 H fun v4 H => W.call P f #[v4] H fun v5 H => W.cond v5 H (fun H => Q s.1 H) (fun H => W.bin .add s.1 (.int .i64 1) H fun v6 H => I (v6, ()) H))
    (fun H => Q (.int .i64 (-1)) H)) (.int .i64 0, ()) H

theorem indexFunc_ok {α : Type} {P : Program} {r : Rd α} (hr : r.n = 1) {n : Nat} {Q : Post} {H : Heap} {bs : List Nat} {a fv : Value} {xs : List α} {p : α → Bool} (h : (Rd.slice r).rel H bs [a] xs) (hp : PredF P fv r H p)
    (hQ : ∀ H', H.Le H' → Q (.int .i64 (idxOf p xs)) H') : indexFuncW P n Q a fv H := by
  have hx := Rd.slice_small h
  obtain ⟨p1, e1, g1⟩ := Rd.slice_val h
  simp only [List.cons.injEq, and_true] at g1
  unfold indexFuncW
  rw [g1]
  refine Wi.len ?_
  rw [← g1]
  refine W.loop_rule (fun s H' => ∃ i : Nat, s = (.int .i64 i, ()) ∧ i ≤ xs.length ∧ H.Le H' ∧ ∀ (j : Nat) (hj : j < i) (g1 : j < xs.length), p xs[j] = false)
    (fun s _ => match s.1 with | .int _ i => xs.length - i.toNat | _ => 0) ⟨0, rfl, Nat.zero_le _, .refl _, fun j hj => by omega⟩ ?_
  rintro s H1 ⟨i, rfl, hi, hle, hno⟩
  refine Wi.lss (Wi.cond (fun hlt => ?_) fun hge => ?_)
  · have hix : i < xs.length := by simp only [decide_eq_true_eq] at hlt; omega
    obtain ⟨c1, o1, E1, k1, f1, q1, _, s1⟩ := Rd.slice_at (Rd.le _ h hle) hix
    obtain ⟨u1, m1, r1⟩ := s1.one hr hix
    rw [q1]
    refine Wi.index hix (Wi.get s1.blk m1 (hp _ _ _ _ _ hle r1 fun H2 l2 => Wi.cond (fun ht => ?_) fun hf => ?_))
    · have := hQ H2 (hle.trans l2)
      have e : idxOf p xs = i := by
        have : xs.findIdx? p = some i := List.findIdx?_eq_some_iff_getElem.2 ⟨hix, ht, fun j hj => by simp [hno j hj (by omega)]⟩
        simp [idxOf, this]
      rw [e] at this
      exact this
    · refine Wi.add (by unfold I64; omega) ⟨⟨i + 1, rfl, by omega, hle.trans l2, fun j hj g1 => ?_⟩, by simp only; omega⟩
      by_cases hji : j < i
      · exact hno j hji g1
      · have : j = i := by omega
        subst this
        exact hf
  · have : i = xs.length := by simp only [decide_eq_false_iff_not] at hge; omega
    subst this
    have e : idxOf p xs = -1 := by
      have : xs.findIdx? p = none := by
        rw [List.findIdx?_eq_none_iff]
        intro x hx
        obtain ⟨j, hj, rfl⟩ := List.mem_iff_getElem.1 hx
        exact hno j hj hj
      simp [idxOf, this]
    have := hQ H1 hle
    rw [e] at this
    exact this

def IndexF {α : Type} (P : Program) (f : FuncId) (r : Rd α) : Prop :=
  ∀ H bs a fv xs (p : α → Bool) (Q : Post), (Rd.slice r).rel H bs [a] xs → PredF P fv r H p → (∀ H', H.Le H' → Q (.int .i64 (idxOf p xs)) H') → Runs P f #[a, fv] H Q

theorem IndexF.of {α : Type} {P : Program} {f : FuncId} {r : Rd α} (hr : r.n = 1) {n : Nat} (enter : ∀ (Q : Post) (a fv : Value) (H : Heap), indexFuncW P n Q a fv H → Runs P f #[a, fv] H Q) : IndexF P f r :=
  fun _ _ _ _ _ _ _ h hp hQ => enter _ _ _ _ (indexFunc_ok hr h hp hQ)

def ContainsF {α : Type} (P : Program) (f : FuncId) (r : Rd α) : Prop :=
  ∀ H bs a fv xs (p : α → Bool) (Q : Post), (Rd.slice r).rel H bs [a] xs → PredF P fv r H p → (∀ H', H.Le H' → Q (.bool (xs.any p)) H') → Runs P f #[a, fv] H Q

def containsFuncW (P : Program) (g : FuncId) (Q : Post) (a f : Value) (H : Heap) : Prop :=
  W.call P (.func (.func g) #[] #[]) #[a, f] H fun v1 H => W.bin .geq v1 (.int .i64 0) H fun v2 H => Q v2 H

theorem ContainsF.of {α : Type} {P : Program} {f g : FuncId} {r : Rd α} (hg : IndexF P g r) (enter : ∀ (Q : Post) (a fv : Value) (H : Heap), containsFuncW P g Q a fv H → Runs P f #[a, fv] H Q) : ContainsF P f r :=
  fun _ _ _ _ _ p _ h hp hQ => enter _ _ _ _ (Wi.call (hg _ _ _ _ _ p _ h hp fun H' l => Wi.geq (by rw [idxOf_any]; exact hQ H' l)))

end Go.Ab
