/- Contracts of the program's ScaleRow. No condition. -/
import Derived.Test.YtanpnljhopankaaScaleA
namespace Go.Proofs.Ytanpnljhopankaa
open Go.Ab

def scaleTo (k : Int) (row : List Int) (x : Nat) : List Int := (row.take x).map (· * k) ++ row.drop x

theorem scaleTo_length (k : Int) (row : List Int) (x : Nat) : (scaleTo k row x).length = row.length := by
  simp [scaleTo]; omega

theorem scaleTo_zero (k : Int) (row : List Int) : scaleTo k row 0 = row := by simp [scaleTo]
theorem scaleTo_all (k : Int) (row : List Int) : scaleTo k row row.length = row.map (· * k) := by simp [scaleTo]

theorem scaleTo_get {k : Int} {row : List Int} {x : Nat} (h : x < row.length) : (scaleTo k row x)[x]'(by rw [scaleTo_length]; exact h) = row[x] := by
  unfold scaleTo
  rw [List.getElem_append_right (by simp; omega)]
  simp
  congr 1
  omega

theorem scaleTo_succ {k : Int} {row : List Int} {x : Nat} (h : x < row.length) : (scaleTo k row x).set x (row[x] * k) = scaleTo k row (x + 1) := by
  unfold scaleTo
  have hl : ((row.take x).map (· * k)).length = x := by simp; omega
  rw [List.set_append_right _ _ (by omega), hl, Nat.sub_self, List.drop_eq_getElem_cons h, List.set_cons_zero, List.take_succ_eq_append_getElem h, List.map_append]
  simp

/-- A problem with one row scaled. -/
def scaled (p : Prob) (i : Nat) (k : Int) : Prob := (p.1.set i ((p.1.getD i []).map (· * k)), p.2.set i (p.2.getD i 0 * k))

def scaleRes (p : Prob) (i k : Int) : Prob × Int :=
  if isProb p then (if inR 0 (p.2.length - 1) i && inR 1 100 k then (if isProb (scaled p i.toNat k) then (scaled p i.toNat k, 0) else (([], []), 3)) else (([], []), 2)) else (([], []), 1)

theorem fresh_none {H H' : Heap} (l : H.Le H') : Fresh RProblem H [.slice none 0 0, .slice none 0 0] ([], []) H' := by
  have f : ∀ {α : Type} (r : Rd α), Fresh (Rd.slice r) H' [.slice none 0 0] [] H' := fun r => ⟨.refl _, [], .inl ⟨rfl, rfl, .inl rfl⟩, List.nodup_nil, (fun c hc => by cases hc), (fun c hc => by cases hc)⟩
  exact ((f RS).pair (f Rd.int)).from l

theorem isProb_rows {p : Prob} (h : isProb p = true) : okRows p.1 ∧ 0 < p.1.length ∧ p.1.length ≤ 5 ∧ p.2.length = p.1.length ∧ (∀ r ∈ p.1, r.length = p.1.length ∧ ∀ x ∈ r, -20 ≤ x ∧ x ≤ 20) ∧ ∀ x ∈ p.2, -100 ≤ x ∧ x ≤ 100 := by
  unfold isProb at h
  rw [isMat_eq] at h
  simp only [Bool.and_eq_true, decide_eq_true_eq, List.all_eq_true, inR, allUp] at h
  obtain ⟨⟨⟨⟨h1, h2⟩, h3⟩, h4⟩, h5⟩ := h
  refine ⟨⟨by omega, fun r hr => ?_⟩, by omega, h2, h4, fun r hr => ?_, fun x hx => by have := h5 x hx; omega⟩
  · have := (h3 r hr).1
    omega
  · exact ⟨(h3 r hr).1, fun x hx => by have := (h3 r hr).2 x hx; omega⟩

theorem Wi.putA {n b : Nat} {zero cs : List Value} {ty : TypeId} {e : Nat} {H : Heap} {k : Post} (hb : H.blk b = some ⟨zero, ty, e, false⟩) (hz : zero.length = n) (hl : cs.length = n) (hc : cs.all isCell = true)
    (h : ∀ H', H.Wr b ⟨cs, ty, e, false⟩ H' → k undef H') : W.putN n (pt b 0) (.agg cs.toArray) H k := by
  refine Wi.putN hb (by simpa using hl) (by simpa using hc) rfl (by simp [hz]) fun H' w => h H' ?_
  have e : (zero.take 0 ++ cs.toArray.toList ++ zero.drop (0 + n)) = cs := by simp [hz]
  rw [e] at w
  exact w

theorem fn53 {H : Heap} {Q : Post} {bs : List Nat} {cs : List Value} {p : Prob} (hr : RProblem.rel H bs cs p)
    (hQ : ∀ H', H.Le H' → if isProb p then Q (.tuple #[.agg cs.toArray, .int .i64 0]) H' else Q (.tuple #[.agg #[.slice none 0 0, .slice none 0 0], .int .i64 3]) H') : Runs Try.prog 53 #[.agg cs.toArray] H Q := by
  have hl : cs.length = 2 := RProblem.len hr
  refine f53.enter ?_
  unfold f53.w
  refine Wi.box fun H1 l1 n1 k1 => Wi.new fun H2 l2 n2 k2 => Wi.getA (l2.at k1 (by omega)) hl (Wi.call (fn36 (Rd.le _ hr (l1.trans l2)) fun H3 l3 => Wi.not ?_))
  have l13 := l1.trans (l2.trans l3)
  cases hb : isProb p with
  | false =>
    refine Wi.tru (Wi.build (cells := [.slice none 0 0, .slice none 0 0]) rfl (Wi.putN (l3.at k2 (by omega)) rfl rfl rfl (by simp) fun H4 w4 => Wi.getN w4.here (by simp) ?_))
    have := hQ H4 (w4.le l13 (by have := l1.next; omega))
    rw [hb] at this
    exact this
  | true =>
    refine Wi.fls (Wi.getA ((l2.trans l3).at k1 (by omega)) hl (Wi.putA (l3.at k2 (by omega)) rfl hl (RProblem.cell hr) fun H4 w4 => Wi.getA w4.here hl ?_))
    have := hQ H4 (w4.le l13 (by have := l1.next; omega))
    rw [hb] at this
    exact this

end Go.Proofs.Ytanpnljhopankaa
