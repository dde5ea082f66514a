/- Ways of problems with directions: what they are. No condition. -/
import Derived.Test.YtakbahndgmiobaaFB
import Derived.Test.YtakbahndgmiobaaPA1
import Derived.Test.YtakbahndgmiobaaDG1
namespace Go.Proofs.Ytakbahndgmiobaa
open Go.Ab

def wayN (n : Nat) (p : Prob) (q : List Int) (s : Nat) : List Int := pointL n (colL n p.1 s) q

theorem wayN_len (n : Nat) (p : Prob) (q : List Int) (s : Nat) : (wayN n p q s).length = n := by simp [wayN, pointL, solveL]

theorem wayN_abs {n : Nat} {p : Prob} {q : List Int} {s : Nat} (hp : PB n p) (hq : ∀ e ∈ q, e.natAbs ≤ 100) : ∀ e ∈ wayN n p q s, e.natAbs ≤ 768000000 := fun e he => by
  obtain ⟨x, hx, rfl⟩ := List.mem_map.1 he
  have h1 := solve_had s hp.n5 hp.m hq x hx
  have h2 := mulA (sgI_abs (det n (mAt (colL n p.1 s)))) h1
  omega

/-- The way from a set on. -/
def folF (n : Nat) (p : Prob) (d : List Int) : Nat → Nat → List Int → List Frac → Frac → List Int × List Frac × Int
  | 0, _, _, _, _ => ([], [], 3)
  | k + 1, s, sets, breaks, before =>
    if (bkTo (wayN n p p.2 s) (wayN n p d s) before n).2 = [] then (sets, breaks, 0)
    else if 1 < (bkTo (wayN n p p.2 s) (wayN n p d s) before n).2.length then ([], [], 5)
    else if breaks.length = 40 then ([], [], 3)
    else if det n (mAt (colL n p.1 (s ^^^ 2 ^ ((bkTo (wayN n p p.2 s) (wayN n p d s) before n).2.getD 0 0).toNat))) = 0 then ([], [], 5)
    else if (wayN n p d (s ^^^ 2 ^ ((bkTo (wayN n p p.2 s) (wayN n p d s) before n).2.getD 0 0).toNat)).getD ((bkTo (wayN n p p.2 s) (wayN n p d s) before n).2.getD 0 0).toNat 0 ≤ 0 then ([], [], 5)
    else folF n p d k (s ^^^ 2 ^ ((bkTo (wayN n p p.2 s) (wayN n p d s) before n).2.getD 0 0).toNat) (sets ++ [((s ^^^ 2 ^ ((bkTo (wayN n p p.2 s) (wayN n p d s) before n).2.getD 0 0).toNat : Nat) : Int)]) (breaks ++ [(bkTo (wayN n p p.2 s) (wayN n p d s) before n).1]) (bkTo (wayN n p p.2 s) (wayN n p d s) before n).1

/-- The first set of a way, if there is one. -/
def firstS (n : Nat) (p : Prob) : Option Nat := if (covN n p).length = 1 ∧ zeroB n p ((covN n p).getD 0 0) = false then some ((covN n p).getD 0 0) else none

def wayR (n : Nat) (p : Prob) (d : List Int) : List Int × List Frac × Int := match firstS n p with | some s => folF n p d 41 s [(s : Int)] [] (0, 1) | none => ([], [], 5)

def folRes (p : Prob) (d : List Int) : List Int × List Frac × Int := if isProb p = true then (if dirOk p.2.length d = true then wayR p.2.length p d else ([], [], 2)) else ([], [], 1)

/-- What a way comes to: few sets, fractions in lowest terms. -/
structure WayOk (r : List Int × List Frac × Int) : Prop where
  sets : r.1.length ≤ 41
  breaks : r.2.1.length ≤ 40
  low : ∀ t ∈ r.2.1, Low t
  one : r.2.2 = 0 → r.1.length = r.2.1.length + 1
  none : r.2.2 ≠ 0 → r.1 = [] ∧ r.2.1 = []

theorem folF_ok {n : Nat} {p : Prob} {d : List Int} (hp : PB n p) (hd : ∀ e ∈ d, e.natAbs ≤ 100) : ∀ (k s : Nat) (sets : List Int) (breaks : List Frac) (before : Frac), sets.length = breaks.length + 1 → breaks.length ≤ 40 → (∀ t ∈ breaks, Low t) → WayOk (folF n p d k s sets breaks before)
  | 0, _, _, _, _, _, _, _ => ⟨by simp [folF], by simp [folF], by simp [folF], by simp [folF], by simp [folF]⟩
  | k + 1, s, sets, breaks, before, h1, h2, h3 => by
    unfold folF
    split
    · exact ⟨by simp; omega, by simp; omega, h3, fun _ => h1, fun g => absurd rfl g⟩
    · split
      · exact ⟨by simp, by simp, by simp, by simp, by simp⟩
      · split
        · exact ⟨by simp, by simp, by simp, by simp, by simp⟩
        · split
          · exact ⟨by simp, by simp, by simp, by simp, by simp⟩
          · split
            · exact ⟨by simp, by simp, by simp, by simp, by simp⟩
            · refine folF_ok hp hd k _ _ _ _ (by simp; omega) (by simp; omega) fun t ht => ?_
              rcases List.mem_append.1 ht with g | g
              · exact h3 t g
              · rw [List.mem_singleton] at g
                rw [g]
                exact bk_low (wayN_abs hp hp.q) (wayN_abs hp hd) n

theorem wayR_ok {n : Nat} {p : Prob} {d : List Int} (hp : PB n p) (hd : ∀ e ∈ d, e.natAbs ≤ 100) : WayOk (wayR n p d) := by
  unfold wayR
  split
  · exact folF_ok hp hd _ _ _ _ _ rfl (by simp) (by simp)
  · exact ⟨by simp, by simp, by simp, by simp, by simp⟩

theorem folRes_ok (p : Prob) (d : List Int) : WayOk (folRes p d) := by
  unfold folRes
  split
  · rename_i h
    split
    · rename_i h2
      exact wayR_ok (PB.of h) (dirOk_iff h2).2
    · exact ⟨by simp, by simp, by simp, by simp, by simp⟩
  · exact ⟨by simp, by simp, by simp, by simp, by simp⟩

theorem folRes_sz (p : Prob) (d : List Int) : szS (folRes p d).1 ≤ 1048576 := by
  rw [szS_len]
  have := (folRes_ok p d).sets
  omega
theorem folRes_sz2 (p : Prob) (d : List Int) : szFS (folRes p d).2.1 ≤ 1048576 := by
  rw [szFS_len]
  have := (folRes_ok p d).breaks
  omega

theorem bk_none {a b : List Int} {before : Frac} (h : ∀ e ∈ b, 0 ≤ e) : ∀ i, bkTo a b before i = ((0, 1), [])
  | 0 => rfl
  | i + 1 => by
    rw [bkTo, if_neg, bk_none h i]
    unfold canOk
    rw [Bool.and_eq_true, decide_eq_true_iff]
    intro g
    have : 0 ≤ b.getD i 0 := by
      rw [List.getD_eq_getElem?_getD]
      cases e : b[i]? with
      | none => simp
      | some x => exact h x (List.mem_of_getElem? e)
    omega

/-- The one number that becomes 0. -/
theorem bk_one {a b : List Int} {before : Frac} {n : Nat} (h0 : (bkTo a b before n).2 ≠ []) (h1 : ¬ 1 < (bkTo a b before n).2.length) : ∃ i : Nat, i < n ∧ (bkTo a b before n).2 = [(i : Int)] := by
  cases e : (bkTo a b before n).2 with
  | nil => exact absurd e h0
  | cons x l =>
    rw [e] at h1
    have hl : l = [] := List.eq_nil_of_length_eq_zero (by simp only [List.length_cons] at h1; omega)
    subst hl
    have := bk_mem (a := a) (b := b) (before := before) n x (by rw [e]; simp)
    exact ⟨x.toNat, by omega, by rw [show ((x.toNat : Nat) : Int) = x by omega]⟩

end Go.Proofs.Ytakbahndgmiobaa
