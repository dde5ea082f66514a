/- Texts parted at a byte, and decimal numerals. No model and no program here. -/
import Derived.Lib.SplitLaws
import Derived.Lib.IndexMore
import Derived.Lib.ItoaNum
import Derived.Lib.ItoaMem
import Derived.Lib.ParseIntB
import Derived.Lib.ParseIntBCases
import Derived.Lib.ParseIntBTie
import Derived.Lib.Join
namespace Go.Ab
open Go.Lib

/-- The parts of a text between bytes c. -/
def splitL (c : UInt8) : List UInt8 → List (List UInt8)
  | [] => [[]]
  | x :: l => if x = c then [] :: splitL c l else (match splitL c l with | h :: t => (x :: h) :: t | [] => [[x]])

theorem splitL_ne (c : UInt8) : ∀ l, splitL c l ≠ []
  | [] => by simp [splitL]
  | x :: l => by
    unfold splitL
    split
    · simp
    · split <;> simp

theorem splitL_other {c x : UInt8} (h : x ≠ c) {l : List UInt8} {a : List UInt8} {t : List (List UInt8)} (e : splitL c l = a :: t) : splitL c (x :: l) = (x :: a) :: t := by
  rw [splitL, if_neg h, e]

theorem splitL_not {c : UInt8} : ∀ {l : List UInt8}, c ∉ l → splitL c l = [l]
  | [], _ => rfl
  | x :: l, h => by
    simp only [List.mem_cons, not_or] at h
    exact splitL_other (fun e => h.1 e.symm) (splitL_not h.2)

theorem splitL_app {c : UInt8} {b : List UInt8} : ∀ {a : List UInt8}, c ∉ a → splitL c (a ++ c :: b) = a :: splitL c b
  | [], _ => by simp [splitL]
  | x :: a, h => by
    simp only [List.mem_cons, not_or] at h
    exact splitL_other (fun e => h.1 e.symm) (splitL_app h.2)

theorem splitL_snoc {c x : UInt8} : ∀ {p : List UInt8} {o : List (List UInt8)} {q : List UInt8}, splitL c p = o ++ [q] → splitL c (p ++ [x]) = if x = c then o ++ [q] ++ [[]] else o ++ [q ++ [x]]
  | [], o, q, h => by
    have h : [[]] = o ++ [q] := h
    have ho : o = [] := by
      cases o with
      | nil => rfl
      | cons y o => have := congrArg List.length h; simp at this
    subst ho
    simp only [List.nil_append, List.cons.injEq, and_true] at h
    subst h
    by_cases e : x = c
    · simp [splitL, e]
    · simp [splitL, e]
  | y :: p, o, q, h => by
    by_cases e : y = c
    · rw [splitL, if_pos e] at h
      rw [List.cons_append, splitL, if_pos e]
      cases o with
      | nil =>
        simp only [List.nil_append, List.cons.injEq] at h
        exact absurd h.2 (splitL_ne c p)
      | cons z o =>
        simp only [List.cons_append, List.cons.injEq] at h
        obtain ⟨rfl, h⟩ := h
        rw [splitL_snoc h]
        split <;> simp
    · obtain ⟨a, t, ht⟩ : ∃ a t, splitL c p = a :: t := by
        cases g : splitL c p with
        | nil => exact absurd g (splitL_ne c p)
        | cons a t => exact ⟨a, t, rfl⟩
      rw [splitL_other e ht] at h
      cases o with
      | nil =>
        simp only [List.nil_append, List.cons.injEq] at h
        obtain ⟨rfl, rfl⟩ := h
        have := splitL_snoc (x := x) (o := []) (q := a) (by rw [ht]; rfl)
        rw [List.cons_append]
        by_cases g : x = c
        · rw [if_pos g] at this ⊢
          rw [splitL_other e (by rw [this]; rfl)]
          rfl
        · rw [if_neg g] at this ⊢
          rw [splitL_other e (by rw [this]; rfl)]
          rfl
      | cons z o =>
        simp only [List.cons_append, List.cons.injEq] at h
        obtain ⟨rfl, rfl⟩ := h
        have := splitL_snoc (x := x) (o := a :: o) (q := q) (by rw [ht]; rfl)
        rw [List.cons_append]
        by_cases g : x = c
        · rw [if_pos g] at this ⊢
          rw [splitL_other e (by rw [this]; rfl)]
          rfl
        · rw [if_neg g] at this ⊢
          rw [splitL_other e (by rw [this]; rfl)]
          rfl

theorem splitL_sum (c : UInt8) : ∀ l, ((splitL c l).map List.length).sum + (splitL c l).length = l.length + 1
  | [] => rfl
  | x :: l => by
    have ih := splitL_sum c l
    by_cases e : x = c
    · rw [splitL, if_pos e]
      simp only [List.map_cons, List.sum_cons, List.length_cons, List.length_nil]
      omega
    · obtain ⟨a, t, ht⟩ : ∃ a t, splitL c l = a :: t := by
        cases g : splitL c l with
        | nil => exact absurd g (splitL_ne c l)
        | cons a t => exact ⟨a, t, rfl⟩
      rw [splitL_other e ht]
      rw [ht] at ih
      simp only [List.map_cons, List.sum_cons, List.length_cons] at ih ⊢
      omega

theorem mem_le_sum : ∀ {l : List Nat} {x : Nat}, x ∈ l → x ≤ l.sum
  | [], x, h => by cases h
  | y :: l, x, h => by
    rw [List.sum_cons]
    rcases List.mem_cons.1 h with rfl | h
    · omega
    · have := mem_le_sum h; omega

theorem splitL_len {c : UInt8} {l p : List UInt8} (h : p ∈ splitL c l) : p.length ≤ l.length := by
  have h1 := splitL_sum c l
  have h2 := mem_le_sum (List.mem_map_of_mem (f := List.length) h)
  have h3 : 1 ≤ (splitL c l).length := by
    cases g : splitL c l with
    | nil => exact absurd g (splitL_ne c l)
    | cons a t => simp
  omega

theorem splitL_cnt {c : UInt8} {l : List UInt8} : (splitL c l).length ≤ l.length + 1 := by
  have := splitL_sum c l
  omega

/-- Parts joined and parted again. -/
theorem splitL_join {c : UInt8} : ∀ {ps : List (List UInt8)}, ps ≠ [] → (∀ p ∈ ps, c ∉ p) → splitL c (join ps [c]) = ps
  | [], h, _ => absurd rfl h
  | [p], _, h => by rw [join_one]; exact splitL_not (h p (by simp))
  | p :: q :: r, _, h => by
    have ih := splitL_join (ps := q :: r) (by simp) (fun x hx => h x (List.mem_cons_of_mem _ hx))
    have e : join (p :: q :: r) [c] = p ++ c :: join (q :: r) [c] := by
      rw [join_cons, join_cons]
      simp [joinTail]
    rw [e, splitL_app (h p (by simp)), ih]

theorem join_mem {c x : UInt8} : ∀ {ps : List (List UInt8)}, x ∈ join ps [c] → x = c ∨ ∃ p ∈ ps, x ∈ p
  | [], h => by simp [join_nil] at h
  | p :: r, h => by
    rw [join_cons, List.mem_append] at h
    rcases h with h | h
    · exact .inr ⟨p, by simp, h⟩
    · simp only [joinTail, List.mem_flatten, List.mem_map] at h
      obtain ⟨_, ⟨q, hq, rfl⟩, h⟩ := h
      simp only [List.cons_append, List.nil_append, List.mem_cons] at h
      rcases h with h | h
      · exact .inl h
      · exact .inr ⟨q, List.mem_cons_of_mem _ hq, h⟩

/-! ### The library's own words -/

theorem splitK_eq (c : UInt8) : ∀ l : List UInt8, splitK [c] 0 (count l [c]) l = splitL c l
  | [] => by rw [count_miss (by simp [index])]; rfl
  | x :: l => by
    have ih := splitK_eq c l
    by_cases h : x = c
    · subst h
      have hix : index (x :: l) [x] = 0 := by rw [index]; simp [List.isPrefixOf]
      rw [count_cons_eq, Nat.add_comm, splitK, if_neg (by rw [hix]; decide), hix, splitL, if_pos rfl]
      simp [ih]
    · have hp : ([c] : List UInt8).isPrefixOf (x :: l) = false := by simp [List.isPrefixOf, Ne.symm h]
      have hix : index (x :: l) [c] = if index l [c] == -1 then -1 else index l [c] + 1 := by rw [index, hp]; simp
      rw [count_cons_ne x c l h]
      by_cases hm : index l [c] = -1
      · rw [count_miss hm] at ih ⊢
        rw [splitK] at ih
        rw [splitK, splitL_other h ih.symm]
      · have hge := index_ge l [c]
        obtain ⟨j, hj⟩ : ∃ j : Nat, index l [c] = j := ⟨(index l [c]).toNat, by omega⟩
        have hc := count_hit (sub := [c]) (by simp) hj
        rw [hc, Nat.add_comm] at ih ⊢
        have hix' : index (x :: l) [c] = ((j + 1 : Nat) : Int) := by rw [hix, if_neg (fun e => hm (beq_iff_eq.1 e)), hj]; omega
        rw [splitK, if_neg (by rw [hj]; intro e; have := beq_iff_eq.1 e; omega), hj] at ih
        rw [splitK, if_neg (by rw [hix']; intro e; have := beq_iff_eq.1 e; omega), hix', splitL_other h ih.symm]
        simp

theorem cut_miss {c : UInt8} {l : List UInt8} (h : c ∉ l) : cut l [c] = (l, [], false) := by
  have h1 : index l [c] = -1 := by
    rw [index_one]
    have := indexByte_ge l c
    rcases (by omega : indexByte l c < 0 ∨ 0 ≤ indexByte l c) with g | g
    · omega
    · obtain ⟨j, hj⟩ : ∃ j : Nat, indexByte l c = j := ⟨(indexByte l c).toNat, by omega⟩
      exact absurd (List.mem_of_getElem? (indexByte_some hj).1) h
  unfold cut
  rw [if_neg (by omega)]

theorem cut_hit {c : UInt8} {l : List UInt8} (h : c ∈ l) : ∃ a b, l = a ++ c :: b ∧ c ∉ a ∧ cut l [c] = (a, b, true) := by
  obtain ⟨k, hk⟩ := List.getElem?_of_mem h
  rcases (by omega : indexByte l c < 0 ∨ 0 ≤ indexByte l c) with g | g
  · have := indexByte_ge l c
    exact absurd hk (indexByte_none (by omega) k)
  · obtain ⟨j, hj⟩ : ∃ j : Nat, indexByte l c = j := ⟨(indexByte l c).toNat, by omega⟩
    obtain ⟨h1, h2⟩ := indexByte_some hj
    obtain ⟨hjl, h1⟩ := List.getElem?_eq_some_iff.1 h1
    refine ⟨l.take j, l.drop (j + 1), ?_, ?_, ?_⟩
    · rw [← h1, ← List.drop_eq_getElem_cons hjl, List.take_append_drop]
    · intro hm
      obtain ⟨i, hi⟩ := List.getElem?_of_mem hm
      have hil := (List.getElem?_eq_some_iff.1 hi).1
      simp only [List.length_take] at hil
      rw [List.getElem?_take, if_pos (by omega)] at hi
      exact h2 i (by omega) hi
    · unfold cut
      rw [index_one, hj, if_pos (by omega)]
      simp

/-! ### Numerals -/

def isDig (c : UInt8) : Prop := 48 ≤ c.toNat ∧ c.toNat ≤ 57

instance (c : UInt8) : Decidable (isDig c) := by unfold isDig; infer_instance

/-- What digits spell behind what came ahead. -/
def valF (a : Nat) (l : List UInt8) : Nat := l.foldl (fun n c => n * 10 + (c.toNat - 48)) a

theorem valF_snoc (a : Nat) (l : List UInt8) (c : UInt8) : valF a (l ++ [c]) = valF a l * 10 + (c.toNat - 48) := by simp [valF]

theorem dec_step {u : Nat} (h : ¬ u < 10) : decDigits u = decDigits (u / 10) ++ [UInt8.ofNat (48 + u % 10)] := by rw [decDigits, dif_neg h]

theorem ofNat_dig {d : Nat} (h : d < 10) : (UInt8.ofNat (48 + d)).toNat = 48 + d := by
  rw [UInt8.toNat_ofNat']
  exact Nat.mod_eq_of_lt (by omega)

theorem dec_dig (u : Nat) : ∀ c ∈ decDigits u, isDig c := by
  induction u using Nat.strongRecOn with
  | _ u ih =>
    intro c hc
    by_cases h : u < 10
    · rw [decDigits_one h, List.mem_singleton] at hc
      subst hc
      unfold isDig
      rw [ofNat_dig h]
      omega
    · rw [dec_step h, List.mem_append, List.mem_singleton] at hc
      rcases hc with hc | rfl
      · exact ih (u / 10) (by omega) c hc
      · unfold isDig
        rw [ofNat_dig (by omega)]
        omega

theorem dec_ne (u : Nat) : decDigits u ≠ [] := by
  by_cases h : u < 10
  · rw [decDigits_one h]; simp
  · rw [dec_step h]; simp

theorem dec_val (u : Nat) : valF 0 (decDigits u) = u := by
  induction u using Nat.strongRecOn with
  | _ u ih =>
    by_cases h : u < 10
    · rw [decDigits_one h]
      simp only [valF, List.foldl_cons, List.foldl_nil]
      rw [ofNat_dig h]
      omega
    · rw [dec_step h, valF_snoc, ih (u / 10) (by omega), ofNat_dig (by omega)]
      omega

/-- No leading zero, but in the numeral of 0. -/
def noLead (l : List UInt8) : Prop := 1 < l.length → l[0]? ≠ some 48

theorem dec_lead (u : Nat) : 1 ≤ u → (decDigits u)[0]? ≠ some 48 := by
  induction u using Nat.strongRecOn with
  | _ u ih =>
    intro h1 e
    by_cases h : u < 10
    · rw [decDigits_one h] at e
      simp only [List.getElem?_cons_zero, Option.some.injEq] at e
      have := congrArg UInt8.toNat e
      rw [ofNat_dig h] at this
      have h48 : (48 : UInt8).toNat = 48 := rfl
      omega
    · rw [dec_step h, List.getElem?_append_left (by have := dec_ne (u / 10); exact List.length_pos_iff.2 this)] at e
      exact ih (u / 10) (by omega) (by omega) e

theorem dec_noLead (u : Nat) : noLead (decDigits u) := by
  intro h
  refine dec_lead u ?_
  rcases Nat.eq_zero_or_pos u with rfl | g
  · rw [decDigits_one (by omega)] at h; simp at h
  · exact g

theorem val_pos : ∀ (k : Nat) (l : List UInt8), l.length = k → l ≠ [] → (∀ c ∈ l, isDig c) → l[0]? ≠ some 48 → 1 ≤ valF 0 l := by
  intro k
  induction k with
  | zero => intro l h g; exact absurd (List.eq_nil_of_length_eq_zero h) g
  | succ k ih =>
    intro l h g hd h0
    obtain ⟨p, c, rfl⟩ : ∃ p c, l = p ++ [c] := ⟨l.dropLast, l.getLast g, (List.dropLast_concat_getLast g).symm⟩
    rw [valF_snoc]
    by_cases hp : p = []
    · subst hp
      have := hd c (by simp)
      simp only [List.nil_append, List.getElem?_cons_zero, ne_eq, Option.some.injEq] at h0
      have h48 : c.toNat ≠ 48 := fun e => h0 (UInt8.toNat_inj.1 e)
      unfold isDig at this
      simp only [valF, List.foldl_nil]
      omega
    · have := ih p (by simp at h; omega) hp (fun x hx => hd x (by simp [hx])) (by rwa [List.getElem?_append_left (List.length_pos_iff.2 hp)] at h0)
      omega

/-- Digits without a leading zero are the numeral of what they spell. -/
theorem dec_of_val : ∀ (k : Nat) (l : List UInt8), l.length = k → l ≠ [] → (∀ c ∈ l, isDig c) → noLead l → decDigits (valF 0 l) = l := by
  intro k
  induction k with
  | zero => intro l h g; exact absurd (List.eq_nil_of_length_eq_zero h) g
  | succ k ih =>
    intro l h g hd h0
    obtain ⟨p, c, rfl⟩ : ∃ p c, l = p ++ [c] := ⟨l.dropLast, l.getLast g, (List.dropLast_concat_getLast g).symm⟩
    rw [valF_snoc]
    have hc := hd c (by simp)
    unfold isDig at hc
    by_cases hp : p = []
    · subst hp
      simp only [valF, List.foldl_nil, Nat.zero_mul, Nat.zero_add, List.nil_append]
      rw [decDigits_one (by omega)]
      congr 1
      apply UInt8.toNat_inj.1
      rw [ofNat_dig (by omega)]
      omega
    · have hpl := List.length_pos_iff.2 hp
      have h0' : p[0]? ≠ some 48 := by
        have := h0 (by simp; omega)
        rwa [List.getElem?_append_left hpl] at this
      have h1 := val_pos p.length p rfl hp (fun x hx => hd x (by simp [hx])) h0'
      have hi := ih p (by simp at h; omega) hp (fun x hx => hd x (by simp [hx])) (fun _ => h0')
      rw [dec_step (by omega), show (valF 0 p * 10 + (c.toNat - 48)) / 10 = valF 0 p by omega, hi, show (valF 0 p * 10 + (c.toNat - 48)) % 10 = c.toNat - 48 by omega]
      congr 2
      apply UInt8.toNat_inj.1
      rw [ofNat_dig (by omega)]
      omega

theorem val_lt : ∀ (l : List UInt8), (∀ c ∈ l, isDig c) → valF 0 l < 10 ^ l.length := by
  intro l
  suffices H : ∀ (k : Nat) (l : List UInt8), l.length = k → (∀ c ∈ l, isDig c) → valF 0 l < 10 ^ k from fun h => H l.length l rfl h
  intro k
  induction k with
  | zero => intro l h _; rw [List.eq_nil_of_length_eq_zero h]; simp [valF]
  | succ k ih =>
    intro l h hd
    have g : l ≠ [] := fun e => by rw [e] at h; simp at h
    obtain ⟨p, c, rfl⟩ : ∃ p c, l = p ++ [c] := ⟨l.dropLast, l.getLast g, (List.dropLast_concat_getLast g).symm⟩
    rw [valF_snoc]
    have hc := hd c (by simp)
    unfold isDig at hc
    have := ih p (by simp at h; omega) (fun x hx => hd x (by simp [hx]))
    rw [Nat.pow_succ]
    omega

theorem dec_len9 {u : Nat} (h : (decDigits u).length ≤ 9) : u < 1000000000 := by
  have := val_lt (decDigits u) (dec_dig u)
  rw [dec_val] at this
  have h2 : 10 ^ (decDigits u).length ≤ 10 ^ 9 := Nat.pow_le_pow_right (by omega) h
  omega

theorem dec_len {u : Nat} : ∀ {k : Nat}, u < 10 ^ (k + 1) → (decDigits u).length ≤ k + 1 := by
  intro k
  induction k generalizing u with
  | zero => intro h; rw [decDigits_one (by omega)]; simp
  | succ k ih =>
    intro h
    by_cases g : u < 10
    · rw [decDigits_one g]; simp
    · have := ih (u := u / 10) (by rw [Nat.pow_succ] at h; omega)
      rw [dec_step g]
      simp
      omega

/-! ### What the two sides read -/

/-- The reference's reading of a numeral of at least 0. -/
def natS (l : List UInt8) : Option Nat := if l ≠ [] ∧ l.length ≤ 9 ∧ (l.length > 1 → l[0]? ≠ some 48) ∧ ∀ c ∈ l, isDig c then some (valF 0 l) else none

theorem natS_iff {l : List UInt8} {n : Nat} : natS l = some n ↔ l = decDigits n ∧ n < 1000000000 := by
  unfold natS
  constructor
  · intro h
    split at h
    · rename_i g
      cases h
      have e := dec_of_val l.length l rfl g.1 g.2.2.2 g.2.2.1
      refine ⟨e.symm, ?_⟩
      have := dec_len9 (u := valF 0 l) (by rw [e]; exact g.2.1)
      exact this
    · cases h
  · rintro ⟨rfl, h⟩
    rw [if_pos ⟨dec_ne n, dec_len (k := 8) (by omega), dec_noLead n, dec_dig n⟩, dec_val]

/-- The reference's reading of a whole number. -/
def numS (l : List UInt8) : Option Int :=
  match l with
  | [] => none
  | c :: r => if c = 45 then (match natS r with | some n => if 0 < n then some (-(n : Int)) else none | none => none) else (match natS (c :: r) with | some n => some (n : Int) | none => none)

theorem dec_head {n : Nat} {c : UInt8} {r : List UInt8} (h : decDigits n = c :: r) : isDig c := dec_dig n c (by rw [h]; simp)

theorem numS_iff {l : List UInt8} {v : Int} : numS l = some v ↔ l = itoa v ∧ -1000000000 < v ∧ v < 1000000000 := by
  unfold numS
  constructor
  · intro h
    split at h
    · cases h
    · rename_i c r
      split at h
      · rename_i hc
        split at h
        · rename_i n hn
          split at h
          · rename_i h0
            cases h
            obtain ⟨h1, h2⟩ := natS_iff.1 hn
            rw [itoa_neg n h0, hc, h1]
            exact ⟨rfl, by omega, by omega⟩
          · cases h
        · cases h
      · split at h
        · rename_i n hn
          cases h
          obtain ⟨h1, h2⟩ := natS_iff.1 hn
          rw [itoa_nonneg]
          exact ⟨h1, by omega, by omega⟩
        · cases h
  · rintro ⟨h, h1, h2⟩
    rcases (by omega : v < 0 ∨ 0 ≤ v) with g | g
    · obtain ⟨n, rfl⟩ : ∃ n : Nat, v = -(n : Int) := ⟨v.natAbs, by omega⟩
      rw [itoa_neg n (by omega)] at h
      subst h
      simp only [if_true]
      rw [natS_iff.2 ⟨rfl, by omega⟩]
      simp only
      rw [if_pos (by omega)]
    · obtain ⟨n, rfl⟩ : ∃ n : Nat, v = (n : Int) := ⟨v.toNat, by omega⟩
      rw [itoa_nonneg] at h
      cases l with
      | nil => exact absurd h.symm (dec_ne n)
      | cons c r =>
        have hd := dec_head h.symm
        have hc : ¬ c = 45 := fun e => by rw [e] at hd; exact absurd hd (by decide)
        simp only [if_neg hc]
        rw [natS_iff.2 ⟨h, by omega⟩]

/-- The program's reading of a whole number. -/
def numI (l : List UInt8) : Option Int := match parseIntB 64 l with | .ok v => if itoa v = l then some v else none | _ => none

theorem parseM_dec (M : Nat) (hM : M ≤ 18446744073709551615) : ∀ (l : List UInt8) (a : Nat), (∀ c ∈ l, isDig c) → valF a l ≤ M → parseUintM M a l = .ok (valF a l)
  | [], a, _, _ => rfl
  | c :: r, a, hd, hv => by
    have hc := hd c (by simp)
    have mono : ∀ (l : List UInt8) (b : Nat), b ≤ valF b l := by
      intro l
      induction l with
      | nil => intro b; exact Nat.le_refl _
      | cons x l ih => intro b; have := ih (b * 10 + (x.toNat - 48)); simp only [valF, List.foldl_cons] at this ⊢; omega
    have h1 : valF a (c :: r) = valF (a * 10 + (c.toNat - 48)) r := rfl
    have h2 := mono r (a * 10 + (c.toNat - 48))
    unfold parseUintM
    unfold isDig at hc
    rw [if_pos hc, if_neg (by omega), if_neg (by omega), h1]
    exact parseM_dec M hM r _ (fun x hx => hd x (by simp [hx])) (by omega)

theorem parse_itoa {v : Int} (h0 : -9223372036854775808 ≤ v) (h1 : v < 9223372036854775808) : parseIntB 64 (itoa v) = .ok v := by
  rcases (by omega : v < 0 ∨ 0 ≤ v) with g | g
  · obtain ⟨n, rfl⟩ : ∃ n : Nat, v = -(n : Int) := ⟨v.natAbs, by omega⟩
    have hu : parseUintB 64 (decDigits n) = .ok n := by
      unfold parseUintB
      rw [if_neg (dec_ne n), parseM_dec _ (by decide) _ _ (dec_dig n) (by rw [dec_val]; omega), dec_val]
    rw [itoa_neg n (by omega)]
    unfold parseIntB
    have e45 : (45 : UInt8).toNat = 45 := rfl
    simp only [e45, or_true, if_true, hu]
    rw [if_neg (by simp), if_neg (by omega)]
  · obtain ⟨n, rfl⟩ : ∃ n : Nat, v = (n : Int) := ⟨v.toNat, by omega⟩
    have hu : parseUintB 64 (decDigits n) = .ok n := by
      unfold parseUintB
      rw [if_neg (dec_ne n), parseM_dec _ (by decide) _ _ (dec_dig n) (by rw [dec_val]; omega), dec_val]
    rw [itoa_nonneg]
    cases hd : decDigits n with
    | nil => exact absurd hd (dec_ne n)
    | cons c r =>
      have hc := dec_head hd
      unfold isDig at hc
      unfold parseIntB
      rw [hd] at hu
      simp only [show ¬ (c.toNat = 43 ∨ c.toNat = 45) by omega, if_false, hu]
      rw [if_neg (by omega), if_neg (by omega)]
      rw [if_neg (by omega)]

theorem numI_iff {l : List UInt8} {v : Int} : numI l = some v ↔ l = itoa v ∧ -9223372036854775808 ≤ v ∧ v < 9223372036854775808 := by
  unfold numI
  constructor
  · intro h
    split at h
    · rename_i u hu
      split at h
      · rename_i e
        cases h
        have := parseIntB_bounds hu
        exact ⟨e.symm, by have := this.1; omega, by have := this.2; omega⟩
      · cases h
    · cases h
  · rintro ⟨rfl, h0, h1⟩
    rw [parse_itoa h0 h1]
    simp

/-- The bytes of a numeral. -/
theorem itoa_mem {v : Int} : ∀ c ∈ itoa v, c = 45 ∨ isDig c := by
  intro c hc
  unfold itoa at hc
  split at hc
  · rcases List.mem_cons.1 hc with h | h
    · exact .inl h
    · exact .inr (dec_dig _ c h)
  · exact .inr (dec_dig _ c hc)

theorem itoa_no {v : Int} {c : UInt8} (h : c ≠ 45) (hd : ¬ isDig c) : c ∉ itoa v := fun hc => (itoa_mem c hc).elim h hd

end Go.Ab
