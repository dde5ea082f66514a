/- Sorting by exchanges: what each step keeps. No program here. -/
import Derived.Test.YtdmgomeogedjgaaGreatZabG1
import Derived.Test.YtdmgomeogedjgaaGreatZabG8
import Derived.Test.YtdmgomeogedjgaaGreatZabOne
import Derived.Test.YtdmgomeogedjgaaGreatZabG5
import Derived.Test.YtdmgomeogedjgaaGreatZabG4
namespace Go.Ab

section
variable {α : Type}

/-- Two places exchanged. -/
def swpF (f : Nat → α) (i j : Nat) : Nat → α := fun k => if k = i then f j else if k = j then f i else f k

theorem swpF_l (f : Nat → α) (i j : Nat) : swpF f i j i = f j := if_pos rfl
theorem swpF_r (f : Nat → α) (i j : Nat) : swpF f i j j = f i := by
  unfold swpF
  by_cases h : j = i
  · rw [if_pos h, h]
  · rw [if_neg h, if_pos rfl]
theorem swpF_o {f : Nat → α} {i j k : Nat} (h1 : k ≠ i) (h2 : k ≠ j) : swpF f i j k = f k := by
  unfold swpF
  rw [if_neg h1, if_neg h2]
theorem swpF_two (f : Nat → α) (i j : Nat) : swpF (swpF f i j) i j = f := by
  funext k
  by_cases h1 : k = i
  · subst h1; rw [swpF_l, swpF_r]
  · by_cases h2 : k = j
    · subst h2; rw [swpF_r, swpF_l]
    · rw [swpF_o h1 h2, swpF_o h1 h2]

/-- Exchanges within a range. -/
inductive Sw (a b : Nat) (f : Nat → α) : (Nat → α) → Prop where
  | refl : Sw a b f f
  | step {g : Nat → α} {i j : Nat} : Sw a b f g → a ≤ i → i < b → a ≤ j → j < b → Sw a b f (swpF g i j)

variable {a b : Nat} {f g h : Nat → α}

theorem Sw.trans (h1 : Sw a b f g) (h2 : Sw a b g h) : Sw a b f h := by
  induction h2 with
  | refl => exact h1
  | step _ q1 q2 q3 q4 ih => exact .step ih q1 q2 q3 q4

theorem Sw.mono {a' b' : Nat} (h : Sw a b f g) (ha : a' ≤ a) (hb : b ≤ b') : Sw a' b' f g := by
  induction h with
  | refl => exact .refl
  | step _ q1 q2 q3 q4 ih => exact .step ih (by omega) (by omega) (by omega) (by omega)

theorem Sw.symm (h : Sw a b f g) : Sw a b g f := by
  induction h with
  | refl => exact .refl
  | @step g i j _ q1 q2 q3 q4 ih =>
    have e : Sw a b (swpF g i j) (swpF (swpF g i j) i j) := .step .refl q1 q2 q3 q4
    rw [swpF_two] at e
    exact e.trans ih

theorem Sw.out (h : Sw a b f g) {k : Nat} (hk : k < a ∨ b ≤ k) : g k = f k := by
  induction h with
  | refl => rfl
  | step _ q1 q2 q3 q4 ih => rw [swpF_o (by omega) (by omega)]; exact ih

theorem Sw.all (h : Sw a b f g) {P : α → Prop} (hp : ∀ k, a ≤ k → k < b → P (f k)) : ∀ k, a ≤ k → k < b → P (g k) := by
  induction h with
  | refl => exact hp
  | step _ q1 q2 q3 q4 ih =>
    intro k h1 h2
    unfold swpF
    split
    · exact ih _ q3 q4
    · split
      · exact ih _ q1 q2
      · exact ih _ h1 h2

theorem Sw.mem (h : Sw a b f g) : ∀ k, a ≤ k → k < b → ∃ m, a ≤ m ∧ m < b ∧ g k = f m :=
  h.all (P := fun x => ∃ m, a ≤ m ∧ m < b ∧ x = f m) fun k h1 h2 => ⟨k, h1, h2, rfl⟩

/-- The same seen from another place. -/
theorem Sw.shift {c x y : Nat} (h : Sw (c + x) (c + y) f g) : Sw x y (fun k => f (c + k)) (fun k => g (c + k)) := by
  induction h with
  | refl => exact .refl
  | @step g i j _ q1 q2 q3 q4 ih =>
    have e : (fun k => swpF g i j (c + k)) = swpF (fun k => g (c + k)) (i - c) (j - c) := by
      funext k
      by_cases h1 : c + k = i
      · subst h1
        rw [swpF_l, show c + k - c = k by omega, swpF_l, show c + (j - c) = j by omega]
      · by_cases h2 : c + k = j
        · subst h2
          rw [swpF_r, show c + k - c = k by omega, swpF_r, show c + (i - c) = i by omega]
        · rw [swpF_o h1 h2, swpF_o (by omega) (by omega)]
    rw [e]
    exact .step ih (by omega) (by omega) (by omega) (by omega)

theorem swpF_shift (f : Nat → α) (c i j : Nat) : (fun k => swpF f (c + i) (c + j) (c + k)) = swpF (fun k => f (c + k)) i j := by
  funext k
  by_cases h1 : k = i
  · subst h1; rw [swpF_l, swpF_l]
  · by_cases h2 : k = j
    · subst h2; rw [swpF_r, swpF_r]
    · rw [swpF_o (by omega) (by omega), swpF_o h1 h2]

/-- A strict weak order. -/
structure SWO (lt : α → α → Bool) : Prop where
  asym : ∀ {x y : α}, lt x y = true → lt y x = false
  tr : ∀ {x y z : α}, lt y x = false → lt z y = false → lt z x = false

variable {lt : α → α → Bool}

theorem SWO.irr (o : SWO lt) (x : α) : lt x x = false := by
  cases h : lt x x with
  | false => rfl
  | true => rw [← h]; exact o.asym h

def Srt (lt : α → α → Bool) (f : Nat → α) (a b : Nat) : Prop := ∀ i j, a ≤ i → i < j → j < b → lt (f j) (f i) = false
/-- All pairs that do not both lie in a part are in order. -/
def RestS (lt : α → α → Bool) (f : Nat → α) (a0 a b b0 : Nat) : Prop := ∀ i j, a0 ≤ i → i < j → j < b0 → ¬ (a ≤ i ∧ j < b) → lt (f j) (f i) = false

theorem RestS.sw {a0 b0 : Nat} (hr : RestS lt f a0 a b b0) (h : Sw a b f g) (h1 : a0 ≤ a) (h2 : b ≤ b0) : RestS lt g a0 a b b0 := by
  intro i j hi hij hj hn
  by_cases c1 : a ≤ i ∧ i < b
  · rw [h.out (k := j) (by omega)]
    exact h.all (P := fun x => lt (f j) x = false) (fun k k1 k2 => hr k j (by omega) (by omega) hj (by omega)) i c1.1 c1.2
  · by_cases c2 : a ≤ j ∧ j < b
    · rw [h.out (k := i) (by omega)]
      exact h.all (P := fun x => lt x (f i) = false) (fun k k1 k2 => hr i k hi (by omega) (by omega) (by omega)) j c2.1 c2.2
    · rw [h.out (k := i) (by omega), h.out (k := j) (by omega)]
      exact hr i j hi hij hj hn

theorem RestS.done {a0 b0 : Nat} (hr : RestS lt f a0 a b b0) (hs : Srt lt f a b) : Srt lt f a0 b0 := fun i j h1 h2 h3 => by
  by_cases c : a ≤ i ∧ j < b
  · exact hs i j c.1 h2 c.2
  · exact hr i j h1 h2 h3 c

/-! ### Insertion -/

def InsI (lt : α → α → Bool) (f : Nat → α) (a i j : Nat) : Prop := (∀ x y, a ≤ x → x < y → y ≤ i → x ≠ j → y ≠ j → lt (f y) (f x) = false) ∧ ∀ y, j < y → y ≤ i → lt (f y) (f j) = false

theorem InsI.start {i : Nat} (h : Srt lt f a i) : InsI lt f a i i := ⟨fun x y h1 h2 h3 _ h5 => h x y h1 h2 (by omega), fun y h1 h2 => by omega⟩

theorem InsI.step {i j : Nat} (o : SWO lt) (h : InsI lt f a i j) (hj : a < j) (hji : j ≤ i) (hl : lt (f j) (f (j - 1)) = true) : InsI lt (swpF f j (j - 1)) a i (j - 1) := by
  refine ⟨fun x y h1 h2 h3 h4 h5 => ?_, fun y h1 h2 => ?_⟩
  · by_cases c1 : y = j
    · subst c1
      rw [swpF_l, swpF_o (by omega) (by omega)]
      exact h.1 x (y - 1) h1 (by omega) (by omega) (by omega) (by omega)
    · rw [swpF_o (k := y) c1 h5]
      by_cases c2 : x = j
      · subst c2
        rw [swpF_l]
        exact h.1 (x - 1) y (by omega) (by omega) h3 (by omega) c1
      · rw [swpF_o c2 h4]
        exact h.1 x y h1 h2 h3 c2 c1
  · rw [swpF_r]
    by_cases c1 : y = j
    · subst c1
      rw [swpF_l]
      exact o.asym hl
    · rw [swpF_o c1 (by omega)]
      exact h.2 y (by omega) h2

theorem InsI.done {i j : Nat} (o : SWO lt) (h : InsI lt f a i j) (hj : a ≤ j) (hji : j ≤ i) (hl : j = a ∨ lt (f j) (f (j - 1)) = false) : Srt lt f a (i + 1) := by
  intro x y h1 h2 h3
  by_cases c1 : x = j
  · subst c1
    exact h.2 y h2 (by omega)
  · by_cases c2 : y = j
    · subst c2
      rcases hl with e | hl
      · omega
      · by_cases c3 : x = y - 1
        · subst c3; exact hl
        · exact o.tr (h.1 x (y - 1) h1 (by omega) (by omega) (by omega) (by omega)) hl
    · exact h.1 x y h1 h2 (by omega) c1 c2

/-- Neighbours in order are all in order. -/
theorem srt_near (o : SWO lt) (h : ∀ i, a < i → i < b → lt (f i) (f (i - 1)) = false) : Srt lt f a b := by
  intro i j h1 h2 h3
  obtain ⟨d, rfl⟩ : ∃ d, j = i + 1 + d := ⟨j - i - 1, by omega⟩
  clear h2
  induction d with
  | zero => exact h (i + 1) (by omega) h3
  | succ d ih =>
    have h4 := h (i + 1 + (d + 1)) (by omega) h3
    rw [show i + 1 + (d + 1) - 1 = i + 1 + d by omega] at h4
    exact o.tr (ih (by omega)) h4

/-! ### Heaps -/

def HpS (lt : α → α → Bool) (g : Nat → α) (lo hi r : Nat) : Prop := (∀ c, 0 < c → c < hi → lo ≤ (c - 1) / 2 → (c - 1) / 2 ≠ r → lt (g ((c - 1) / 2)) (g c) = false) ∧
  ∀ c, 0 < c → c < hi → (c - 1) / 2 = r → 0 < r → lo ≤ (r - 1) / 2 → lt (g ((r - 1) / 2)) (g c) = false
def Hp (lt : α → α → Bool) (g : Nat → α) (lo hi : Nat) : Prop := ∀ c, 0 < c → c < hi → lo ≤ (c - 1) / 2 → lt (g ((c - 1) / 2)) (g c) = false

theorem HpS.step {lo hi r ch : Nat} (o : SWO lt) (h : HpS lt g lo hi r) (hlo : lo ≤ r) (h1 : (ch - 1) / 2 = r) (h0 : 0 < ch) (hc : ch < hi) (hm : ∀ c, 0 < c → c < hi → (c - 1) / 2 = r → lt (g ch) (g c) = false) (hl : lt (g r) (g ch) = true) : HpS lt (swpF g r ch) lo hi ch := by
  have hrc : r < ch := by omega
  refine ⟨fun c c1 c2 c3 c4 => ?_, fun c c1 c2 c3 _ c5 => ?_⟩
  · by_cases e1 : c = ch
    · subst e1
      rw [h1, swpF_l, swpF_r]
      exact o.asym hl
    · by_cases e2 : (c - 1) / 2 = r
      · rw [e2, swpF_l, swpF_o (by omega) e1]
        exact hm c c1 c2 e2
      · by_cases e3 : c = r
        · subst e3
          rw [swpF_l, swpF_o (by omega) (by omega)]
          exact h.2 ch h0 hc h1 c1 c3
        · rw [swpF_o e2 c4, swpF_o e3 e1]
          exact h.1 c c1 c2 c3 e2
  · rw [h1, swpF_l, swpF_o (by omega) (by omega)]
    have := h.1 c c1 c2 (by omega) (by omega)
    rw [c3] at this
    exact this

theorem HpS.leaf {lo hi r : Nat} (h : HpS lt g lo hi r) (hr : hi ≤ 2 * r + 1) : Hp lt g lo hi := fun c c1 c2 c3 => h.1 c c1 c2 c3 (by omega)

theorem HpS.done {lo hi r ch : Nat} (o : SWO lt) (h : HpS lt g lo hi r) (hm : ∀ c, 0 < c → c < hi → (c - 1) / 2 = r → lt (g ch) (g c) = false) (hl : lt (g r) (g ch) = false) : Hp lt g lo hi := fun c c1 c2 c3 => by
  by_cases e : (c - 1) / 2 = r
  · rw [e]
    exact o.tr (hm c c1 c2 e) hl
  · exact h.1 c c1 c2 c3 e

theorem Hp.sift {i hi : Nat} (h : Hp lt g (i + 1) hi) : HpS lt g i hi i := ⟨fun c c1 c2 c3 c4 => h c c1 c2 (by omega), fun c c1 c2 c3 c4 c5 => by omega⟩

theorem Hp.top {m : Nat} (o : SWO lt) (h : Hp lt g 0 m) : ∀ k, k < m → lt (g 0) (g k) = false := by
  intro k
  induction k using Nat.strongRecOn with
  | ind k ih =>
    intro hk
    by_cases e : k = 0
    · subst e; exact o.irr _
    · exact o.tr (h k (by omega) hk (by omega)) (ih ((k - 1) / 2) (by omega) (by omega))

/-- What stands behind a heap: all in order, and none less than what the heap holds. -/
def Tail (lt : α → α → Bool) (g : Nat → α) (i hi : Nat) : Prop := ∀ x y, x < y → i ≤ y → y < hi → lt (g y) (g x) = false

theorem Tail.pop {i hi : Nat} (o : SWO lt) (hp : Hp lt g 0 (i + 1)) (ht : Tail lt g (i + 1) hi) (hi2 : i < hi) (hs : Sw 0 i (swpF g 0 i) h) : Tail lt h i hi := by
  have top := hp.top o
  have inr : ∀ k, k < i → ∃ m, m < i + 1 ∧ swpF g 0 i k = g m := fun k hk => by
    by_cases e : k = 0
    · subst e; exact ⟨i, by omega, swpF_l _ _ _⟩
    · exact ⟨k, by omega, swpF_o e (by omega)⟩
  intro x y hxy h1 h2
  by_cases e : y = i
  · subst e
    rw [hs.out (k := y) (by omega), swpF_r]
    exact hs.all (P := fun z => lt (g 0) z = false) (fun k _ hk => by
      obtain ⟨m, hm, e⟩ := inr k hk
      rw [e]
      exact top m hm) x (by omega) (by omega)
  · rw [hs.out (k := y) (by omega), swpF_o (k := y) (by omega) e]
    by_cases c : x < i
    · exact hs.all (P := fun z => lt (g y) z = false) (fun k _ hk => by
        obtain ⟨m, hm, e⟩ := inr k hk
        rw [e]
        exact ht m y (by omega) (by omega) h2) x (by omega) c
    · rw [hs.out (k := x) (by omega)]
      by_cases c2 : x = i
      · subst c2
        rw [swpF_r]
        exact ht 0 y (by omega) (by omega) h2
      · rw [swpF_o (k := x) (by omega) c2]
        exact ht x y hxy (by omega) h2

theorem Hp.pop {i : Nat} (hp : Hp lt g 0 (i + 1)) : HpS lt (swpF g 0 i) 0 i 0 := ⟨fun c c1 c2 c3 c4 => by
  rw [swpF_o (k := (c - 1) / 2) c4 (by omega), swpF_o (k := c) (by omega) (by omega)]
  exact hp c c1 (by omega) c3, fun c c1 c2 c3 c4 c5 => by omega⟩

end
end Go.Ab
/-! Sources of drawn numbers: a code of bytes, a place in it, a number that runs on. No program here. -/
namespace Go.Ab

def Rd.u8 : Rd Int where
  n := 1
  rel := fun _ bs cs x => bs = [] ∧ cs = [.int .u8 x] ∧ 0 ≤ x ∧ x < 256
  len := fun h => by rw [h.2.1]; rfl
  cell := fun h => by rw [h.2.1]; rfl
  low := fun h b hb => by rw [h.1] at hb; cases hb
  frame := fun h _ _ => h
instance : Plain Rd.u8 := ⟨fun ⟨h1, h2, h3⟩ => ⟨h1, fun _ => ⟨rfl, h2, h3⟩⟩⟩

section
variable {H : Heap} {k : Post}

theorem Wi.shrU {a b : Int} (hb : 0 ≤ b) (h : ∀ c, k (.int .u64 c) H) : W.bin .shr (.int .u64 a) (.int .u64 b) H k := by
  simp only [W.bin, binEval]
  rw [if_neg (by omega)]
  exact h _
theorem Wi.andU {a : Int} {m : Nat} (hm : m < 2 ^ 64) (h : ∀ c : Nat, c ≤ m → k (.int .u64 (c : Int)) H) : W.bin .and (.int .u64 a) (.int .u64 (m : Nat)) H k := by
  simp only [W.bin, binEval, intEval, if_true]
  have h1 : (BitVec.ofInt IntKind.u64.bits (m : Int)).toNat = m := by
    show (BitVec.ofInt 64 (m : Int)).toNat = m
    rw [BitVec.ofInt_natCast, BitVec.toNat_ofNat]
    omega
  have h2 : (BitVec.ofInt IntKind.u64.bits a &&& BitVec.ofInt IntKind.u64.bits (m : Int)).toNat ≤ m := by
    rw [BitVec.toNat_and, h1]
    exact Nat.and_le_right
  generalize (BitVec.ofInt IntKind.u64.bits a &&& BitVec.ofInt IntKind.u64.bits (m : Int)).toNat = c at *
  have e : IntKind.u64.wrap (c : Int) = c := by
    simp only [IntKind.wrap, IntKind.signed, IntKind.bits]
    simp
    omega
  rw [e]
  exact h c h2
theorem Wi.convI {x : Int} {κ : IntKind} (hx : I64 x) (h : k (.int .i64 x) H) : W.conv .i64 (.int κ x) H k := by
  show k (.int .i64 (IntKind.i64.wrap x)) H
  rw [wrap_id hx]
  exact h
theorem Wi.nilP {b o : Nat} (h : k (pt b o) H) : W.nilCheck (pt b o) H k := h
theorem Wi.min2 {a b : Int} {κ κ' : IntKind} (h : k (.int κ (if b < a then b else a)) H) : W.min2 (.int κ a) (.int κ' b) H k := by
  unfold W.min2
  exact h
end

/-- A source: its variable, its code's bytes. -/
def Atom.src {n : Nat} (b : Nat) (vc : Value) (code : List Int) : Atom n where
  P := fun H bs => bs = [b] ∧ b < H.next ∧ (∃ (a : Nat) (h : Int) (ty : TypeId) (e : Nat), H.blk b = some ⟨[vc, .int .i64 (a : Int), .int .u64 h], ty, e, false⟩ ∧ a ≤ code.length) ∧ ∃ bs', (Rd.slice Rd.u8).rel H bs' [vc] code ∧ ∀ c ∈ bs', c < n
  low := by rintro H bs ⟨rfl, h, _⟩ c hc; simp at hc; omega
  frame := by
    rintro H H' bs ⟨rfl, h, ⟨a, hh, ty, e, hb, ha⟩, bs', hr, hl⟩ _ hn hs
    exact ⟨rfl, by omega, ⟨a, hh, ty, e, by rw [hs b (.inr (by simp))]; exact hb, ha⟩, bs', Rd.frame _ hr hn fun c hc => hs c (.inl (hl c hc)), hl⟩

section
variable {H0 H : Heap} {L : List (Atom H0.next)}

theorem set_same {α : Type} {l : List α} {i : Nat} {a : α} (h : l[i]? = some a) : l.set i a = l := by
  obtain ⟨hlt, rfl⟩ := List.getElem?_eq_some_iff.1 h
  exact List.set_getElem_self hlt

/-- What a source has, and how it goes on. -/
theorem Loc.src (h : Loc H0 L H) {i b : Nat} {vc : Value} {code : List Int} (hi : L[i]? = some (.src b vc code)) : ∃ (a : Nat) (hh : Int) (ty : TypeId) (e : Nat), H.blk b = some ⟨[vc, .int .i64 (a : Int), .int .u64 hh], ty, e, false⟩ ∧ a ≤ code.length ∧ Has (Rd.slice Rd.u8) H [vc] code ∧ H0.next ≤ b ∧
    ∀ H', H.next ≤ H'.next → (∀ c, c < H.next → c ≠ b → H'.blk c = H.blk c) → (∃ (a : Nat) (hh : Int) (ty : TypeId) (e : Nat), H'.blk b = some ⟨[vc, .int .i64 (a : Int), .int .u64 hh], ty, e, false⟩ ∧ a ≤ code.length) → Loc H0 L H' := by
  obtain ⟨bs, ⟨rfl, hb, ⟨a, hh, ty, e, hk, ha⟩, bs', hr, hl⟩, hlow, up⟩ := h.upd hi
  have hb0 : H0.next ≤ b := hlow b (by simp)
  refine ⟨a, hh, ty, e, hk, ha, ⟨bs', hr⟩, hb0, fun H' hn hs hb' => ?_⟩
  have := up H' (.src b vc code) [b] hn (fun c hc hcb => hs c hc (by simpa using hcb)) ⟨rfl, by omega, hb', bs', Rd.frame _ hr hn (fun c hc => hs c (Rd.low _ hr c hc) (fun e => by have := hl c hc; omega)), hl⟩ fun c hc => .inl hc
  rwa [set_same hi] at this

/-- One thing is put first. -/
theorem Loc.front (h : Loc H0 L H) {a : Atom H0.next} (i : Nat) (hi : L[i]? = some a) : Loc H0 (a :: L.eraseIdx i) H := by
  obtain ⟨le, F, h1, h2⟩ := h
  let f : Nat → Nat := fun j => match j with | 0 => i | k + 1 => if k < i then k else k + 1
  have e : ∀ (j : Nat) (c : Atom H0.next), (a :: L.eraseIdx i)[j]? = some c → L[f j]? = some c := fun j c hj => by
    cases j with
    | zero => simp only [List.getElem?_cons_zero] at hj; rw [← hj]; exact hi
    | succ k =>
      rw [List.getElem?_cons_succ, List.getElem?_eraseIdx] at hj
      simp only [f]
      split at hj
      · rename_i g; rw [if_pos g]; exact hj
      · rename_i g; rw [if_neg g]; exact hj
  refine ⟨le, fun j => F (f j), fun j c hj => h1 _ c (e j c hj), fun j k c d hjk hj hk => h2 _ _ c d ?_ (e j c hj) (e k d hk)⟩
  cases j <;> cases k <;> simp only [f] <;> (try split) <;> (try split) <;> omega

end
end Go.Ab

/-! Cells as they are; rows that share blocks; a thing that is only read. No program here. -/
namespace Go.Ab

/-- A cell as it is. -/
def Rd.raw : Rd Value where
  n := 1
  rel := fun _ bs cs x => bs = [] ∧ cs = [x] ∧ isCell x = true
  len := fun h => by rw [h.2.1]; rfl
  cell := fun h => by rw [h.2.1]; simp [h.2.2]
  low := fun h b hb => by rw [h.1] at hb; cases hb
  frame := fun h _ _ => h

instance : Plain Rd.raw := ⟨fun ⟨h1, h2, h3⟩ => ⟨h1, fun _ => ⟨rfl, h2, h3⟩⟩⟩

/-- Something that may be read, wherever it lies. -/
def Atom.view {n : Nat} {α : Type} (r : Rd α) (cs : List Value) (x : α) : Atom n where
  P := fun H bs => (∀ b ∈ bs, b < H.next) ∧ ∃ bs', r.rel H bs' cs x ∧ ∀ b ∈ bs', b < n ∨ b ∈ bs
  low := fun h => h.1
  frame := fun h _ hn2 hb => ⟨fun b hb' => Nat.lt_of_lt_of_le (h.1 b hb') hn2, let ⟨bs', h1, h2⟩ := h.2; ⟨bs', r.frame h1 hn2 fun b hm => hb b (h2 b hm), h2⟩⟩

instance {n : Nat} {α : Type} {r : Rd α} {cs : List Value} {x : α} {L : List (Atom n)} : RdV (.view r cs x :: L) cs r x := ⟨_, List.mem_cons_self, fun _ _ h => let ⟨_, bs, h, _⟩ := h; ⟨bs, h⟩⟩

section
variable {H0 H : Heap} {L : List (Atom H0.next)}

/-- Things taken together: what is read of them. -/
theorem Loc.seen {M : List (Atom H0.next)} (h : Loc H0 (M ++ L) H) {α : Type} {r : Rd α} {cs : List Value} {x : α}
    (hx : ∀ F : Nat → List Nat, (∀ (i : Nat) (a : Atom H0.next), M[i]? = some a → a.P H (F i)) → ∃ bs', r.rel H bs' cs x ∧ ∀ b ∈ bs', b < H0.next ∨ ∃ i, i < M.length ∧ b ∈ F i) : Loc H0 (.view r cs x :: L) H := by
  obtain ⟨le, F, h1, h2⟩ := h
  have hM : ∀ i a, M[i]? = some a → (M ++ L)[i]? = some a := fun i a hi => by
    rw [List.getElem?_append_left (List.getElem?_eq_some_iff.1 hi).1]; exact hi
  have hL : ∀ i a, L[i]? = some a → (M ++ L)[M.length + i]? = some a := fun i a hi => by
    rw [List.getElem?_append_right (by omega), Nat.add_sub_cancel_left]; exact hi
  have inM : ∀ b, b ∈ (List.range M.length).flatMap F → ∃ (i : Nat) (a : Atom H0.next), i < M.length ∧ M[i]? = some a ∧ b ∈ F i := fun b hb => by
    obtain ⟨i, hi, hb⟩ := List.mem_flatMap.1 hb
    have hi : i < M.length := by simpa using hi
    exact ⟨i, _, hi, List.getElem?_eq_getElem hi, hb⟩
  obtain ⟨bs', e1, e2⟩ := hx F fun i a hi => (h1 i a (hM i a hi)).1
  refine ⟨le, fun j => match j with | 0 => (List.range M.length).flatMap F | j + 1 => F (M.length + j), fun j a hj => ?_, fun j k a c hjk hj hk b hbj hbk => ?_⟩
  · match j, hj with
    | 0, hj =>
      simp only [List.getElem?_cons_zero, Option.some.injEq] at hj
      subst hj
      refine ⟨⟨fun b hb => ?_, bs', e1, fun b hb => ?_⟩, fun b hb => ?_⟩
      · obtain ⟨i, a, hi, ha, hb⟩ := inM b hb
        exact a.low (h1 i a (hM i a ha)).1 b hb
      · rcases e2 b hb with g | ⟨i, hi, g⟩
        · exact .inl g
        · exact .inr (List.mem_flatMap.2 ⟨i, by simpa using hi, g⟩)
      · obtain ⟨i, a, hi, ha, hb⟩ := inM b hb
        exact (h1 i a (hM i a ha)).2 b hb
    | j + 1, hj => exact h1 _ _ (hL j a (by simpa using hj))
  · match j, k, hjk, hj, hk, hbj, hbk with
    | 0, 0, hjk, _, _, _, _ => exact hjk rfl
    | 0, k + 1, _, _, hk, hbj, hbk =>
      obtain ⟨i, a', hi, ha, hb⟩ := inM b hbj
      exact h2 i (M.length + k) a' c (by omega) (hM i a' ha) (hL k c (by simpa using hk)) b hb hbk
    | j + 1, 0, _, hj, _, hbj, hbk =>
      obtain ⟨i, a', hi, ha, hb⟩ := inM b hbk
      exact h2 i (M.length + j) a' a (by omega) (hM i a' ha) (hL j a (by simpa using hj)) b hb hbj
    | j + 1, k + 1, hjk, hj, hk, hbj, hbk => exact h2 _ _ a c (by omega) (hL j a (by simpa using hj)) (hL k c (by simpa using hk)) b hbj hbk

/-- Cells that are the heads of things. -/
theorem raw_rows {α : Type} {r : Rd α} (hr : r.n = 1) {bs : List Nat} {w : Value} {us : List Value} {xs : List α} (p : Nat → Prop) (h : (Rd.slice Rd.raw).rel H bs [w] us) (hl : us.length = xs.length)
    (hx : ∀ i (hi : i < us.length), ∃ bsi, r.rel H bsi [us[i]] (xs[i]'(by omega)) ∧ ∀ b ∈ bsi, p b) : ∃ bs', (Rd.slice r).rel H bs' [w] xs ∧ ∀ b ∈ bs', b ∈ bs ∨ p b := by
  rcases h with ⟨rfl, _, h⟩ | ⟨b, o, e, kb, fs, hbs, hv, s⟩
  · have : xs = [] := List.length_eq_zero_iff.1 hl.symm
    subst this
    exact ⟨[], .inl ⟨rfl, rfl, h⟩, fun b hb => by cases hb⟩
  · simp only [List.cons.injEq, and_true] at hv
    subst hv
    have room := s.room
    simp only [Rd.raw, Nat.mul_one] at room
    have hx' : ∃ f : Nat → List Nat, ∀ i (hi : i < us.length), r.rel H (f i) [us[i]] (xs[i]'(by omega)) ∧ ∀ b ∈ f i, p b := by
      refine ⟨fun i => if hi : i < us.length then Classical.choose (hx i hi) else [], fun i hi => ?_⟩
      simp only [hi, dif_pos]
      exact Classical.choose_spec (hx i hi)
    obtain ⟨f, hf⟩ := hx'
    refine ⟨_, .inr ⟨b, o, e, kb, f, rfl, by rw [hl], ⟨s.lt, s.blk, by rw [← hl]; exact s.cap, by rw [← hl]; exact s.small, by rw [← hl, hr, Nat.mul_one]; exact room, fun i hi => ?_⟩⟩, fun c hc => ?_⟩
    · have hi' : i < us.length := by omega
      have he := s.each i hi'
      obtain ⟨_, he, _⟩ := he
      have he : cellsAt 1 kb.cells o i = [us[i]] := he
      rw [hr, he]
      exact (hf i hi').1
    · rcases List.mem_cons.1 hc with g | g
      · exact .inl (by rw [hbs, g]; simp)
      · obtain ⟨i, hi, g⟩ := List.mem_flatMap.1 g
        exact .inr ((hf i (by rw [hl]; simpa using hi)).2 c g)

theorem Wl.atRaw {v : Value} {us : List Value} {i : Nat} {κ : IntKind} {K : Post} (h : Has (Rd.slice Rd.raw) H [v] us) (hi : i < us.length) (k : K us[i] H) : W.indexAddr 1 v (.int κ i) H fun p H => W.get p H K :=
  Wl.at1H rfl h hi fun u hu => by
    obtain ⟨_, _, e, _⟩ := hu
    simp only [List.cons.injEq, and_true] at e
    subst e
    exact k

theorem Wl.ldRaw {v : Value} {us : List Value} {i : Nat} {K : Post} (h : Has (Rd.slice Rd.raw) H [v] us) (hi : i < us.length) (k : K us[i] H) : W.get (elemPtr 1 v i) H K :=
  elem_of (κ := .i64) (K := fun p H => W.get p H K) h hi (Wl.atRaw h hi k)

end
end Go.Ab

/-! All elements but the first of a list that has grown are cleared, the first is kept. No program here. -/
namespace Go.Ab

end Go.Ab

/-! Things by their heads, in no order; cells of a list that has grown: written, cut, cleared. No program here. -/
namespace Go.Ab

/-- Things, each with its head. -/
def Rd.bag {α : Type} (r : Rd α) : Rd (List (Value × α)) where
  n := 0
  rel := fun H bs cs xs => cs = [] ∧ (∀ b ∈ bs, b < H.next) ∧ ∀ q ∈ xs, ∃ bs', r.rel H bs' [q.1] q.2 ∧ ∀ b ∈ bs', b ∈ bs
  len := fun h => by rw [h.1]; rfl
  cell := fun h => by rw [h.1]; rfl
  low := fun h b hb => h.2.1 b hb
  frame := fun h hn hb => ⟨h.1, fun b hm => Nat.lt_of_lt_of_le (h.2.1 b hm) hn, fun q hq => let ⟨bs', h1, h2⟩ := h.2.2 q hq; ⟨bs', _root_.Go.Ab.Rd.frame _ h1 hn fun b hm => hb b (h2 b hm), h2⟩⟩

theorem Has.bag {α : Type} {r : Rd α} {H : Heap} {cs : List Value} {xs : List (Value × α)} (h : Has (Rd.bag r) H cs xs) {q : Value × α} (hq : q ∈ xs) : Has r H [q.1] q.2 :=
  let ⟨_, h⟩ := h; let ⟨bs', h1, _⟩ := h.2.2 q hq; ⟨bs', h1⟩

/-- A list whose cells are heads of things that are there. -/
theorem Has.rowsB {α : Type} {r : Rd α} (hr : r.n = 1) {H : Heap} {cs : List Value} {tbl : List (Value × α)} {v : Value} {us : List Value} {xs : List α} (h : Has (Rd.bag r) H cs tbl) (hv : Has (Rd.slice Rd.raw) H [v] us) (hl : us.length = xs.length) (hm : ∀ i (hi : i < us.length), (us[i], xs[i]'(by omega)) ∈ tbl) : Has (Rd.slice r) H [v] xs := by
  obtain ⟨bs, h⟩ := h
  obtain ⟨bs2, hv⟩ := hv
  obtain ⟨bs', h1, _⟩ := raw_rows (r := r) hr (xs := xs) (fun _ => True) hv hl fun i hi => by
    obtain ⟨b', e1, _⟩ := h.2.2 _ (hm i hi)
    exact ⟨b', e1, fun _ _ => trivial⟩
  exact ⟨bs', h1⟩

section
variable {H0 H : Heap} {L : List (Atom H0.next)} {K : Post}

theorem Loc.bag0 {α : Type} (r : Rd α) (h : Loc H0 L H) : Loc H0 (.view (Rd.bag r) [] [] :: L) H :=
  Loc.seen (M := []) h fun _ _ => ⟨[], ⟨rfl, (fun b hb => by cases hb), fun q hq => by cases hq⟩, fun b hb => by cases hb⟩

theorem Loc.bagAdd {α : Type} {r : Rd α} {u : Value} {x : α} {xs : List (Value × α)} (h : Loc H0 (.data r [u] x :: .view (Rd.bag r) [] xs :: L) H) : Loc H0 (.view (Rd.bag r) [] (xs ++ [(u, x)]) :: L) H :=
  Loc.seen (M := [.data r [u] x, .view (Rd.bag r) [] xs]) h fun F hF => by
    have p0 := hF 0 _ rfl
    obtain ⟨q1, bs', ⟨q2, q3, q4⟩, q5⟩ := hF 1 _ rfl
    refine ⟨F 0 ++ bs', ⟨rfl, fun b hb => ?_, fun q hq => ?_⟩, fun b hb => ?_⟩
    · rcases List.mem_append.1 hb with g | g
      · exact r.low p0.1 b g
      · exact q3 b g
    · rcases List.mem_append.1 hq with g | g
      · obtain ⟨b', e1, e2⟩ := q4 q g
        exact ⟨b', e1, fun b hb => List.mem_append_right _ (e2 b hb)⟩
      · rw [List.mem_singleton] at g
        subst g
        exact ⟨F 0, p0.1, fun b hb => List.mem_append_left _ hb⟩
    · rcases List.mem_append.1 hb with g | g
      · exact .inr ⟨0, by simp, g⟩
      · rcases q5 b g with g | g
        · exact .inl g
        · exact .inr ⟨1, by simp, g⟩

/-! ### Cells that have grown -/

theorem rawG_eq {n : Nat} {bs : List Nat} {ty : TypeId} {v : Value} {us : List Value} (p : (Atom.grow (n := n) Rd.raw ty v us).P H bs) : (v = .slice none 0 0 ∧ us = [] ∧ bs = []) ∨ ∃ b e, v = .slice (some (adr b 0)) us.length e ∧ e / 2 = us.length ∧ bs = [b] ∧ H.blk b = some ⟨us, ty, 1, false⟩ ∧ b < H.next ∧ us.length < 9223372036854775808 ∧ us.all isCell = true := by
  rcases p with p | ⟨b, e, kb, fs, h1, h2, h3, h4, h5, sl, h6, h7, h8, h9⟩
  · exact .inl p
  · have hfs : (List.range us.length).flatMap fs = [] := by
      rw [List.flatMap_eq_nil_iff]
      intro i hi
      exact (sl.each i (by simpa using hi)).1
    rw [hfs] at h3
    have h8 : kb.cells.length = us.length := by simpa [Rd.raw] using h8
    have hc : kb.cells = us := by
      apply List.ext_getElem h8
      intro i g1 g2
      have := (sl.each i g2).2.1
      have : cellsAt 1 kb.cells 0 i = [us[i]] := this
      rw [cellsAt_one (by omega)] at this
      simpa using this
    have hro : kb.ro = false := h5 b (by rw [h3]; simp) kb sl.blk
    refine .inr ⟨b, e, h1, h2, h3, ?_, sl.lt, sl.small, by rw [← hc]; exact h9⟩
    rw [sl.blk]
    obtain ⟨c, t, z, r⟩ := kb
    simp only at hc h6 h7 hro
    rw [hc, h6, h7, hro]
    rfl

theorem rawG_mk {n b e : Nat} {ty : TypeId} {v : Value} {us : List Value} (hv : v = .slice (some (adr b 0)) us.length e) (he : e / 2 = us.length) (hb : H.blk b = some ⟨us, ty, 1, false⟩) (hlt : b < H.next) (hs : us.length < 9223372036854775808) (hc : us.all isCell = true) : (Atom.grow (n := n) Rd.raw ty v us).P H [b] := by
  refine .inr ⟨b, e, _, fun _ => [], hv, he, by simp, by simp, fun c hc kc hk => ?_, ⟨hlt, hb, by omega, hs, by simp [Rd.raw], fun i hi => ?_⟩, rfl, rfl, by simp [Rd.raw], hc⟩
  · rw [List.mem_singleton] at hc
    subst hc
    rw [hb] at hk
    cases hk
    rfl
  · refine ⟨rfl, ?_, List.all_eq_true.1 hc _ (List.getElem_mem hi)⟩
    show cellsAt 1 us 0 i = [us[i]]
    rw [cellsAt_one (by omega)]
    simp

theorem Wl.setRawG {ty : TypeId} {v u : Value} {us : List Value} {i j : Nat} {κ : IntKind} (h : Loc H0 L H) (hj : L[j]? = some (.grow Rd.raw ty v us)) (hi : i < us.length) (hu : isCell u = true) (k : ∀ H', Loc H0 (L.set j (.grow Rd.raw ty v (us.set i u))) H' → K undef H') :
    W.indexAddr 1 v (.int κ i) H fun p H => W.put p u H K := by
  obtain ⟨bs, p, _, up⟩ := h.upd hj
  rcases rawG_eq p with ⟨_, rfl, _⟩ | ⟨b, e, rfl, he, rfl, hb, hlt, hs, hc⟩
  · simp at hi
  · refine Wi.index hi ?_
    rw [Nat.zero_add, Nat.mul_one]
    refine Wi.put hb hu rfl hi fun H' w => k H' ?_
    refine up H' _ [b] (by rw [w.next]; exact Nat.le_refl _) (fun d hd hdb => w.off d fun e => hdb (by simp [e])) (rawG_mk (by rw [List.length_set]) (by rw [List.length_set]; exact he) w.here (by rw [w.next]; exact hlt) (by rw [List.length_set]; exact hs) ?_) fun d hd => .inl hd
    rw [List.all_eq_true] at hc ⊢
    intro x hx
    rcases List.mem_or_eq_of_mem_set hx with g | g
    · exact hc x g
    · rw [g]; exact hu

/-- The part from a place on. -/
def TailOf (v : Value) (n k : Nat) (w : Value) : Prop := ∃ b e, v = .slice (some (adr b 0)) n e ∧ w = .slice (some (adr b k)) (n - k) (e - 2 * k)

theorem slice_hiK {b n e k : Nat} {kb : Blk} {κ : IntKind} (hk : 1 ≤ k) (hkn : k < n) (he : e / 2 = n) (hb : H.blk b = some kb) (hs : kb.esz = 1) (c : K (.slice (some (adr b k)) (n - k) (e - 2 * k)) H) : W.slice 1 (.slice (some (adr b 0)) n e) (some (.int κ k)) none H K := by
  unfold W.slice
  refine ⟨by omega, by omega, by omega, ?_⟩
  show (if (k : Int).toNat = e / 2 then _ else if (k : Int).toNat = 0 then _ else _)
  rw [if_neg (by omega), if_neg (by omega)]
  have hb' : H.blk (adr b 0).block = some kb := hb
  rw [hb']
  refine ⟨hs, ?_⟩
  rw [adr_add, Nat.zero_add, Nat.mul_one]
  have e1 : ((n : Int).toNat - (k : Int).toNat) = n - k := by omega
  have e2 : (k : Int).toNat = k := by omega
  rw [e1, e2]
  exact c

theorem Wl.tailG {ty : TypeId} {v : Value} {us : List Value} {k j : Nat} {κ : IntKind} (h : Loc H0 L H) (hj : L[j]? = some (.grow Rd.raw ty v us)) (hk : 1 ≤ k) (hkn : k < us.length) (c : ∀ w, TailOf v us.length k w → K w H) : W.slice 1 v (some (.int κ k)) none H K := by
  obtain ⟨bs, p, _, up⟩ := h.upd hj
  rcases rawG_eq p with ⟨_, rfl, _⟩ | ⟨b, e, rfl, he, rfl, hb, hlt, hs, hc⟩
  · simp at hkn
  · exact slice_hiK hk hkn he hb rfl (c _ ⟨b, e, rfl, rfl⟩)

theorem TailOf.len {v w : Value} {n k : Nat} (t : TailOf v n k w) (c : K (.int .i64 ((n - k : Nat) : Int)) H) : W.len w H K := by
  obtain ⟨b, e, _, rfl⟩ := t
  exact c

theorem TailOf.at {v w : Value} {n k i : Nat} {us : List Value} {κ : IntKind} (t : TailOf v n k w) (h : Has (Rd.slice Rd.raw) H [v] us) (hn : us.length = n) (hi : k + i < us.length) (c : K us[k + i] H) : W.indexAddr 1 w (.int κ i) H fun p H => W.get p H K := by
  obtain ⟨b, e, rfl, rfl⟩ := t
  refine Wi.index (by omega) ?_
  have := Wl.ldRaw h hi c
  have e1 : elemPtr 1 (.slice (some (adr b 0)) n e) (k + i) = pt b (k + i * 1) := by
    unfold elemPtr
    simp only
    rw [adr_add, Nat.zero_add, Nat.mul_one, Nat.mul_one]
  rw [e1] at this
  exact this

theorem Wl.clearG {ty : TypeId} {v : Value} {us : List Value} {k j : Nat} {κ : IntKind} (h : Loc H0 L H) (hj : L[j]? = some (.grow Rd.raw ty v us)) (hk : 1 ≤ k) (hkn : k < us.length) (c : ∀ H', Loc H0 (L.set j (.grow Rd.raw ty v (us.take k ++ List.replicate (us.length - k) (Value.slice none 0 0)))) H' → K (.tuple #[]) H') :
    W.slice 1 v (some (.int κ k)) none H fun w H => W.clear [.slice none 0 0] w H K := by
  obtain ⟨bs, p, _, up⟩ := h.upd hj
  rcases rawG_eq p with ⟨_, rfl, _⟩ | ⟨b, e, rfl, he, rfl, hb, hlt, hs, hc⟩
  · simp at hkn
  · refine slice_hiK hk hkn he hb rfl ?_
    unfold W.clear
    show (if us.length - k = 0 then _ else _)
    rw [if_neg (by omega)]
    have hr : reps (us.length - k) [(.slice none 0 0 : Value)] = List.replicate (us.length - k) (Value.slice none 0 0) := by
      unfold reps
      rw [List.flatten_replicate_singleton]
    rw [hr]
    have hall : (us.take k ++ List.replicate (us.length - k) (Value.slice none 0 0)).all isCell = true := by
      rw [List.all_eq_true] at hc ⊢
      intro x hx
      rcases List.mem_append.1 hx with g | g
      · exact hc x (List.mem_of_mem_take g)
      · rw [List.eq_of_mem_replicate g]; rfl
    have hl : (us.take k ++ List.replicate (us.length - k) (Value.slice none 0 0)).length = us.length := by simp; omega
    have e1 : H.setN (Go.Ab.adr b k) (List.replicate (us.length - k) (Value.slice none 0 0)) = some (H.setBlk b (some ⟨us.take k ++ List.replicate (us.length - k) (Value.slice none 0 0), ty, 1, false⟩)) := by
      unfold Heap.setN
      have hb' : H.blk (Go.Ab.adr b k).block = some ⟨us, ty, 1, false⟩ := hb
      rw [hb']
      show (if _ then _ else _) = _
      rw [if_pos]
      · show some (H.setBlk b (some ⟨us.take k ++ List.replicate (us.length - k) (Value.slice none 0 0) ++ us.drop (k + (List.replicate (us.length - k) (Value.slice none 0 0)).length), ty, 1, false⟩)) = _
        rw [List.length_replicate, List.drop_of_length_le (by omega), List.append_nil]
      · have g1 : (List.replicate (us.length - k) (Value.slice none 0 0)).all isCell = true := by
          rw [List.all_eq_true]
          intro x hx
          rw [List.eq_of_mem_replicate hx]; rfl
        rw [g1, decide_eq_true (show (Go.Ab.adr b k).off + (List.replicate (us.length - k) (Value.slice none 0 0)).length ≤ us.length by rw [List.length_replicate]; show k + _ ≤ _; omega)]
        rfl
    show (match H.setN (Go.Ab.adr b k) (List.replicate (us.length - k) (Value.slice none 0 0)) with | some H' => K (.tuple #[]) H' | none => False)
    rw [e1]
    refine c _ (up _ _ [b] (Nat.le_refl _) (fun d _ hdb => ?_) (rawG_mk (by rw [hl]) (by rw [hl]; exact he) (by simp [Heap.setBlk]) hlt (by rw [hl]; exact hs) hall) fun d hd => .inl hd)
    simp only [Heap.setBlk]
    rw [if_neg fun e => hdb (by simp [e])]

end
end Go.Ab

/-! A list of one owned element written out; slices of empty lists. No program here. -/
namespace Go.Ab

section
variable {H0 H : Heap} {L : List (Atom H0.next)} {K : Post}

/-- What a part of an empty list is. -/
def Emp (w : Value) : Prop := w = .slice none 0 0 ∨ w = .slice none 0 1 ∨ ∃ a, w = .slice (some a) 0 0

end
end Go.Ab
