/- Loops that count. -/
import Derived.Test.YtdbdmlfnggbdiaaZabLoc5
namespace Go.Ab

/-- A loop of at most n rounds, each told by what holds at its head. -/
theorem W.for_rule {S : Type} {F : (S → Heap → Prop) → S → Heap → Prop} (n : Nat) (Inv : Nat → S → Heap → Prop) {s : S} {H : Heap} (h0 : Inv 0 s H)
    (step : ∀ (i : Nat) (s : S) (H : Heap) (J : S → Heap → Prop), i ≤ n → Inv i s H → (∀ s' H', i < n → Inv (i + 1) s' H' → J s' H') → F J s H) : W.loop F s H := by
  intro I hI
  have key : ∀ m i s H, m + i = n → Inv i s H → I s H := by
    intro m
    induction m with
    | zero =>
      intro i s H hm hi
      exact hI I s H (fun _ _ h => h) (step i s H I (by omega) hi fun _ _ hlt _ => by omega)
    | succ m ih =>
      intro i s H hm hi
      exact hI I s H (fun _ _ h => h) (step i s H I (by omega) hi fun s' H' _ h' => ih (i + 1) s' H' (by omega) h')
  exact key n 0 s H (by omega) h0

/-- A loop that looks whether something holds of all numbers below n, and ends where it does not. -/
theorem W.all_rule {t : Nat} {F : (St [t] → Heap → Prop) → St [t] → Heap → Prop} (n : Nat) (p : Nat → Bool) {H : Heap}
    (step : ∀ (i : Nat) (H' : Heap) (J : St [t] → Heap → Prop), i < n → (∀ j, j < i → p j = true) → H.Le H' → (p i = true → ∀ H2, H'.Le H2 → J (.int .i64 ((i + 1 : Nat) : Int), ()) H2) → F J (.int .i64 (i : Nat), ()) H')
    (stop : ∀ (H' : Heap) (J : St [t] → Heap → Prop), (∀ j, j < n → p j = true) → H.Le H' → F J (.int .i64 (n : Nat), ()) H') : W.loop F (.int .i64 0, ()) H := by
  refine W.for_rule n (fun i s H' => s = (.int .i64 (i : Nat), ()) ∧ H.Le H' ∧ ∀ j, j < i → p j = true) ⟨rfl, .refl _, fun j hj => by omega⟩ ?_
  rintro i s H1 J hi ⟨rfl, l, hp⟩ hJ
  by_cases h : i < n
  · refine step i H1 J h hp l fun hpi H2 l2 => hJ _ H2 h ⟨rfl, l.trans l2, fun j hj => ?_⟩
    by_cases hji : j < i
    · exact hp j hji
    · have : j = i := by omega
      subst this
      exact hpi
  · have : i = n := by omega
    subst this
    exact stop H1 J hp l

def allN (n : Nat) (p : Nat → Bool) : Bool := (List.range n).all p

theorem allN_true {n : Nat} {p : Nat → Bool} (h : ∀ j, j < n → p j = true) : allN n p = true := by
  unfold allN
  rw [List.all_eq_true]
  intro j hj
  exact h j (by simpa using hj)

theorem allN_false {n i : Nat} {p : Nat → Bool} (hi : i < n) (h : p i = false) : allN n p = false := by
  unfold allN
  rw [List.all_eq_false]
  exact ⟨i, by simpa using hi, by simp [h]⟩

theorem allN_iff {n : Nat} {p : Nat → Bool} : allN n p = true ↔ ∀ j, j < n → p j = true := by
  unfold allN
  rw [List.all_eq_true]
  exact ⟨fun h j hj => h j (by simpa using hj), fun h j hj => h j (by simpa using hj)⟩

theorem allN_congr {n : Nat} {p q : Nat → Bool} (h : ∀ j, j < n → p j = q j) : allN n p = allN n q := by
  rw [Bool.eq_iff_iff, allN_iff, allN_iff]
  exact ⟨fun g j hj => by rw [← h j hj]; exact g j hj, fun g j hj => by rw [h j hj]; exact g j hj⟩

theorem allN_list {α : Type} (xs : List α) (p : α → Bool) : allN xs.length (fun i => match xs[i]? with | some x => p x | none => true) = xs.all p := by
  rw [Bool.eq_iff_iff, allN_iff, List.all_eq_true]
  constructor
  · intro h x hx
    obtain ⟨i, hi, rfl⟩ := List.mem_iff_getElem.1 hx
    have := h i hi
    rw [List.getElem?_eq_getElem hi] at this
    exact this
  · intro h j hj
    rw [List.getElem?_eq_getElem hj]
    exact h _ (List.getElem_mem hj)

section
variable {H : Heap} {k : Post} {κ : IntKind}

/-- Comparisons, both ways. -/
theorem Wi.lssC {a b : Int} (h1 : a < b → k (.bool true) H) (h2 : ¬ a < b → k (.bool false) H) : W.bin .lss (.int κ a) (.int κ b) H k := by
  refine Wi.lss ?_
  by_cases h : a < b
  · rw [decide_eq_true h]; exact h1 h
  · rw [decide_eq_false h]; exact h2 h
theorem Wi.leqC {a b : Int} (h1 : a ≤ b → k (.bool true) H) (h2 : ¬ a ≤ b → k (.bool false) H) : W.bin .leq (.int κ a) (.int κ b) H k := by
  refine Wi.leq ?_
  by_cases h : a ≤ b
  · rw [decide_eq_true h]; exact h1 h
  · rw [decide_eq_false h]; exact h2 h
theorem Wi.gtrC {a b : Int} (h1 : b < a → k (.bool true) H) (h2 : ¬ b < a → k (.bool false) H) : W.bin .gtr (.int κ a) (.int κ b) H k := by
  refine Wi.gtr ?_
  by_cases h : b < a
  · rw [decide_eq_true h]; exact h1 h
  · rw [decide_eq_false h]; exact h2 h
theorem Wi.geqC {a b : Int} (h1 : b ≤ a → k (.bool true) H) (h2 : ¬ b ≤ a → k (.bool false) H) : W.bin .geq (.int κ a) (.int κ b) H k := by
  refine Wi.geq ?_
  by_cases h : b ≤ a
  · rw [decide_eq_true h]; exact h1 h
  · rw [decide_eq_false h]; exact h2 h
theorem Wi.eqlC {a b : Int} (h1 : a = b → k (.bool true) H) (h2 : a ≠ b → k (.bool false) H) : W.bin .eql (.int κ a) (.int κ b) H k := by
  refine Wi.eql ?_
  by_cases h : a = b
  · rw [show (a == b) = true by simp [h]]; exact h1 h
  · rw [show (a == b) = false by simp [h]]; exact h2 h
theorem Wi.neqC {a b : Int} (h1 : a ≠ b → k (.bool true) H) (h2 : a = b → k (.bool false) H) : W.bin .neq (.int κ a) (.int κ b) H k := by
  refine Wi.neq ?_
  by_cases h : a = b
  · rw [show (a != b) = false by simp [h]]; exact h2 h
  · rw [show (a != b) = true by simp [h]]; exact h1 h
/-- A truth value, both ways. -/
theorem boolC {b : Bool} (h1 : b = true → k (.bool true) H) (h2 : b = false → k (.bool false) H) : k (.bool b) H := by
  cases b
  · exact h2 rfl
  · exact h1 rfl
end

/-! ### Words that a known truth value decides, as equations -/
section
variable {H : Heap} {k : Post} {op : Heap → Post → Prop} {a b c d : Value} {A B : Heap → Prop}
theorem g1 : W.guarded (.bool true) true op H k = op H k := rfl
theorem g2 : W.guarded (.bool false) true op H k = k undef H := rfl
theorem g3 : W.guarded (.bool true) false op H k = k undef H := rfl
theorem g4 : W.guarded (.bool false) false op H k = op H k := rfl
theorem g5 : W.pick (.bool true) a b H k = k a H := rfl
theorem g6 : W.pick (.bool false) a b H k = k b H := rfl
theorem g7 : W.cond (.bool true) H A B = A H := rfl
theorem g8 : W.cond (.bool false) H A B = B H := rfl
theorem g9 : W.un .not (.bool true) H k = k (.bool false) H := rfl
theorem g10 : W.un .not (.bool false) H k = k (.bool true) H := rfl
theorem g11 : W.extract 0 (.tuple #[a, b]) H k = k a H := rfl
theorem g12 : W.extract 1 (.tuple #[a, b]) H k = k b H := rfl
theorem g13 : W.extract 0 (.tuple #[a, b, c]) H k = k a H := rfl
theorem g14 : W.extract 1 (.tuple #[a, b, c]) H k = k b H := rfl
theorem g15 : W.extract 2 (.tuple #[a, b, c]) H k = k c H := rfl
theorem g16 : W.extract 0 (.tuple #[a, b, c, d]) H k = k a H := rfl
theorem g17 : W.extract 1 (.tuple #[a, b, c, d]) H k = k b H := rfl
theorem g18 : W.extract 2 (.tuple #[a, b, c, d]) H k = k c H := rfl
theorem g19 : W.extract 3 (.tuple #[a, b, c, d]) H k = k d H := rfl
end

/-- All of these at once. -/
theorem gw : (∀ (H : Heap) (k : Post) (op : Heap → Post → Prop), W.guarded (.bool true) true op H k = op H k) ∧ (∀ (H : Heap) (k : Post) (op : Heap → Post → Prop), W.guarded (.bool false) true op H k = k undef H) ∧
    (∀ (H : Heap) (k : Post) (op : Heap → Post → Prop), W.guarded (.bool true) false op H k = k undef H) ∧ (∀ (H : Heap) (k : Post) (op : Heap → Post → Prop), W.guarded (.bool false) false op H k = op H k) ∧
    (∀ (H : Heap) (k : Post) (a b : Value), W.pick (.bool true) a b H k = k a H) ∧ (∀ (H : Heap) (k : Post) (a b : Value), W.pick (.bool false) a b H k = k b H) ∧
    (∀ (H : Heap) (A B : Heap → Prop), W.cond (.bool true) H A B = A H) ∧ (∀ (H : Heap) (A B : Heap → Prop), W.cond (.bool false) H A B = B H) ∧
    (∀ (H : Heap) (k : Post), W.un .not (.bool true) H k = k (.bool false) H) ∧ (∀ (H : Heap) (k : Post), W.un .not (.bool false) H k = k (.bool true) H) ∧
    (∀ (H : Heap) (k : Post) (a b : Value), W.extract 0 (.tuple #[a, b]) H k = k a H) ∧ (∀ (H : Heap) (k : Post) (a b : Value), W.extract 1 (.tuple #[a, b]) H k = k b H) ∧
    (∀ (H : Heap) (k : Post) (a b c : Value), W.extract 0 (.tuple #[a, b, c]) H k = k a H) ∧ (∀ (H : Heap) (k : Post) (a b c : Value), W.extract 1 (.tuple #[a, b, c]) H k = k b H) ∧ (∀ (H : Heap) (k : Post) (a b c : Value), W.extract 2 (.tuple #[a, b, c]) H k = k c H) ∧
    (∀ (H : Heap) (k : Post) (a b c d : Value), W.extract 0 (.tuple #[a, b, c, d]) H k = k a H) ∧ (∀ (H : Heap) (k : Post) (a b c d : Value), W.extract 1 (.tuple #[a, b, c, d]) H k = k b H) ∧
    (∀ (H : Heap) (k : Post) (a b c d : Value), W.extract 2 (.tuple #[a, b, c, d]) H k = k c H) ∧ (∀ (H : Heap) (k : Post) (a b c d : Value), W.extract 3 (.tuple #[a, b, c, d]) H k = k d H) :=
  ⟨fun _ _ _ => rfl, fun _ _ _ => rfl, fun _ _ _ => rfl, fun _ _ _ => rfl, fun _ _ _ _ => rfl, fun _ _ _ _ => rfl, fun _ _ _ => rfl, fun _ _ _ => rfl, fun _ _ => rfl, fun _ _ => rfl,
   fun _ _ _ _ => rfl, fun _ _ _ _ => rfl, fun _ _ _ _ _ => rfl, fun _ _ _ _ _ => rfl, fun _ _ _ _ _ => rfl, fun _ _ _ _ _ _ => rfl, fun _ _ _ _ _ _ => rfl, fun _ _ _ _ _ _ => rfl, fun _ _ _ _ _ _ => rfl⟩

theorem Has.len {α : Type} {r : Rd α} {H : Heap} {cs : List Value} {x : α} (h : Has r H cs x) : cs.length = r.n := let ⟨_, h⟩ := h; r.len h
theorem Has.cell {α : Type} {r : Rd α} {H : Heap} {cs : List Value} {x : α} (h : Has r H cs x) : cs.all isCell = true := let ⟨_, h⟩ := h; r.cell h

/-- A thing told as two. -/
theorem Loc.split {H0 H : Heap} {L : List (Atom H0.next)} {a a1 a2 : Atom H0.next} (h : Loc H0 (a :: L) H)
    (hp : ∀ bs, a.P H bs → ∃ b1 b2, a1.P H b1 ∧ a2.P H b2 ∧ (∀ c ∈ b1, c ∈ bs) ∧ (∀ c ∈ b2, c ∈ bs) ∧ ∀ c ∈ b1, c ∉ b2) : Loc H0 (a1 :: a2 :: L) H := by
  obtain ⟨le, F, h1, h2⟩ := h
  obtain ⟨p0, q0⟩ := h1 0 a rfl
  obtain ⟨b1, b2, p1, p2, s1, s2, hd⟩ := hp _ p0
  have k1 : ∀ j c, L[j]? = some c → c.P H (F (j + 1)) ∧ ∀ b ∈ F (j + 1), H0.next ≤ b := fun j c hj => h1 (j + 1) c (by simpa using hj)
  have k2 : ∀ j c, L[j]? = some c → ∀ b ∈ F 0, b ∉ F (j + 1) := fun j c hj => h2 0 (j + 1) a c (by omega) rfl (by simpa using hj)
  refine ⟨le, fun j => match j with | 0 => b1 | 1 => b2 | j + 2 => F (j + 1), fun j c hj => ?_, fun j k c d hjk hj hk b hbj hbk => ?_⟩
  · match j, hj with
    | 0, hj =>
      simp only [List.getElem?_cons_zero, Option.some.injEq] at hj
      subst hj
      exact ⟨p1, fun b hb => q0 b (s1 b hb)⟩
    | 1, hj =>
      simp only [List.getElem?_cons_succ, List.getElem?_cons_zero, Option.some.injEq] at hj
      subst hj
      exact ⟨p2, fun b hb => q0 b (s2 b hb)⟩
    | j + 2, hj => exact k1 j c (by simpa using hj)
  · match j, k, hj, hk, hbj, hbk with
    | 0, 0, _, _, _, _ => exact hjk rfl
    | 1, 1, _, _, _, _ => exact hjk rfl
    | 0, 1, _, _, hbj, hbk => exact hd b hbj hbk
    | 1, 0, _, _, hbj, hbk => exact hd b hbk hbj
    | 0, k + 2, _, hk, hbj, hbk => exact k2 k d (by simpa using hk) b (s1 b hbj) hbk
    | 1, k + 2, _, hk, hbj, hbk => exact k2 k d (by simpa using hk) b (s2 b hbj) hbk
    | j + 2, 0, hj, _, hbj, hbk => exact k2 j c (by simpa using hj) b (s1 b hbk) hbj
    | j + 2, 1, hj, _, hbj, hbk => exact k2 j c (by simpa using hj) b (s2 b hbk) hbj
    | j + 2, k + 2, hj, hk, hbj, hbk => exact h2 (j + 1) (k + 1) c d (by omega) (by simpa using hj) (by simpa using hk) b hbj hbk

/-- Two things made at once. -/
theorem Loc.add2 {H0 H H' : Heap} {L : List (Atom H0.next)} {α β : Type} {r : Rd α} {s : Rd β} {c1 c2 : List Value} {x : α} {y : β} (h : Loc H0 L H) (hl : c1.length = r.n) (f : Fresh (r.pair s) H (c1 ++ c2) (x, y) H') :
    Loc H0 (.data r c1 x :: .data s c2 y :: L) H' := by
  refine (h.add f).split fun bs ⟨⟨b1, b2, d1, d2, hbs, hc, h1, h2⟩, hn, hrw⟩ => ?_
  subst hbs
  have e1 : c1 = d1 := (List.append_inj hc (by rw [hl, r.len h1])).1
  have e2 : c2 = d2 := (List.append_inj hc (by rw [hl, r.len h1])).2
  subst e1 e2
  have hd := List.nodup_append.1 hn
  exact ⟨b1, b2, ⟨h1, hd.1, hrw.left⟩, ⟨h2, hd.2.1, hrw.right⟩, fun c hc => List.mem_append_left _ hc, fun c hc => List.mem_append_right _ hc, fun c h1 h2 => hd.2.2 c h1 c h2 rfl⟩

end Go.Ab
