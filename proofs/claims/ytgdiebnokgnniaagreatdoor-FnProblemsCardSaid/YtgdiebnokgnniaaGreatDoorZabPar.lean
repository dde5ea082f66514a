/- Lists and problems read from texts. No model and no program here. -/
import Derived.Test.YtgdiebnokgnniaaGreatDoorZabSpl
namespace Go.Ab
open Go.Lib

/-- All of a list, if each can be told. -/
def mapO {α β : Type} (f : α → Option β) : List α → Option (List β)
  | [] => some []
  | x :: l => match f x, mapO f l with | some y, some r => some (y :: r) | _, _ => none

theorem mapO_imp {α β : Type} {f g : α → Option β} : ∀ {l : List α} {ys : List β}, mapO f l = some ys → (∀ x ∈ l, ∀ y ∈ ys, f x = some y → g x = some y) → mapO g l = some ys
  | [], ys, h, _ => h
  | x :: l, ys, h, hi => by
    unfold mapO at h ⊢
    cases hx : f x with
    | none => rw [hx] at h; cases h
    | some y =>
      cases hl : mapO f l with
      | none => rw [hx, hl] at h; cases h
      | some r =>
        rw [hx, hl] at h
        cases h
        rw [hi x (by simp) y (by simp) hx, mapO_imp hl fun z hz w hw => hi z (by simp [hz]) w (by simp [hw])]

theorem mapO_length {α β : Type} {f : α → Option β} : ∀ {l : List α} {ys : List β}, mapO f l = some ys → ys.length = l.length
  | [], ys, h => by cases h; rfl
  | x :: l, ys, h => by
    unfold mapO at h
    cases hx : f x with
    | none => rw [hx] at h; cases h
    | some y =>
      cases hl : mapO f l with
      | none => rw [hx, hl] at h; cases h
      | some r =>
        rw [hx, hl] at h
        cases h
        simp [mapO_length hl]

theorem mapO_snoc {α β : Type} {f : α → Option β} {x : α} : ∀ {l : List α} {ys : List β}, mapO f l = some ys → mapO f (l ++ [x]) = (f x).map fun y => ys ++ [y]
  | [], ys, h => by
    cases h
    cases hx : f x <;> simp [mapO, hx]
  | z :: l, ys, h => by
    unfold mapO at h
    cases hz : f z with
    | none => rw [hz] at h; cases h
    | some y =>
      cases hl : mapO f l with
      | none => rw [hz, hl] at h; cases h
      | some r =>
        rw [hz, hl] at h
        cases h
        rw [List.cons_append, mapO, hz, mapO_snoc hl]
        cases hx : f x <;> simp

theorem mapO_no {α β : Type} {f : α → Option β} {x : α} : ∀ {l : List α}, x ∈ l → f x = none → mapO f l = none
  | z :: l, h, hx => by
    unfold mapO
    rcases List.mem_cons.1 h with rfl | h
    · rw [hx]
    · rw [mapO_no h hx]
      cases f z <;> rfl

theorem mapO_map {α β : Type} {f : α → Option β} {g : β → α} : ∀ {ys : List β}, (∀ y ∈ ys, f (g y) = some y) → mapO f (ys.map g) = some ys
  | [], _ => rfl
  | y :: ys, h => by
    rw [List.map_cons, mapO, h y (by simp), mapO_map fun z hz => h z (by simp [hz])]

/-- Numbers between commas. -/
def listO (num : List UInt8 → Option Int) (l : List UInt8) : Option (List Int) := mapO num (splitL 44 l)

/-- A problem's text. -/
def readP (num : List UInt8 → Option Int) (l : List UInt8) : Option (List (List Int) × List Int) :=
  match splitL 47 l with
  | [a, b] => (match mapO (listO num) (splitL 59 a), listO num b with | some m, some q => some (m, q) | _, _ => none)
  | _ => none

def joinI (c : UInt8) (l : List Int) : List UInt8 := join (l.map itoa) [c]

def rowsT (m : List (List Int)) : List UInt8 := join (m.map (joinI 44)) [59]

def textP (p : List (List Int) × List Int) : List UInt8 := rowsT p.1 ++ 47 :: joinI 44 p.2

theorem joinI_no {c : UInt8} {l : List Int} (h1 : c ≠ 44) (h2 : c ≠ 45) (h3 : ¬ isDig c) : c ∉ joinI 44 l := fun h => by
  rcases join_mem h with h | ⟨p, hp, h⟩
  · exact h1 h
  · obtain ⟨v, _, rfl⟩ := List.mem_map.1 hp
    exact itoa_no h2 h3 h

theorem joinI_split {l : List Int} (h : l ≠ []) : splitL 44 (joinI 44 l) = l.map itoa :=
  splitL_join (by simpa using h) fun p hp => by
    obtain ⟨v, _, rfl⟩ := List.mem_map.1 hp
    exact itoa_no (by decide) (by decide)

theorem listO_join {num : List UInt8 → Option Int} {l : List Int} (h : l ≠ []) (hn : ∀ v ∈ l, num (itoa v) = some v) : listO num (joinI 44 l) = some l := by
  unfold listO
  rw [joinI_split h]
  exact mapO_map hn

theorem readP_text {num : List UInt8 → Option Int} {p : List (List Int) × List Int} (h1 : p.1 ≠ []) (h2 : ∀ r ∈ p.1, r ≠ []) (h3 : p.2 ≠ []) (hm : ∀ r ∈ p.1, ∀ v ∈ r, num (itoa v) = some v) (hq : ∀ v ∈ p.2, num (itoa v) = some v) :
    readP num (textP p) = some p := by
  have hno : (47 : UInt8) ∉ rowsT p.1 := fun h => by
    rcases join_mem h with h | ⟨r, hr, h⟩
    · exact absurd h (by decide)
    · obtain ⟨v, _, rfl⟩ := List.mem_map.1 hr
      exact joinI_no (by decide) (by decide) (by decide) h
  have hq0 : (47 : UInt8) ∉ joinI 44 p.2 := joinI_no (by decide) (by decide) (by decide)
  have hsp : splitL 59 (rowsT p.1) = p.1.map (joinI 44) := splitL_join (by simpa using h1) fun r hr => by
    obtain ⟨v, _, rfl⟩ := List.mem_map.1 hr
    exact joinI_no (by decide) (by decide) (by decide)
  have e : splitL 47 (textP p) = [rowsT p.1, joinI 44 p.2] := by
    unfold textP
    rw [splitL_app hno, splitL_not hq0]
  unfold readP
  rw [e]
  simp only
  rw [hsp, mapO_map fun r hr => listO_join (h2 r hr) (hm r hr), listO_join h3 hq]

/-- What the one side reads the other side reads, if the numbers are not too large. -/
theorem readP_imp {f g : List UInt8 → Option Int} {l : List UInt8} {p : List (List Int) × List Int} (h : readP f l = some p)
    (hi : ∀ x y, ((∃ r ∈ p.1, y ∈ r) ∨ y ∈ p.2) → f x = some y → g x = some y) : readP g l = some p := by
  unfold readP at h ⊢
  split at h
  · rename_i a b e
    split at h
    · rename_i m q hm hq
      cases h
      have h1 : mapO (listO g) (splitL 59 a) = some m := mapO_imp hm fun r _ ys hys hr => by
        unfold listO at hr ⊢
        exact mapO_imp hr fun x _ y hy hx => hi x y (.inl ⟨ys, hys, hy⟩) hx
      have h2 : listO g b = some q := by
        unfold listO at hq ⊢
        exact mapO_imp hq fun x _ y hy hx => hi x y (.inr hy) hx
      simp only [h1, h2]
    · cases h
  · cases h

/-- A text that is parted at the first byte only. -/
theorem readP_cut {num : List UInt8 → Option Int} {l a b : List UInt8} (hn : ∀ x, (47 : UInt8) ∈ x → num x = none) (e : l = a ++ 47 :: b) (ha : (47 : UInt8) ∉ a) :
    readP num l = (match mapO (listO num) (splitL 59 a), listO num b with | some m, some q => some (m, q) | _, _ => none) := by
  unfold readP
  rw [e, splitL_app ha]
  by_cases hb : (47 : UInt8) ∈ b
  · have h2 : listO num b = none := by
      unfold listO
      -- one of the parts has the byte
      have : ∃ x ∈ splitL 44 b, (47 : UInt8) ∈ x := by
        refine Classical.byContradiction fun hno => ?_
        have hno : ∀ x ∈ splitL 44 b, (47 : UInt8) ∉ x := fun x hx g => hno ⟨x, hx, g⟩
        have key : ∀ l : List UInt8, (∀ x ∈ splitL 44 l, (47 : UInt8) ∉ x) → (47 : UInt8) ∉ l := by
          intro l
          induction l with
          | nil => intro _ h; cases h
          | cons y l ih =>
            intro h hm
            by_cases hy : y = 44
            · rw [splitL, if_pos hy] at h
              rcases List.mem_cons.1 hm with g | g
              · rw [hy] at g; exact absurd g (by decide)
              · exact ih (fun x hx => h x (List.mem_cons_of_mem _ hx)) g
            · obtain ⟨p, t, ht⟩ : ∃ p t, splitL 44 l = p :: t := by
                cases g : splitL 44 l with
                | nil => exact absurd g (splitL_ne 44 l)
                | cons p t => exact ⟨p, t, rfl⟩
              rw [splitL_other hy ht] at h
              have h0 := h (y :: p) (by simp)
              simp only [List.mem_cons, not_or] at h0
              rcases List.mem_cons.1 hm with g | g
              · exact h0.1 g
              · refine ih (fun x hx => ?_) g
                rw [ht] at hx
                rcases List.mem_cons.1 hx with rfl | hx
                · exact h0.2
                · exact h x (List.mem_cons_of_mem _ hx)
        exact key b hno hb
      obtain ⟨x, hx, hm⟩ := this
      exact mapO_no hx (hn x hm)
    rw [h2]
    have hlen : 2 ≤ (splitL 47 b).length := by
      obtain ⟨b1, b2, e2, h3, -⟩ := cut_hit hb
      rw [e2, splitL_app h3]
      have := List.length_pos_iff.2 (splitL_ne 47 b2)
      simp only [List.length_cons]
      omega
    have e3 : (match mapO (listO num) (splitL 59 a), (none : Option (List Int)) with | some m, some q => some (m, q) | _, _ => none) = none := by
      cases mapO (listO num) (splitL 59 a) <;> rfl
    rw [e3]
    split
    · rename_i x y g
      have := congrArg List.length g
      simp only [List.length_cons, List.length_nil] at this
      omega
    · rfl
  · rw [splitL_not hb]

theorem numI_no {x : List UInt8} (h : (47 : UInt8) ∈ x) : numI x = none := by
  cases e : numI x with
  | none => rfl
  | some v =>
    rw [(numI_iff.1 e).1] at h
    exact absurd h (itoa_no (by decide) (by decide))

theorem readP_none {num : List UInt8 → Option Int} {l : List UInt8} (h : (47 : UInt8) ∉ l) : readP num l = none := by
  unfold readP
  rw [splitL_not h]

theorem numI_S {x : List UInt8} {v : Int} (h : numS x = some v) : numI x = some v := by
  obtain ⟨h1, h2, h3⟩ := numS_iff.1 h
  exact numI_iff.2 ⟨h1, by omega, by omega⟩

theorem numS_I {x : List UInt8} {v : Int} (h : numI x = some v) (h2 : -1000000000 < v ∧ v < 1000000000) : numS x = some v := numS_iff.2 ⟨(numI_iff.1 h).1, h2.1, h2.2⟩

end Go.Ab
