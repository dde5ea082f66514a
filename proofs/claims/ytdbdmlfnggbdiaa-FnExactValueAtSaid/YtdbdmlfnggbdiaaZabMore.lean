/- More words over things: nil, one fresh element appended, zero results. -/
import Derived.Test.YtdbdmlfnggbdiaaZabLoop
namespace Go.Ab

section
variable {H0 H H' H1 : Heap} {L L' : List (Atom H0.next)} {K : Post}

theorem Has.one {α : Type} {r : Rd α} {v : Value} {xs : List α} (h : Has (Rd.slice r) H [v] xs) : cellsA v = some [v] := by
  obtain ⟨bs, h⟩ := h
  obtain ⟨a, e, g⟩ := Rd.slice_val h
  simp only [List.cons.injEq, and_true] at g
  rw [g]
  rfl

theorem Has.cell1 {α : Type} {r : Rd α} {v : Value} {xs : List α} (h : Has (Rd.slice r) H [v] xs) : isCell v = true := by
  have := h.cell
  simpa using this

theorem Has.small {α : Type} {r : Rd α} {v : Value} {xs : List α} (h : Has (Rd.slice r) H [v] xs) : xs.length < 9223372036854775808 := let ⟨_, h⟩ := h; Rd.slice_small h

theorem Has.i64 {v : Value} {xs : List Int} (h : Has (Rd.slice Rd.int) H [v] xs) : ∀ x ∈ xs, I64 x := fun x hx => by
  obtain ⟨i, hi, rfl⟩ := List.mem_iff_getElem.1 hx
  obtain ⟨bs, h⟩ := h
  obtain ⟨b, o, e, kb, fs, q1, _, s⟩ := Rd.slice_at h hi
  exact (s.each i hi).2.2

/-- Is it nil? -/
theorem Wl.isNilH {α : Type} {r : Rd α} {v : Value} {xs : List α} (h : Has (Rd.slice r) H [v] xs) (k1 : xs = [] → K (.bool true) H) (k2 : K (.bool false) H) : W.eqNilR .eql v (.slice none 0 0) H K := by
  obtain ⟨bs, h⟩ := h
  rcases h with ⟨h0, _, h | h | ⟨a, h⟩⟩ | ⟨b, o, e, kb, fs, _, h, _⟩
  · simp only [List.cons.injEq, and_true] at h; subst h; exact k1 h0
  · simp only [List.cons.injEq, and_true] at h; subst h; exact k2
  · simp only [List.cons.injEq, and_true] at h; subst h; exact k2
  · simp only [List.cons.injEq, and_true] at h; subst h; exact k2

theorem Loc.addG {α : Type} {r : Rd α} {ty : TypeId} {v : Value} {xs : List α} (h : Loc H0 L H) (f : FreshG r ty H v xs H') : Loc H0 (.grow r ty v xs :: L) H' := h.mkG f

/-- One element that was just made is appended. -/
theorem Wl.pushF {α : Type} {r : Rd α} (hr : r.n = 1) {ty ty' : TypeId} {v u zv : Value} {x : α} {xs : List α} {i : Nat} [c : AtV L [v] (.grow r ty v xs) i] {L2 : Value → List (Atom H0.next)} [s : ∀ v', SetI L i (.grow r ty v' (xs ++ [x])) (L2 v')]
    (h : Loc H0 L H) (f : Fresh r H [u] x H1) (hcu : cellsA u = some [u]) (hlen : xs.length < 16777216) (k : ∀ H' v', Loc H0 (L2 v') H' → K v' H') : W.lit 1 [zv] ty' [(0, 1, u)] H1 fun y H => W.append 1 ty v y H K := by
  have c' : AtV (Atom.data r [u] x :: L) [v] (.grow r ty v xs) (i + 1) := ⟨by simpa using c.get⟩
  have d' : AtV (Atom.data r [u] x :: L) [u] (.data r [u] x) 0 := ⟨rfl⟩
  have s' : ∀ v', SetI (Atom.data r [u] x :: L) (i + 1) (.grow r ty v' (xs ++ [x])) (Atom.data r [u] x :: L2 v') := fun v' => ⟨by rw [(s v').eq]; rfl⟩
  have s3 : ∀ v', SetI (Atom.data r [u] x :: L2 v') 0 .emp (.emp :: L2 v') := fun v' => ⟨rfl⟩
  exact Wl.pushO (L2 := fun v' => Atom.data r [u] x :: L2 v') (L3 := fun v' => .emp :: L2 v') hr (h.add f) (by omega) hcu hlen fun H' v' h' => k H' v' h'.tl

/-- The first things alone. -/
theorem Loc.first (h : Loc H0 L H) (n : Nat) : Loc H0 (L.take n) H := by
  obtain ⟨le, F, h1, h2⟩ := h
  have e : ∀ i a, (L.take n)[i]? = some a → L[i]? = some a := fun i a hi => by
    rw [List.getElem?_take] at hi
    split at hi
    · exact hi
    · cases hi
  exact ⟨le, F, fun i a hi => h1 i a (e i a hi), fun i j a c hij hi hj => h2 i j a c hij (e i a hi) (e j c hj)⟩

theorem fresh_nil {α : Type} {r : Rd α} (l : H0.Le H) : Fresh (Rd.slice r) H0 [.slice none 0 0] [] H := ⟨l, [], .inl ⟨rfl, rfl, .inl rfl⟩, List.nodup_nil, (fun c hc => by cases hc), (fun c hc => by cases hc)⟩

theorem fresh_nil2 {α β : Type} {r : Rd α} {s : Rd β} (l : H0.Le H) : Fresh ((Rd.slice r).pair (Rd.slice s)) H0 [.slice none 0 0, .slice none 0 0] ([], []) H := (fresh_nil (r := r) l).pair (fresh_nil (r := s) (.refl _))

theorem fresh_nil4 {α β γ δ : Type} {r : Rd α} {s : Rd β} {t : Rd γ} {u : Rd δ} (l : H0.Le H) :
    Fresh ((Rd.slice r).pair ((Rd.slice s).pair ((Rd.slice t).pair (Rd.slice u)))) H0 [.slice none 0 0, .slice none 0 0, .slice none 0 0, .slice none 0 0] ([], [], [], []) H :=
  (fresh_nil (r := r) l).pair ((fresh_nil (r := s) (.refl _)).pair (fresh_nil2 (r := t) (s := u) (.refl _)))

/-- Two things of one struct, as what was made. -/
theorem Loc.ret2 (h : Loc H0 L H) {α β : Type} {r : Rd α} {s : Rd β} {c1 c2 : List Value} {x : α} {y : β} {i j : Nat} (hi : L[i]? = some (.data r c1 x)) (hj : L[j]? = some (.data s c2 y)) (hij : i ≠ j) : Fresh (r.pair s) H0 (c1 ++ c2) (x, y) H := by
  refine (h.pair hi hj hij).ret (i := i) ?_
  rw [List.getElem?_set_ne (fun e => hij e.symm), List.getElem?_set_self (List.getElem?_eq_some_iff.1 hi).1]

end
/-! ### Lists changed in place, step by step -/

def mapTo {α : Type} (f : Nat → α → α) (xs : List α) (i : Nat) : List α := ((xs.take i).mapIdx f) ++ xs.drop i

theorem mapTo_length {α : Type} (f : Nat → α → α) (xs : List α) (i : Nat) : (mapTo f xs i).length = xs.length := by simp [mapTo]; omega
theorem mapTo_zero {α : Type} (f : Nat → α → α) (xs : List α) : mapTo f xs 0 = xs := by simp [mapTo]
theorem mapTo_all {α : Type} (f : Nat → α → α) (xs : List α) : mapTo f xs xs.length = xs.mapIdx f := by simp [mapTo]
theorem mapTo_get {α : Type} {f : Nat → α → α} {xs : List α} {i : Nat} (h : i < xs.length) : (mapTo f xs i)[i]'(by rw [mapTo_length]; exact h) = xs[i] := by
  unfold mapTo
  rw [List.getElem_append_right (by simp; omega)]
  simp
  congr 1
  omega
theorem mapTo_succ {α : Type} {f : Nat → α → α} {xs : List α} {i : Nat} (h : i < xs.length) : (mapTo f xs i).set i (f i xs[i]) = mapTo f xs (i + 1) := by
  unfold mapTo
  have hl : ((xs.take i).mapIdx f).length = i := by simp; omega
  have hm : min i xs.length = i := by omega
  rw [List.set_append_right _ _ (by omega), hl, Nat.sub_self, List.drop_eq_getElem_cons h, List.set_cons_zero, List.take_succ_eq_append_getElem h, List.mapIdx_append]
  simp [hm]

section
variable {H0 H H' H1 : Heap} {L L' : List (Atom H0.next)} {K : Post}

/-- All elements of a slice that was made are appended. -/
theorem Wl.appendO {α : Type} {r : Rd α} {m : Nat} (hm : r.n = m) {ty : TypeId} {v y : Value} {xs zs : List α} {i j : Nat} (h : Loc H0 L H) [c : AtV L [v] (.grow r ty v xs) i] [d : AtV L [y] (.data (Rd.slice r) [y] zs) j] {L2 : Value → List (Atom H0.next)} {L3 : Value → List (Atom H0.next)}
    [s : ∀ v', SetI L i (.grow r ty v' (xs ++ zs)) (L2 v')] [s3 : ∀ v', SetI (L2 v') j .emp (L3 v')] (hij : i ≠ j) (hlen : xs.length + zs.length ≤ 16777216) (k : ∀ H' v', Loc H0 (L3 v') H' → K v' H') :
    W.append m ty v y H K := by
  subst hm
  obtain ⟨bs, cs, p1, ⟨q1, q2, q3⟩, hd, _, _, up⟩ := h.upd2 c.get d.get hij
  cases zs with
  | nil =>
    have e : W.append r.n ty v y H K = appendTo r.n ty v 0 [] K H := by
      unfold W.append
      rw [src_nil q1]
    have hk := k H v
    rw [(s3 v).eq, (s v).eq] at hk
    have hk2 := hk (up H _ bs (Nat.le_refl _) (fun _ _ _ _ => rfl) (by rw [List.append_nil]; exact p1) fun c hc => .inl hc)
    clear hk
    rw [e]
    rcases p1 with ⟨rfl, rfl, rfl⟩ | ⟨b, e, kb, fs, rfl, he2, _⟩
    · unfold appendTo
      simp only [Nat.add_zero, Nat.zero_div, Nat.le_refl, if_true]
      exact hk2
    · unfold appendTo
      simp only [Nat.add_zero]
      rw [if_pos (by omega)]
      simp only [if_true]
      exact hk2
  | cons z zs =>
    obtain ⟨new, fs, h1, h2, h3, b', h4⟩ := src_has q1 (by simp)
    subst h4
    have hn := List.nodup_cons.1 q2
    refine grow_append p1 h1 (by simp) h2 (cells_all h2 h3) hlen fs (fun i hi => ⟨h3 i hi, fun c hc => q3 c (List.mem_cons_of_mem _ (List.mem_flatMap.2 ⟨i, by simpa using hi, hc⟩))⟩) hn.2 (fun c hc hm => hd c hc (List.mem_cons_of_mem _ hm)) fun H' v' bs' p' hn' hsame hbs => k H' v' ?_
    rw [(s3 v').eq, (s v').eq]
    refine up H' _ bs' hn' (fun c hc h1 _ => hsame c hc h1) p' fun c hc => ?_
    rcases hbs c hc with h | h | h
    · exact .inl h
    · exact .inr (.inl (List.mem_cons_of_mem _ h))
    · exact .inr (.inr h)

/-- A slice that has grown is appended as one element. -/
theorem Wl.pushG {α : Type} {t : Rd α} {ty ty2 ty' : TypeId} {v u zv : Value} {x : List α} {xs : List (List α)} {i : Nat} [c : AtV L [v] (.grow (Rd.slice t) ty v xs) i] {L2 : Value → List (Atom H0.next)} [s : ∀ v', SetI L i (.grow (Rd.slice t) ty v' (xs ++ [x])) (L2 v')]
    (h : Loc H0 (.grow t ty2 u x :: L) H) (hlen : xs.length < 16777216) (k : ∀ H' v', Loc H0 (L2 v') H' → K v' H') : W.lit 1 [zv] ty' [(0, 1, u)] H fun y H => W.append 1 ty v y H K := by
  have h1 := h.asData (i := 0) rfl
  have hcu : cellsA u = some [u] := Has.one (h1.rd (cs := [u]))
  have c' : AtV (Atom.data (Rd.slice t) [u] x :: L) [v] (.grow (Rd.slice t) ty v xs) (i + 1) := ⟨by simpa using c.get⟩
  have d' : AtV (Atom.data (Rd.slice t) [u] x :: L) [u] (.data (Rd.slice t) [u] x) 0 := ⟨rfl⟩
  have s' : ∀ v', SetI (Atom.data (Rd.slice t) [u] x :: L) (i + 1) (.grow (Rd.slice t) ty v' (xs ++ [x])) (Atom.data (Rd.slice t) [u] x :: L2 v') := fun v' => ⟨by rw [(s v').eq]; rfl⟩
  have s3 : ∀ v', SetI (Atom.data (Rd.slice t) [u] x :: L2 v') 0 .emp (.emp :: L2 v') := fun v' => ⟨rfl⟩
  exact Wl.pushO (L2 := fun v' => Atom.data (Rd.slice t) [u] x :: L2 v') (L3 := fun v' => .emp :: L2 v') rfl h1 (by omega) hcu hlen fun H' v' h' => k H' v' h'.tl

/-- Zeros are appended. -/
theorem Wl.appendZ {α : Type} {r : Rd α} [p : Plain r] {ty : TypeId} {v : Value} {zc : List Value} {z : α} {xs : List α} {i m : Nat} {κ : IntKind} (hz : ∀ H, r.rel H [] zc z) (h : Loc H0 L H) [c : AtV L [v] (.grow r ty v xs) i] {L2 : Value → List (Atom H0.next)} [s : ∀ v', SetI L i (.grow r ty v' (xs ++ List.replicate m z)) (L2 v')]
    (hlen : xs.length + m ≤ 16777216) (k : ∀ H' v', Loc H0 (L2 v') H' → K v' H') : W.appendZ zc ty v (.int κ m) H K := by
  have hl : zc.length = r.n := r.len (hz H)
  obtain ⟨bs, g, _, u⟩ := h.upd c.get
  refine ⟨by omega, by omega, ?_⟩
  rw [Int.toNat_natCast, hl]
  rcases Nat.eq_zero_or_pos m with h0 | h0
  · subst h0
    have hk := k H v
    rw [(s v).eq] at hk
    have hk2 := hk (u H _ bs (Nat.le_refl _) (fun _ _ _ => rfl) (by simpa using g) fun c hc => .inl hc)
    clear hk
    rcases g with ⟨rfl, rfl, rfl⟩ | ⟨b, e, kb, fs, rfl, he2, _⟩
    · unfold appendTo
      simp only [Nat.add_zero, Nat.zero_div, Nat.le_refl, if_true]
      exact hk2
    · unfold appendTo
      simp only [Nat.add_zero]
      rw [if_pos (by omega)]
      simp only [if_true]
      exact hk2
  · have hrl : (List.replicate m z).length = m := by simp
    have he : ∀ i (hi : i < (List.replicate m z).length), r.rel H [] (cellsAt r.n (reps m zc) 0 i) (List.replicate m z)[i] := fun i hi => by
      simp only [List.getElem_replicate]
      rw [← hl, reps_cells (by simpa using hi)]
      exact hz H
    have hn : (reps m zc).length = (List.replicate m z).length * r.n := by simp [reps_length, hl]
    have := grow_appendTo (zs := List.replicate m z) (new := reps m zc) (K := K) g (by simpa using h0) hn (cells_all (gs := fun _ => []) hn he) (by simpa using hlen) (fun _ => []) (fun i hi => ⟨he i hi, fun c hc => by cases hc⟩) (by rw [flat_nil fun _ _ => rfl]; exact List.nodup_nil) (fun c _ => by rw [flat_nil fun _ _ => rfl]; simp) fun H' v' bs' p' hn' hsame hbs => k H' v' (by
      rw [(s v').eq]
      refine u H' _ bs' hn' hsame p' fun c hc => ?_
      rcases hbs c hc with h | h | h
      · exact .inl h
      · rw [flat_nil fun _ _ => rfl] at h; cases h
      · exact .inr h)
    rw [hrl] at this
    exact this

end

end Go.Ab
