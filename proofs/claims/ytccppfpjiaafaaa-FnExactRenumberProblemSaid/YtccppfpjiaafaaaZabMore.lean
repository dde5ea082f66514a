/- More words over things: nil, one fresh element appended, zero results. -/
import Derived.Test.YtccppfpjiaafaaaZabLoop
namespace Go.Ab

section
variable {H0 H H' H1 : Heap} {L L' : List (Atom H0.next)} {K : Post}

theorem Has.one {α : Type} {r : Rd α} {v : Value} {xs : List α} (h : Has (Rd.slice r) H [v] xs) : cellsA v = some [v] := by
  obtain ⟨bs, h⟩ := h
  obtain ⟨a, e, g⟩ := Rd.slice_val h
  simp only [List.cons.injEq, and_true] at g
  rw [g]
  rfl

theorem Has.cell1 {α : Type} {r : Rd α} {v : Value} {xs : List α} (h : Has (Rd.slice r) H [v] xs) : isCell v = true := by
  have := h.cell
  simpa using this

theorem Has.small {α : Type} {r : Rd α} {v : Value} {xs : List α} (h : Has (Rd.slice r) H [v] xs) : xs.length < 9223372036854775808 := let ⟨_, h⟩ := h; Rd.slice_small h

theorem Has.i64 {v : Value} {xs : List Int} (h : Has (Rd.slice Rd.int) H [v] xs) : ∀ x ∈ xs, I64 x := fun x hx => by
  obtain ⟨i, hi, rfl⟩ := List.mem_iff_getElem.1 hx
  obtain ⟨bs, h⟩ := h
  obtain ⟨b, o, e, kb, fs, q1, _, s⟩ := Rd.slice_at h hi
  exact (s.each i hi).2.2

/-- Is it nil? -/
theorem Wl.isNilH {α : Type} {r : Rd α} {v : Value} {xs : List α} (h : Has (Rd.slice r) H [v] xs) (k1 : xs = [] → K (.bool true) H) (k2 : K (.bool false) H) : W.eqNilR .eql v (.slice none 0 0) H K := by
  obtain ⟨bs, h⟩ := h
  rcases h with ⟨h0, _, h | h | ⟨a, h⟩⟩ | ⟨b, o, e, kb, fs, _, h, _⟩
  · simp only [List.cons.injEq, and_true] at h; subst h; exact k1 h0
  · simp only [List.cons.injEq, and_true] at h; subst h; exact k2
  · simp only [List.cons.injEq, and_true] at h; subst h; exact k2
  · simp only [List.cons.injEq, and_true] at h; subst h; exact k2

theorem Loc.addG {α : Type} {r : Rd α} {ty : TypeId} {v : Value} {xs : List α} (h : Loc H0 L H) (f : FreshG r ty H v xs H') : Loc H0 (.grow r ty v xs :: L) H' := h.mkG f

/-- One element that was just made is appended. -/
theorem Wl.pushF {α : Type} {r : Rd α} (hr : r.n = 1) {ty ty' : TypeId} {v u zv : Value} {x : α} {xs : List α} {i : Nat} [c : AtV L [v] (.grow r ty v xs) i] {L2 : Value → List (Atom H0.next)} [s : ∀ v', SetI L i (.grow r ty v' (xs ++ [x])) (L2 v')]
    (h : Loc H0 L H) (f : Fresh r H [u] x H1) (hcu : cellsA u = some [u]) (hlen : xs.length < 16777216) (k : ∀ H' v', Loc H0 (L2 v') H' → K v' H') : W.lit 1 [zv] ty' [(0, 1, u)] H1 fun y H => W.append 1 ty v y H K := by
  have c' : AtV (Atom.data r [u] x :: L) [v] (.grow r ty v xs) (i + 1) := ⟨by simpa using c.get⟩
  have d' : AtV (Atom.data r [u] x :: L) [u] (.data r [u] x) 0 := ⟨rfl⟩
  have s' : ∀ v', SetI (Atom.data r [u] x :: L) (i + 1) (.grow r ty v' (xs ++ [x])) (Atom.data r [u] x :: L2 v') := fun v' => ⟨by rw [(s v').eq]; rfl⟩
  have s3 : ∀ v', SetI (Atom.data r [u] x :: L2 v') 0 .emp (.emp :: L2 v') := fun v' => ⟨rfl⟩
  exact Wl.pushO (L2 := fun v' => Atom.data r [u] x :: L2 v') (L3 := fun v' => .emp :: L2 v') hr (h.add f) (by omega) hcu hlen fun H' v' h' => k H' v' h'.tl

theorem fresh_nil {α : Type} {r : Rd α} (l : H0.Le H) : Fresh (Rd.slice r) H0 [.slice none 0 0] [] H := ⟨l, [], .inl ⟨rfl, rfl, .inl rfl⟩, List.nodup_nil, (fun c hc => by cases hc), (fun c hc => by cases hc)⟩

theorem fresh_nil2 {α β : Type} {r : Rd α} {s : Rd β} (l : H0.Le H) : Fresh ((Rd.slice r).pair (Rd.slice s)) H0 [.slice none 0 0, .slice none 0 0] ([], []) H := (fresh_nil (r := r) l).pair (fresh_nil (r := s) (.refl _))

theorem fresh_nil4 {α β γ δ : Type} {r : Rd α} {s : Rd β} {t : Rd γ} {u : Rd δ} (l : H0.Le H) :
    Fresh ((Rd.slice r).pair ((Rd.slice s).pair ((Rd.slice t).pair (Rd.slice u)))) H0 [.slice none 0 0, .slice none 0 0, .slice none 0 0, .slice none 0 0] ([], [], [], []) H :=
  (fresh_nil (r := r) l).pair ((fresh_nil (r := s) (.refl _)).pair (fresh_nil2 (r := t) (s := u) (.refl _)))

/-- Two things of one struct, as what was made. -/
theorem Loc.ret2 (h : Loc H0 L H) {α β : Type} {r : Rd α} {s : Rd β} {c1 c2 : List Value} {x : α} {y : β} {i j : Nat} (hi : L[i]? = some (.data r c1 x)) (hj : L[j]? = some (.data s c2 y)) (hij : i ≠ j) : Fresh (r.pair s) H0 (c1 ++ c2) (x, y) H := by
  refine (h.pair hi hj hij).ret (i := i) ?_
  rw [List.getElem?_set_ne (fun e => hij e.symm), List.getElem?_set_self (List.getElem?_eq_some_iff.1 hi).1]

end
end Go.Ab
