/- Reading slices. -/
import Derived.Test.YtgdiebnokgnniaaGreatDoorZabG4
import Derived.Test.YtgdiebnokgnniaaGreatDoorZabG3
namespace Go.Ab

/-- The i-th element of a slice of one-cell elements. -/
theorem Rd.slice_get {α : Type} {r : Rd α} (hr : r.n = 1) {H : Heap} {bs : List Nat} {v : Value} {xs : List α} (h : (Rd.slice r).rel H bs [v] xs) {i : Nat} (hi : i < xs.length) :
    ∃ b o e kb u bs', v = .slice (some (adr b o)) xs.length e ∧ H.blk b = some kb ∧ kb.cells[o + i * 1]? = some u ∧ r.rel H bs' [u] xs[i] := by
  obtain ⟨b, o, e, kb, fs, q1, _, s⟩ := Rd.slice_at h hi
  obtain ⟨u, m1, r1⟩ := s.one hr hi
  exact ⟨b, o, e, kb, u, _, q1, s.blk, m1, r1⟩

theorem Wi.at1 {α : Type} {r : Rd α} (hr : r.n = 1) {H : Heap} {bs : List Nat} {v : Value} {xs : List α} {k : Post} (h : (Rd.slice r).rel H bs [v] xs) {i : Nat} (hi : i < xs.length)
    (hk : ∀ u bs', r.rel H bs' [u] xs[i] → k u H) : W.indexAddr 1 v (.int .i64 i) H fun p H => W.get p H k := by
  obtain ⟨b, o, e, kb, u, bs', q1, hb, m1, r1⟩ := Rd.slice_get hr h hi
  rw [q1]
  exact Wi.index hi (Wi.get hb m1 (hk u bs' r1))

theorem Wi.atInt {H : Heap} {bs : List Nat} {v : Value} {xs : List Int} {k : Post} (h : (Rd.slice Rd.int).rel H bs [v] xs) {i : Nat} (hi : i < xs.length)
    (hk : k (.int .i64 xs[i]) H) : W.indexAddr 1 v (.int .i64 i) H fun p H => W.get p H k := by
  refine Wi.at1 rfl h hi fun u bs' hr => ?_
  obtain ⟨_, hu, _⟩ := hr
  simp only [List.cons.injEq, and_true] at hu
  rw [hu]
  exact hk

theorem Wi.lenOf {α : Type} {r : Rd α} {H : Heap} {bs : List Nat} {v : Value} {xs : List α} {k : Post} (h : (Rd.slice r).rel H bs [v] xs) (hk : k (.int .i64 xs.length) H) : W.len v H k := by
  obtain ⟨p1, e1, g1⟩ := Rd.slice_val h
  simp only [List.cons.injEq, and_true] at g1
  rw [g1]
  exact hk

theorem Wi.indexE {b o n e sz i : Nat} {κ : IntKind} {v : Value} {H : Heap} {k : Post} (hv : v = .slice (some (adr b o)) n e) (hi : i < n) (h : k (pt b (o + i * sz)) H) : W.indexAddr sz v (.int κ (i : Int)) H k := by
  rw [hv]
  exact Wi.index hi h

end Go.Ab
/-! More words over things: nil, one fresh element appended, zero results. -/
namespace Go.Ab

section
variable {H0 H H' H1 : Heap} {L L' : List (Atom H0.next)} {K : Post}

theorem Has.one {α : Type} {r : Rd α} {v : Value} {xs : List α} (h : Has (Rd.slice r) H [v] xs) : cellsA v = some [v] := by
  obtain ⟨bs, h⟩ := h
  obtain ⟨a, e, g⟩ := Rd.slice_val h
  simp only [List.cons.injEq, and_true] at g
  rw [g]
  rfl

theorem Has.cell1 {α : Type} {r : Rd α} {v : Value} {xs : List α} (h : Has (Rd.slice r) H [v] xs) : isCell v = true := by
  have := h.cell
  simpa using this

theorem Has.small {α : Type} {r : Rd α} {v : Value} {xs : List α} (h : Has (Rd.slice r) H [v] xs) : xs.length < 9223372036854775808 := let ⟨_, h⟩ := h; Rd.slice_small h

theorem Has.i64 {v : Value} {xs : List Int} (h : Has (Rd.slice Rd.int) H [v] xs) : ∀ x ∈ xs, I64 x := fun x hx => by
  obtain ⟨i, hi, rfl⟩ := List.mem_iff_getElem.1 hx
  obtain ⟨bs, h⟩ := h
  obtain ⟨b, o, e, kb, fs, q1, _, s⟩ := Rd.slice_at h hi
  exact (s.each i hi).2.2

/-- Is it nil? -/
theorem Wl.isNilH {α : Type} {r : Rd α} {v : Value} {xs : List α} (h : Has (Rd.slice r) H [v] xs) (k1 : xs = [] → K (.bool true) H) (k2 : K (.bool false) H) : W.eqNilR .eql v (.slice none 0 0) H K := by
  obtain ⟨bs, h⟩ := h
  rcases h with ⟨h0, _, h | h | ⟨a, h⟩⟩ | ⟨b, o, e, kb, fs, _, h, _⟩
  · simp only [List.cons.injEq, and_true] at h; subst h; exact k1 h0
  · simp only [List.cons.injEq, and_true] at h; subst h; exact k2
  · simp only [List.cons.injEq, and_true] at h; subst h; exact k2
  · simp only [List.cons.injEq, and_true] at h; subst h; exact k2

theorem Loc.addG {α : Type} {r : Rd α} {ty : TypeId} {v : Value} {xs : List α} (h : Loc H0 L H) (f : FreshG r ty H v xs H') : Loc H0 (.grow r ty v xs :: L) H' := h.mkG f

/-- One element that was just made is appended. -/
theorem Wl.pushF {α : Type} {r : Rd α} (hr : r.n = 1) {ty ty' : TypeId} {v u zv : Value} {x : α} {xs : List α} {i : Nat} [c : AtV L [v] (.grow r ty v xs) i] {L2 : Value → List (Atom H0.next)} [s : ∀ v', SetI L i (.grow r ty v' (xs ++ [x])) (L2 v')]
    (h : Loc H0 L H) (f : Fresh r H [u] x H1) (hcu : cellsA u = some [u]) (hlen : xs.length < 17179869184) (k : ∀ H' v', Loc H0 (L2 v') H' → K v' H') : W.lit 1 [zv] ty' [(0, 1, u)] H1 fun y H => W.append 1 ty v y H K := by
  have c' : AtV (Atom.data r [u] x :: L) [v] (.grow r ty v xs) (i + 1) := ⟨by simpa using c.get⟩
  have d' : AtV (Atom.data r [u] x :: L) [u] (.data r [u] x) 0 := ⟨rfl⟩
  have s' : ∀ v', SetI (Atom.data r [u] x :: L) (i + 1) (.grow r ty v' (xs ++ [x])) (Atom.data r [u] x :: L2 v') := fun v' => ⟨by rw [(s v').eq]; rfl⟩
  have s3 : ∀ v', SetI (Atom.data r [u] x :: L2 v') 0 .emp (.emp :: L2 v') := fun v' => ⟨rfl⟩
  exact Wl.pushO (L2 := fun v' => Atom.data r [u] x :: L2 v') (L3 := fun v' => .emp :: L2 v') hr (h.add f) (by omega) hcu hlen fun H' v' h' => k H' v' h'.tl

/-- The first things alone. -/
theorem Loc.first (h : Loc H0 L H) (n : Nat) : Loc H0 (L.take n) H := by
  obtain ⟨le, F, h1, h2⟩ := h
  have e : ∀ i a, (L.take n)[i]? = some a → L[i]? = some a := fun i a hi => by
    rw [List.getElem?_take] at hi
    split at hi
    · exact hi
    · cases hi
  exact ⟨le, F, fun i a hi => h1 i a (e i a hi), fun i j a c hij hi hj => h2 i j a c hij (e i a hi) (e j c hj)⟩

theorem fresh_nil {α : Type} {r : Rd α} (l : H0.Le H) : Fresh (Rd.slice r) H0 [.slice none 0 0] [] H := ⟨l, [], .inl ⟨rfl, rfl, .inl rfl⟩, List.nodup_nil, (fun c hc => by cases hc), (fun c hc => by cases hc)⟩

theorem fresh_nil2 {α β : Type} {r : Rd α} {s : Rd β} (l : H0.Le H) : Fresh ((Rd.slice r).pair (Rd.slice s)) H0 [.slice none 0 0, .slice none 0 0] ([], []) H := (fresh_nil (r := r) l).pair (fresh_nil (r := s) (.refl _))

/-- Two things of one struct, as what was made. -/
theorem Loc.ret2 (h : Loc H0 L H) {α β : Type} {r : Rd α} {s : Rd β} {c1 c2 : List Value} {x : α} {y : β} {i j : Nat} (hi : L[i]? = some (.data r c1 x)) (hj : L[j]? = some (.data s c2 y)) (hij : i ≠ j) : Fresh (r.pair s) H0 (c1 ++ c2) (x, y) H := by
  refine (h.pair hi hj hij).ret (i := i) ?_
  rw [List.getElem?_set_ne (fun e => hij e.symm), List.getElem?_set_self (List.getElem?_eq_some_iff.1 hi).1]

end
/-! ### Lists changed in place, step by step -/

def mapTo {α : Type} (f : Nat → α → α) (xs : List α) (i : Nat) : List α := ((xs.take i).mapIdx f) ++ xs.drop i

section
variable {H0 H H' H1 : Heap} {L L' : List (Atom H0.next)} {K : Post}

end

end Go.Ab

/-! Rows that grow. -/
namespace Go.Ab

/-! ### Rows that grow -/

/-- A slice that may grow, as a reading. -/
def Rd.gslice {α : Type} (r : Rd α) (ty : TypeId) : Rd (List α) where
  n := 1
  rel := fun H bs cs xs => ∃ v, cs = [v] ∧ (Atom.grow (n := 0) r ty v xs).P H bs
  len := fun ⟨v, h, _⟩ => by rw [h]; rfl
  cell := fun ⟨v, h, p⟩ => by
    rw [h]
    rcases p with ⟨rfl, _⟩ | ⟨b, e, kb, fs, rfl, _⟩ <;> rfl
  low := fun ⟨_, _, p⟩ => (Atom.grow (n := 0) r ty _ _).low p
  frame := fun ⟨v, h, p⟩ hn hb => ⟨v, h, (Atom.grow (n := 0) r ty v _).frame p (Nat.zero_le _) hn fun b hm => hb b (hm.resolve_left (by omega))⟩

theorem gslice_slice {α : Type} {r : Rd α} {ty : TypeId} {H : Heap} {bs : List Nat} {cs : List Value} {xs : List α} (h : (Rd.gslice r ty).rel H bs cs xs) : (Rd.slice r).rel H bs cs xs := by
  obtain ⟨v, rfl, p⟩ := h
  exact (grow_data p).1

theorem SlAt.imp {α : Type} {r s : Rd α} (hn : r.n = s.n) (h : ∀ {H bs cs x}, r.rel H bs cs x → s.rel H bs cs x) {H : Heap} {b o e : Nat} {kb : Blk} {fs : Nat → List Nat} {xs : List α} (g : SlAt r H b o e kb fs xs) : SlAt s H b o e kb fs xs :=
  ⟨g.lt, g.blk, g.cap, g.small, by rw [← hn]; exact g.room, fun i hi => by rw [← hn]; exact h (g.each i hi)⟩

section
variable {H0 H H' H1 : Heap} {L L' : List (Atom H0.next)} {K : Post}

end

end Go.Ab

/-! slices.Grow and slices.Concat. -/
namespace Go.Ab

def growW (zc : List Value) (sz : Nat) (ty : TypeId) (Q : Post) (s n : Value) (H : Heap) : Prop :=
  W.bin .lss n (.int .i64 0) H fun v1 H => W.cond v1 H (fun H => W.no H) (fun H => W.cap s H fun v2 H => W.len s H fun v3 H => W.bin .sub v2 v3 H fun v4 H => W.bin .sub n v4 H fun v5 H =>
    W.bin .gtr v5 (.int .i64 0) H fun v6 H => W.cond v6 H (fun H => W.cap s H fun v7 H => W.slice sz s none (some v7) H fun v8 H => W.appendZ zc ty v8 v5 H fun v9 H => W.len s H fun v10 H => W.slice sz v9 none (some v10) H fun v11 H => Q v11 H) (fun H => Q s H))

def GrowF (P : Program) (f : FuncId) (zc : List Value) (sz : Nat) (ty : TypeId) : Prop :=
  ∀ (Q : Post) (s n : Value) (H : Heap), growW zc sz ty Q s n H → Runs P f #[s, n] H Q

def concatW (P : Program) (g : FuncId) (n1 n2 n3 n4 sz : Nat) (ty : TypeId) (Q : Post) (a : Value) (H : Heap) : Prop :=
  W.len a H fun v1 H => W.loop (S := St [n1, n2]) (fun I s H => W.bin .lss s.2.1 v1 H fun v2 H => W.cond v2 H
    (fun H => W.indexAddr 1 a s.2.1 H fun v3 H => W.get v3 H fun v4 H => W.len v4 H fun v5 H => W.bin .add s.1 v5 H fun v6 H => W.bin .lss v6 (.int .i64 0) H fun v7 H => W.cond v7 H (fun H => W.no H)
      (fun H => W.bin .add s.2.1 (.int .i64 1) H fun v8 H => I (v6, v8, ()) H))
    (fun H => W.call P (.func (.func g) #[] #[]) #[.slice none 0 0, s.1] H fun v9 H => W.len a H fun v10 H => W.loop (S := St [n3, n4]) (fun I s H => W.bin .lss s.2.1 v10 H fun v11 H => W.cond v11 H
      (fun H => W.indexAddr 1 a s.2.1 H fun v12 H => W.get v12 H fun v13 H => W.append sz ty s.1 v13 H fun v14 H => W.bin .add s.2.1 (.int .i64 1) H fun v15 H => I (v14, v15, ()) H)
      (fun H => Q s.1 H)) (v9, .int .i64 0, ()) H)) (.int .i64 0, .int .i64 0, ()) H

/-- What stands behind a Concat: a new block whose elements are those of the parts. -/
structure Joined {α : Type} (r : Rd α) (ty : TypeId) (n : Nat) (H : Heap) (u : Value) (ys : List α) (H' : Heap) : Prop where
  le : H.Le H'
  has : (u = .slice none 0 0 ∧ n = 0 ∧ ys = []) ∨ ∃ (b : Nat) (kb : Blk) (fs : Nat → List Nat), 0 < n ∧ u = .slice (some (adr b 0)) ys.length (2 * n + 1) ∧ ys.length ≤ n ∧ n ≤ 17179869184 ∧ H.next ≤ b ∧ b < H'.next ∧ H'.blk b = some kb ∧ kb.ro = false ∧ kb.ty = ty ∧ kb.esz = r.n ∧
    kb.cells.length = n * r.n ∧ kb.cells.all isCell = true ∧ ∀ i (h : i < ys.length), r.rel H' (fs i) (cellsAt r.n kb.cells 0 i) ys[i] ∧ ∀ c ∈ fs i, c < H.next

/-- slices.Concat of a function's number. -/
def ConcatF {α : Type} (P : Program) (f : FuncId) (r : Rd α) (ty : TypeId) : Prop :=
  ∀ (H : Heap) (a : Value) (xss : List (List α)) (Q : Post), Has (Rd.slice (Rd.slice r)) H [a] xss → xss.flatten.length ≤ 17179869184 → (∀ H' u, Joined r ty xss.flatten.length H u xss.flatten H' → Q u H') → Runs P f #[a] H Q

end Go.Ab

/-! Fractions in lowest terms. No program here. -/
namespace Go.Ab

theorem gcd_step (a b : Int) : Int.gcd b (a.tmod b) = Int.gcd a b := by
  simp only [Int.gcd, Int.natAbs_tmod]
  rw [Nat.gcd_comm, ← Nat.gcd_rec, Nat.gcd_comm]

theorem tmod_lt (a : Int) {b : Int} (h : b ≠ 0) : (a.tmod b).natAbs < b.natAbs := by
  rw [Int.natAbs_tmod]
  exact Nat.mod_lt _ (by omega)

def inR (lo hi n : Int) : Bool := decide (lo ≤ n) && decide (n ≤ hi)

theorem inR_iff {lo hi n : Int} : inR lo hi n = true ↔ lo ≤ n ∧ n ≤ hi := by simp [inR]

abbrev Frac := Int × Int

/-- A fraction whose numbers are at most m. -/
def isFr (m : Int) (a : Frac) : Bool := inR 1 m a.2 && inR (-m) m a.1 && decide (Int.gcd a.1 a.2 = 1)

theorem isFr_iff {m : Int} {a : Frac} : isFr m a = true ↔ (1 ≤ a.2 ∧ a.2 ≤ m) ∧ (-m ≤ a.1 ∧ a.1 ≤ m) ∧ Int.gcd a.1 a.2 = 1 := by
  simp [isFr, inR, and_assoc]

/-- The fraction of two numbers, the second one not 0. -/
def frac (n d : Int) : Frac := if d < 0 then (-(n / Int.gcd n d), -(d / Int.gcd n d)) else (n / Int.gcd n d, d / Int.gcd n d)

/-- The same, if it is within the limits. -/
def fracT (n d : Int) : Frac × Int := if isFr 1000000000 (frac n d) then (frac n d, 0) else ((0, 0), 3)

theorem gcd_pos {n d : Int} (h : d ≠ 0) : 0 < Int.gcd n d := Int.gcd_pos_of_ne_zero_right n h

theorem frac_pos {n d : Int} (h : d ≠ 0) : 0 < (frac n d).2 := by
  have hg := gcd_pos (n := n) h
  obtain ⟨k, hk⟩ := Int.gcd_dvd_right n d
  unfold frac
  have h1 : d / (Int.gcd n d : Int) = k := by
    conv => lhs; lhs; rw [hk]
    rw [Int.mul_ediv_cancel_left _ (by omega)]
  have hk0 : k ≠ 0 := fun e => h (by rw [hk, e, Int.mul_zero])
  split
  · rename_i hd
    simp only [h1]
    rcases Int.lt_or_gt_of_ne hk0 with h2 | h2
    · omega
    · have : 0 < (Int.gcd n d : Int) * k := Int.mul_pos (by omega) h2
      omega
  · rename_i hd
    simp only [h1]
    rcases Int.lt_or_gt_of_ne hk0 with h2 | h2
    · have : (Int.gcd n d : Int) * k < 0 := Int.mul_neg_of_pos_of_neg (by omega) h2
      omega
    · exact h2

theorem frac_gcd {n d : Int} (h : d ≠ 0) : Int.gcd (frac n d).1 (frac n d).2 = 1 := by
  have hg := gcd_pos (n := n) h
  have h1 : Int.gcd (n / Int.gcd n d) (d / Int.gcd n d) = 1 := by
    rw [Int.gcd_ediv (Int.gcd_dvd_left n d) (Int.gcd_dvd_right n d)]
    simp
    exact Nat.div_self hg
  unfold frac
  split
  · simp only [Int.neg_gcd, Int.gcd_neg]
    exact h1
  · exact h1

/-- A fraction's numbers times the others'. -/
theorem frac_mul {n d : Int} (h : d ≠ 0) : (frac n d).1 * d = n * (frac n d).2 := by
  have hg := gcd_pos (n := n) h
  obtain ⟨k, hk⟩ := Int.gcd_dvd_right n d
  obtain ⟨j, hj⟩ := Int.gcd_dvd_left n d
  have h1 : d / (Int.gcd n d : Int) = k := by
    conv => lhs; lhs; rw [hk]
    rw [Int.mul_ediv_cancel_left _ (by omega)]
  have h2 : n / (Int.gcd n d : Int) = j := by
    conv => lhs; lhs; rw [hj]
    rw [Int.mul_ediv_cancel_left _ (by omega)]
  unfold frac
  rw [h1, h2]
  generalize (Int.gcd n d : Int) = g at *
  split
  · simp only
    rw [hk, hj]
    grind
  · simp only
    rw [hk, hj]
    grind

end Go.Ab

/-! Slices of fractions, two cells each: reading, writing, comparing, copying, marking. No program here. -/
namespace Go.Ab

abbrev RFrac : Rd Frac := Rd.pair Rd.int Rd.int
abbrev RFS : Rd (List Frac) := Rd.slice RFrac

/-- A fraction's two cells. -/
abbrev frC (a : Frac) : List Value := [.int .i64 a.1, .int .i64 a.2]

theorem RFrac_iff {H : Heap} {bs : List Nat} {cs : List Value} {a : Frac} : RFrac.rel H bs cs a ↔ bs = [] ∧ cs = frC a ∧ I64 a.1 ∧ I64 a.2 := by
  constructor
  · rintro ⟨b1, b2, c1, c2, rfl, rfl, ⟨rfl, rfl, h1⟩, rfl, rfl, h2⟩
    exact ⟨rfl, rfl, h1, h2⟩
  · rintro ⟨rfl, rfl, h1, h2⟩
    exact ⟨[], [], _, _, rfl, rfl, ⟨rfl, rfl, h1⟩, rfl, rfl, h2⟩

theorem frac_rel {a : Frac} (h : I64 a.1 ∧ I64 a.2) (H : Heap) : RFrac.rel H [] (frC a) a := RFrac_iff.2 ⟨rfl, rfl, h⟩

theorem SlAt.frac {H : Heap} {b o e : Nat} {kb : Blk} {fs : Nat → List Nat} {xs : List Frac} (s : SlAt RFrac H b o e kb fs xs) {i : Nat} (hi : i < xs.length) :
    o + i * 2 + 2 ≤ kb.cells.length ∧ (kb.cells.drop (o + i * 2)).take 2 = frC xs[i] ∧ I64 xs[i].1 ∧ I64 xs[i].2 := by
  obtain ⟨_, h2, h3⟩ := RFrac_iff.1 (s.each i hi)
  exact ⟨s.in hi, h2, h3⟩

theorem SlAt.cell1 {H : Heap} {b o e : Nat} {kb : Blk} {fs : Nat → List Nat} {xs : List Frac} (s : SlAt RFrac H b o e kb fs xs) {i : Nat} (hi : i < xs.length) :
    kb.cells[o + i * 2]? = some (.int .i64 xs[i].1) ∧ kb.cells[o + i * 2 + 1]? = some (.int .i64 xs[i].2) := by
  obtain ⟨h1, h2, _⟩ := s.frac hi
  have e0 : ((kb.cells.drop (o + i * 2)).take 2)[0]? = (frC xs[i])[0]? := by rw [h2]
  have e1 : ((kb.cells.drop (o + i * 2)).take 2)[1]? = (frC xs[i])[1]? := by rw [h2]
  rw [List.getElem?_take, if_pos (by omega), List.getElem?_drop] at e0 e1
  exact ⟨by simpa using e0, by simpa using e1⟩

/-- A fraction out of a slice. -/
theorem Wl.atFrH {v : Value} {xs : List Frac} {i : Nat} {κ : IntKind} {H : Heap} {K : Post} (h : Has RFS H [v] xs) (hi : i < xs.length) (k : I64 xs[i].1 → I64 xs[i].2 → K (.agg (frC xs[i]).toArray) H) :
    W.indexAddr 2 v (.int κ i) H fun p H => W.getN 2 p H K := by
  obtain ⟨bs, h⟩ := h
  obtain ⟨b, o, e, kb, fs, q1, _, s⟩ := Rd.slice_at h hi
  obtain ⟨h1, h2, h3, h4⟩ := s.frac hi
  rw [q1]
  refine Wi.index hi (Wi.getN s.blk h1 ?_)
  rw [h2]
  exact k h3 h4

/-- The numbers of a fraction in a slice. -/
theorem Wl.numFrH {v : Value} {xs : List Frac} {i : Nat} {κ : IntKind} {H : Heap} {K : Post} (h : Has RFS H [v] xs) (hi : i < xs.length) (k : I64 xs[i].1 → K (.int .i64 xs[i].1) H) :
    W.indexAddr 2 v (.int κ i) H fun p H => W.fieldAddr 0 p H fun p H => W.get p H K := by
  obtain ⟨bs, h⟩ := h
  obtain ⟨b, o, e, kb, fs, q1, _, s⟩ := Rd.slice_at h hi
  obtain ⟨h1, h2⟩ := s.cell1 hi
  rw [q1]
  exact Wi.index hi (Wi.fieldAddr (Wi.get s.blk (by simpa using h1) (k (s.frac hi).2.2.1)))

theorem Wl.denFrH {v : Value} {xs : List Frac} {i : Nat} {κ : IntKind} {H : Heap} {K : Post} (h : Has RFS H [v] xs) (hi : i < xs.length) (k : I64 xs[i].2 → K (.int .i64 xs[i].2) H) :
    W.indexAddr 2 v (.int κ i) H fun p H => W.fieldAddr 1 p H fun p H => W.get p H K := by
  obtain ⟨bs, h⟩ := h
  obtain ⟨b, o, e, kb, fs, q1, _, s⟩ := Rd.slice_at h hi
  obtain ⟨h1, h2⟩ := s.cell1 hi
  rw [q1]
  exact Wi.index hi (Wi.fieldAddr (Wi.get s.blk h2 (k (s.frac hi).2.2.2)))

variable {H0 H : Heap} {L L' : List (Atom H0.next)} {K : Post}

theorem Wl.atFr {v : Value} {xs : List Frac} {i : Nat} {κ : IntKind} (h : Loc H0 L H) [RdV L [v] RFS xs] (hi : i < xs.length) (k : I64 xs[i].1 → I64 xs[i].2 → K (.agg (frC xs[i]).toArray) H) :
    W.indexAddr 2 v (.int κ i) H fun p H => W.getN 2 p H K := Wl.atFrH h.rd hi k
theorem Wl.numFr {v : Value} {xs : List Frac} {i : Nat} {κ : IntKind} (h : Loc H0 L H) [RdV L [v] RFS xs] (hi : i < xs.length) (k : I64 xs[i].1 → K (.int .i64 xs[i].1) H) :
    W.indexAddr 2 v (.int κ i) H fun p H => W.fieldAddr 0 p H fun p H => W.get p H K := Wl.numFrH h.rd hi k
theorem Wl.denFr {v : Value} {xs : List Frac} {i : Nat} {κ : IntKind} (h : Loc H0 L H) [RdV L [v] RFS xs] (hi : i < xs.length) (k : I64 xs[i].2 → K (.int .i64 xs[i].2) H) :
    W.indexAddr 2 v (.int κ i) H fun p H => W.fieldAddr 1 p H fun p H => W.get p H K := Wl.denFrH h.rd hi k

/-! ### Marks of fractions -/
abbrev mkFr : Frac → Int → Frac := fun _ k => (k, k + 1)
abbrev mkFS := mkl mkFr (fun _ => 2)
abbrev szFS := szl (fun (_ : Frac) => 2)

end Go.Ab
