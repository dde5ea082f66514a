/- A list of one plain element written out; fractions in lowest terms that are equal crosswise. No program here. -/
import Derived.Test.YtbcfknboheghkaaGreatZabG8
import Derived.Test.YtbcfknboheghkaaGreatZabG5
import Derived.Test.YtbcfknboheghkaaGreatZabG9
import Derived.Test.YtbcfknboheghkaaGreatZabG4
import Derived.Test.YtbcfknboheghkaaGreatZabG1
namespace Go.Ab

section
variable {H0 H : Heap} {L : List (Atom H0.next)} {K : Post}

/-- One slice of what was there at first. -/
theorem Wi.flat1 {v : Value} {H0 : Heap} {K : Heap → Prop} (hv : keptV H0 H v) (h : K H) : W.flat [v] H0 H K := ⟨fun u hm => by rw [List.mem_singleton] at hm; subst hm; exact hv, h⟩

/-- One thing is let go. -/
theorem Loc.cut (h : Loc H0 L H) (i : Nat) : Loc H0 (L.eraseIdx i) H := by
  obtain ⟨le, F, h1, h2⟩ := h
  let f : Nat → Nat := fun j => if j < i then j else j + 1
  have e : ∀ j a, (L.eraseIdx i)[j]? = some a → L[f j]? = some a := fun j a hj => by
    rw [List.getElem?_eraseIdx] at hj
    simp only [f]
    split at hj
    · rename_i g; rw [if_pos g]; exact hj
    · rename_i g; rw [if_neg g]; exact hj
  refine ⟨le, fun j => F (f j), fun j a hj => h1 _ a (e j a hj), fun j k a c hjk hj hk => h2 _ _ a c ?_ (e j a hj) (e k c hk)⟩
  simp only [f]
  split <;> split <;> omega

end

end Go.Ab
/-! Sources of drawn numbers: a code of bytes, a place in it, a number that runs on. No program here. -/
namespace Go.Ab

def Rd.u8 : Rd Int where
  n := 1
  rel := fun _ bs cs x => bs = [] ∧ cs = [.int .u8 x] ∧ 0 ≤ x ∧ x < 256
  len := fun h => by rw [h.2.1]; rfl
  cell := fun h => by rw [h.2.1]; rfl
  low := fun h b hb => by rw [h.1] at hb; cases hb
  frame := fun h _ _ => h
instance : Plain Rd.u8 := ⟨fun ⟨h1, h2, h3⟩ => ⟨h1, fun _ => ⟨rfl, h2, h3⟩⟩⟩

section
variable {H : Heap} {k : Post}

theorem Wi.mulU {a b : Int} (h : ∀ c, k (.int .u64 c) H) : W.bin .mul (.int .u64 a) (.int .u64 b) H k := by
  simp only [W.bin, binEval, intEval, if_true]; exact h _
theorem Wi.addU {a b : Int} (h : ∀ c, k (.int .u64 c) H) : W.bin .add (.int .u64 a) (.int .u64 b) H k := by
  simp only [W.bin, binEval, intEval, if_true]; exact h _
theorem Wi.shrU {a b : Int} (hb : 0 ≤ b) (h : ∀ c, k (.int .u64 c) H) : W.bin .shr (.int .u64 a) (.int .u64 b) H k := by
  simp only [W.bin, binEval]
  rw [if_neg (by omega)]
  exact h _
theorem Wi.andU {a : Int} {m : Nat} (hm : m < 2 ^ 64) (h : ∀ c : Nat, c ≤ m → k (.int .u64 (c : Int)) H) : W.bin .and (.int .u64 a) (.int .u64 (m : Nat)) H k := by
  simp only [W.bin, binEval, intEval, if_true]
  have h1 : (BitVec.ofInt IntKind.u64.bits (m : Int)).toNat = m := by
    show (BitVec.ofInt 64 (m : Int)).toNat = m
    rw [BitVec.ofInt_natCast, BitVec.toNat_ofNat]
    omega
  have h2 : (BitVec.ofInt IntKind.u64.bits a &&& BitVec.ofInt IntKind.u64.bits (m : Int)).toNat ≤ m := by
    rw [BitVec.toNat_and, h1]
    exact Nat.and_le_right
  generalize (BitVec.ofInt IntKind.u64.bits a &&& BitVec.ofInt IntKind.u64.bits (m : Int)).toNat = c at *
  have e : IntKind.u64.wrap (c : Int) = c := by
    simp only [IntKind.wrap, IntKind.signed, IntKind.bits]
    simp
    omega
  rw [e]
  exact h c h2
theorem Wi.convU {x : Int} {κ : IntKind} (h : ∀ c, k (.int .u64 c) H) : W.conv .u64 (.int κ x) H k := h _
theorem Wi.convI {x : Int} {κ : IntKind} (hx : I64 x) (h : k (.int .i64 x) H) : W.conv .i64 (.int κ x) H k := by
  show k (.int .i64 (IntKind.i64.wrap x)) H
  rw [wrap_id hx]
  exact h
theorem Wi.nilP {b o : Nat} (h : k (pt b o) H) : W.nilCheck (pt b o) H k := h
theorem Wi.remI {a b : Int} (hb : b ≠ 0) (h : k (.int .i64 (a.tmod b)) H) : W.bin .rem (.int .i64 a) (.int .i64 b) H k := by
  simpa [W.bin, binEval, intEval, hb] using h
end

/-- A source: its variable, its code's bytes. -/
def Atom.src {n : Nat} (b : Nat) (vc : Value) (code : List Int) : Atom n where
  P := fun H bs => bs = [b] ∧ b < H.next ∧ (∃ (a : Nat) (h : Int) (ty : TypeId) (e : Nat), H.blk b = some ⟨[vc, .int .i64 (a : Int), .int .u64 h], ty, e, false⟩ ∧ a ≤ code.length) ∧ ∃ bs', (Rd.slice Rd.u8).rel H bs' [vc] code ∧ ∀ c ∈ bs', c < n
  low := by rintro H bs ⟨rfl, h, _⟩ c hc; simp at hc; omega
  frame := by
    rintro H H' bs ⟨rfl, h, ⟨a, hh, ty, e, hb, ha⟩, bs', hr, hl⟩ _ hn hs
    exact ⟨rfl, by omega, ⟨a, hh, ty, e, by rw [hs b (.inr (by simp))]; exact hb, ha⟩, bs', Rd.frame _ hr hn fun c hc => hs c (.inl (hl c hc)), hl⟩

section
variable {H0 H : Heap} {L : List (Atom H0.next)}

theorem set_same {α : Type} {l : List α} {i : Nat} {a : α} (h : l[i]? = some a) : l.set i a = l := by
  obtain ⟨hlt, rfl⟩ := List.getElem?_eq_some_iff.1 h
  exact List.set_getElem_self hlt

/-- What a source has, and how it goes on. -/
theorem Loc.src (h : Loc H0 L H) {i b : Nat} {vc : Value} {code : List Int} (hi : L[i]? = some (.src b vc code)) : ∃ (a : Nat) (hh : Int) (ty : TypeId) (e : Nat), H.blk b = some ⟨[vc, .int .i64 (a : Int), .int .u64 hh], ty, e, false⟩ ∧ a ≤ code.length ∧ Has (Rd.slice Rd.u8) H [vc] code ∧ H0.next ≤ b ∧
    ∀ H', H.next ≤ H'.next → (∀ c, c < H.next → c ≠ b → H'.blk c = H.blk c) → (∃ (a : Nat) (hh : Int) (ty : TypeId) (e : Nat), H'.blk b = some ⟨[vc, .int .i64 (a : Int), .int .u64 hh], ty, e, false⟩ ∧ a ≤ code.length) → Loc H0 L H' := by
  obtain ⟨bs, ⟨rfl, hb, ⟨a, hh, ty, e, hk, ha⟩, bs', hr, hl⟩, hlow, up⟩ := h.upd hi
  have hb0 : H0.next ≤ b := hlow b (by simp)
  refine ⟨a, hh, ty, e, hk, ha, ⟨bs', hr⟩, hb0, fun H' hn hs hb' => ?_⟩
  have := up H' (.src b vc code) [b] hn (fun c hc hcb => hs c hc (by simpa using hcb)) ⟨rfl, by omega, hb', bs', Rd.frame _ hr hn (fun c hc => hs c (Rd.low _ hr c hc) (fun e => by have := hl c hc; omega)), hl⟩ fun c hc => .inl hc
  rwa [set_same hi] at this

/-- A list of numbers written out. -/
theorem Wl.litN {K : Post} (xs : List Int) {n : Nat} {ty : TypeId} {parts : List (Nat × Nat × Value)} (hn : n = xs.length) (hs : xs.length < 9223372036854775808) (hI : ∀ x ∈ xs, I64 x) (hf : fillA (reps n [.int .i64 0]) parts = some (xs.map fun x => .int .i64 x)) (h : Loc H0 L H)
    (k : ∀ H' v, Loc H0 (.data (Rd.slice Rd.int) [v] xs :: L) H' → K v H') : W.lit n [.int .i64 0] ty parts H K := by
  subst hn
  have hcell : (xs.map fun x => (.int .i64 x : Value)).all isCell = true := by simp [isCell]
  refine Wi.lit hf fun H1 l1 n1 k1 => k H1 _ (h.cons l1 (bs := [H.next]) (grow_data (r := Rd.int) (ty := ty) (.inr ⟨H.next, 2 * xs.length, _, fun _ => [], rfl, by omega, by simp, by simp, ?_, ⟨by omega, k1, by omega, hs, by simp [Rd.int], fun i hi => ?_⟩, rfl, rfl, by simp [Rd.int], hcell⟩)) fun b hb => by simp at hb; omega)
  · intro c hc kc hk
    simp at hc
    subst hc
    rw [k1] at hk
    cases hk
    rfl
  · refine ⟨rfl, ?_, hI _ (List.getElem_mem hi)⟩
    show ((xs.map fun x => (.int .i64 x : Value)).drop (0 + i * 1)).take 1 = _
    rw [Nat.zero_add, Nat.mul_one, List.drop_eq_getElem_cons (by simpa using hi)]
    simp

/-- One thing is put first. -/
theorem Loc.front (h : Loc H0 L H) {a : Atom H0.next} (i : Nat) (hi : L[i]? = some a) : Loc H0 (a :: L.eraseIdx i) H := by
  obtain ⟨le, F, h1, h2⟩ := h
  let f : Nat → Nat := fun j => match j with | 0 => i | k + 1 => if k < i then k else k + 1
  have e : ∀ (j : Nat) (c : Atom H0.next), (a :: L.eraseIdx i)[j]? = some c → L[f j]? = some c := fun j c hj => by
    cases j with
    | zero => simp only [List.getElem?_cons_zero] at hj; rw [← hj]; exact hi
    | succ k =>
      rw [List.getElem?_cons_succ, List.getElem?_eraseIdx] at hj
      simp only [f]
      split at hj
      · rename_i g; rw [if_pos g]; exact hj
      · rename_i g; rw [if_neg g]; exact hj
  refine ⟨le, fun j => F (f j), fun j c hj => h1 _ c (e j c hj), fun j k c d hjk hj hk => h2 _ _ c d ?_ (e j c hj) (e k d hk)⟩
  cases j <;> cases k <;> simp only [f] <;> (try split) <;> (try split) <;> omega

/-- A pair, told as two things. -/
theorem Loc.unpair {α β : Type} {r : Rd α} {s : Rd β} {c1 c2 : List Value} {x : α} {y : β} (h : Loc H0 (.data (r.pair s) (c1 ++ c2) (x, y) :: L) H) (hl : c1.length = r.n) : Loc H0 (.data r c1 x :: .data s c2 y :: L) H := by
  refine h.split fun bs ⟨⟨b1, b2, d1, d2, hbs, hc, h1, h2⟩, hn, hrw⟩ => ?_
  subst hbs
  have e1 : c1 = d1 := (List.append_inj hc (by rw [hl, r.len h1])).1
  have e2 : c2 = d2 := (List.append_inj hc (by rw [hl, r.len h1])).2
  subst e1 e2
  have hd := List.nodup_append.1 hn
  exact ⟨b1, b2, ⟨h1, hd.1, hrw.left⟩, ⟨h2, hd.2.1, hrw.right⟩, fun c hc => List.mem_append_left _ hc, fun c hc => List.mem_append_right _ hc, fun c h1 h2 => hd.2.2 c h1 c h2 rfl⟩

end
end Go.Ab

/-! Cells as they are; rows that share blocks; a thing that is only read. No program here. -/
namespace Go.Ab

/-- A cell as it is. -/
def Rd.raw : Rd Value where
  n := 1
  rel := fun _ bs cs x => bs = [] ∧ cs = [x] ∧ isCell x = true
  len := fun h => by rw [h.2.1]; rfl
  cell := fun h => by rw [h.2.1]; simp [h.2.2]
  low := fun h b hb => by rw [h.1] at hb; cases hb
  frame := fun h _ _ => h

instance : Plain Rd.raw := ⟨fun ⟨h1, h2, h3⟩ => ⟨h1, fun _ => ⟨rfl, h2, h3⟩⟩⟩

/-- Something that may be read, wherever it lies. -/
def Atom.view {n : Nat} {α : Type} (r : Rd α) (cs : List Value) (x : α) : Atom n where
  P := fun H bs => (∀ b ∈ bs, b < H.next) ∧ ∃ bs', r.rel H bs' cs x ∧ ∀ b ∈ bs', b < n ∨ b ∈ bs
  low := fun h => h.1
  frame := fun h _ hn2 hb => ⟨fun b hb' => Nat.lt_of_lt_of_le (h.1 b hb') hn2, let ⟨bs', h1, h2⟩ := h.2; ⟨bs', r.frame h1 hn2 fun b hm => hb b (h2 b hm), h2⟩⟩

instance {n : Nat} {α : Type} {r : Rd α} {cs : List Value} {x : α} {L : List (Atom n)} : RdV (.view r cs x :: L) cs r x := ⟨_, List.mem_cons_self, fun _ _ h => let ⟨_, bs, h, _⟩ := h; ⟨bs, h⟩⟩

section
variable {H0 H : Heap} {L : List (Atom H0.next)}

/-- Things taken together: what is read of them. -/
theorem Loc.seen {M : List (Atom H0.next)} (h : Loc H0 (M ++ L) H) {α : Type} {r : Rd α} {cs : List Value} {x : α}
    (hx : ∀ F : Nat → List Nat, (∀ (i : Nat) (a : Atom H0.next), M[i]? = some a → a.P H (F i)) → ∃ bs', r.rel H bs' cs x ∧ ∀ b ∈ bs', b < H0.next ∨ ∃ i, i < M.length ∧ b ∈ F i) : Loc H0 (.view r cs x :: L) H := by
  obtain ⟨le, F, h1, h2⟩ := h
  have hM : ∀ i a, M[i]? = some a → (M ++ L)[i]? = some a := fun i a hi => by
    rw [List.getElem?_append_left (List.getElem?_eq_some_iff.1 hi).1]; exact hi
  have hL : ∀ i a, L[i]? = some a → (M ++ L)[M.length + i]? = some a := fun i a hi => by
    rw [List.getElem?_append_right (by omega), Nat.add_sub_cancel_left]; exact hi
  have inM : ∀ b, b ∈ (List.range M.length).flatMap F → ∃ (i : Nat) (a : Atom H0.next), i < M.length ∧ M[i]? = some a ∧ b ∈ F i := fun b hb => by
    obtain ⟨i, hi, hb⟩ := List.mem_flatMap.1 hb
    have hi : i < M.length := by simpa using hi
    exact ⟨i, _, hi, List.getElem?_eq_getElem hi, hb⟩
  obtain ⟨bs', e1, e2⟩ := hx F fun i a hi => (h1 i a (hM i a hi)).1
  refine ⟨le, fun j => match j with | 0 => (List.range M.length).flatMap F | j + 1 => F (M.length + j), fun j a hj => ?_, fun j k a c hjk hj hk b hbj hbk => ?_⟩
  · match j, hj with
    | 0, hj =>
      simp only [List.getElem?_cons_zero, Option.some.injEq] at hj
      subst hj
      refine ⟨⟨fun b hb => ?_, bs', e1, fun b hb => ?_⟩, fun b hb => ?_⟩
      · obtain ⟨i, a, hi, ha, hb⟩ := inM b hb
        exact a.low (h1 i a (hM i a ha)).1 b hb
      · rcases e2 b hb with g | ⟨i, hi, g⟩
        · exact .inl g
        · exact .inr (List.mem_flatMap.2 ⟨i, by simpa using hi, g⟩)
      · obtain ⟨i, a, hi, ha, hb⟩ := inM b hb
        exact (h1 i a (hM i a ha)).2 b hb
    | j + 1, hj => exact h1 _ _ (hL j a (by simpa using hj))
  · match j, k, hjk, hj, hk, hbj, hbk with
    | 0, 0, hjk, _, _, _, _ => exact hjk rfl
    | 0, k + 1, _, _, hk, hbj, hbk =>
      obtain ⟨i, a', hi, ha, hb⟩ := inM b hbj
      exact h2 i (M.length + k) a' c (by omega) (hM i a' ha) (hL k c (by simpa using hk)) b hb hbk
    | j + 1, 0, _, hj, _, hbj, hbk =>
      obtain ⟨i, a', hi, ha, hb⟩ := inM b hbk
      exact h2 i (M.length + j) a' a (by omega) (hM i a' ha) (hL j a (by simpa using hj)) b hb hbj
    | j + 1, k + 1, hjk, hj, hk, hbj, hbk => exact h2 _ _ a c (by omega) (hL j a (by simpa using hj)) (hL k c (by simpa using hk)) b hbj hbk

/-- The heads of rows, as cells. -/
theorem rows_raw {α : Type} {r : Rd α} (hr : r.n = 1) {bs : List Nat} {v : Value} {us : List Value} {xs : List α} (h : (Rd.slice r).rel H bs [v] xs) (hl : us.length = xs.length) (hu : ∀ i, i < xs.length → headAt H v i = us[i]?) : Has (Rd.slice Rd.raw) H [v] us := by
  rcases h with ⟨rfl, _, h⟩ | ⟨b, o, e, kb, fs, _, hv, s⟩
  · have : us = [] := List.length_eq_zero_iff.1 hl
    exact ⟨[], .inl ⟨this, rfl, h⟩⟩
  · simp only [List.cons.injEq, and_true] at hv
    subst hv
    have room := s.room
    rw [hr, Nat.mul_one] at room
    refine ⟨_, .inr ⟨b, o, e, kb, fun _ => [], rfl, by rw [hl], ⟨s.lt, s.blk, by rw [hl]; exact s.cap, by rw [hl]; exact s.small, by rw [hl]; simpa [Rd.raw] using room, fun i hi => ?_⟩⟩⟩
    have hi' : i < xs.length := hl ▸ hi
    have h1 := hu i hi'
    simp only [headAt, s.blk, Option.bind_some] at h1
    have hlt : o + i < kb.cells.length := by omega
    rw [List.getElem?_eq_getElem hlt, List.getElem?_eq_getElem hi] at h1
    have h1 := Option.some.inj h1
    have hc := r.cell (s.each i hi')
    rw [hr, cellsAt_one (by omega)] at hc
    show [] = [] ∧ cellsAt 1 kb.cells o i = [us[i]] ∧ isCell us[i] = true
    rw [cellsAt_one (by omega)]
    simp only [Nat.mul_one, List.all_cons, List.all_nil, Bool.and_true] at hc ⊢
    exact ⟨trivial, by rw [h1], by rw [← h1]; exact hc⟩

/-- One of them. -/
theorem rows_one {α : Type} {r : Rd α} (hr : r.n = 1) {bs : List Nat} {v : Value} {us : List Value} {xs : List α} (h : (Rd.slice r).rel H bs [v] xs) (hl : us.length = xs.length) (hu : ∀ i, i < xs.length → headAt H v i = us[i]?) {i : Nat} (hi : i < xs.length) :
    ∃ bsi, r.rel H bsi [us[i]'(by omega)] xs[i] ∧ ∀ b ∈ bsi, b ∈ bs := by
  rcases h with ⟨rfl, _, h⟩ | ⟨b, o, e, kb, fs, hbs, hv, s⟩
  · simp at hi
  · simp only [List.cons.injEq, and_true] at hv
    subst hv
    have room := s.room
    rw [hr, Nat.mul_one] at room
    have h1 := hu i hi
    simp only [headAt, s.blk, Option.bind_some] at h1
    have hlt : o + i < kb.cells.length := by omega
    rw [List.getElem?_eq_getElem hlt, List.getElem?_eq_getElem (show i < us.length by omega)] at h1
    have h1 := Option.some.inj h1
    have he := s.each i hi
    rw [hr, cellsAt_one (by omega)] at he
    simp only [Nat.mul_one] at he
    rw [h1] at he
    exact ⟨fs i, he, fun c hc => by rw [hbs]; exact List.mem_cons_of_mem _ (List.mem_flatMap.2 ⟨i, by simpa using hi, hc⟩)⟩

/-- Cells that are the heads of things. -/
theorem raw_rows {α : Type} {r : Rd α} (hr : r.n = 1) {bs : List Nat} {w : Value} {us : List Value} {xs : List α} (p : Nat → Prop) (h : (Rd.slice Rd.raw).rel H bs [w] us) (hl : us.length = xs.length)
    (hx : ∀ i (hi : i < us.length), ∃ bsi, r.rel H bsi [us[i]] (xs[i]'(by omega)) ∧ ∀ b ∈ bsi, p b) : ∃ bs', (Rd.slice r).rel H bs' [w] xs ∧ ∀ b ∈ bs', b ∈ bs ∨ p b := by
  rcases h with ⟨rfl, _, h⟩ | ⟨b, o, e, kb, fs, hbs, hv, s⟩
  · have : xs = [] := List.length_eq_zero_iff.1 hl.symm
    subst this
    exact ⟨[], .inl ⟨rfl, rfl, h⟩, fun b hb => by cases hb⟩
  · simp only [List.cons.injEq, and_true] at hv
    subst hv
    have room := s.room
    simp only [Rd.raw, Nat.mul_one] at room
    have hx' : ∃ f : Nat → List Nat, ∀ i (hi : i < us.length), r.rel H (f i) [us[i]] (xs[i]'(by omega)) ∧ ∀ b ∈ f i, p b := by
      refine ⟨fun i => if hi : i < us.length then Classical.choose (hx i hi) else [], fun i hi => ?_⟩
      simp only [hi, dif_pos]
      exact Classical.choose_spec (hx i hi)
    obtain ⟨f, hf⟩ := hx'
    refine ⟨_, .inr ⟨b, o, e, kb, f, rfl, by rw [hl], ⟨s.lt, s.blk, by rw [← hl]; exact s.cap, by rw [← hl]; exact s.small, by rw [← hl, hr, Nat.mul_one]; exact room, fun i hi => ?_⟩⟩, fun c hc => ?_⟩
    · have hi' : i < us.length := by omega
      have he := s.each i hi'
      obtain ⟨_, he, _⟩ := he
      have he : cellsAt 1 kb.cells o i = [us[i]] := he
      rw [hr, he]
      exact (hf i hi').1
    · rcases List.mem_cons.1 hc with g | g
      · exact .inl (by rw [hbs, g]; simp)
      · obtain ⟨i, hi, g⟩ := List.mem_flatMap.1 g
        exact .inr ((hf i (by rw [hl]; simpa using hi)).2 c g)

theorem Loc.rawOf {α : Type} {r : Rd α} (hr : r.n = 1) {v : Value} {us : List Value} {xs : List α} {i : Nat} (h : Loc H0 L H) (hi : L[i]? = some (.rows r v us xs)) : Has (Rd.slice Rd.raw) H [v] us := by
  obtain ⟨bs, p, _⟩ := h.mem (List.mem_of_getElem? hi)
  exact rows_raw hr p.1 p.2.2.2.1 p.2.2.2.2

theorem Wl.atRaw {v : Value} {us : List Value} {i : Nat} {κ : IntKind} {K : Post} (h : Has (Rd.slice Rd.raw) H [v] us) (hi : i < us.length) (k : K us[i] H) : W.indexAddr 1 v (.int κ i) H fun p H => W.get p H K :=
  Wl.at1H rfl h hi fun u hu => by
    obtain ⟨_, _, e, _⟩ := hu
    simp only [List.cons.injEq, and_true] at e
    subst e
    exact k

theorem Wl.ldRaw {v : Value} {us : List Value} {i : Nat} {K : Post} (h : Has (Rd.slice Rd.raw) H [v] us) (hi : i < us.length) (k : K us[i] H) : W.get (elemPtr 1 v i) H K :=
  elem_of (κ := .i64) (K := fun p H => W.get p H K) h hi (Wl.atRaw h hi k)

theorem Wl.setRaw {v u : Value} {us : List Value} {i j : Nat} {κ : IntKind} {L' : List (Atom H0.next)} {K : Post} (h : Loc H0 L H) [c : AtV L [v] (.data (Rd.slice Rd.raw) [v] us) j] [s : SetI L j (.data (Rd.slice Rd.raw) [v] (us.set i u)) L'] (hi : i < us.length) (hu : isCell u = true)
    (k : ∀ H', Loc H0 L' H' → K undef H') : W.indexAddr 1 v (.int κ i) H fun p H => W.put p u H K := by
  obtain ⟨bs, h1, h2, h3, up⟩ := h.mark c.get
  obtain ⟨b, o, e, kb, rfl, q2, q3, q4, q5⟩ := Marked.setP (y := u) (cs := [u]) h1 h3 hi (fun _ => ⟨rfl, rfl, hu⟩)
  simp only [Rd.raw] at q4 q5
  refine Wi.index hi (Wi.put q2 hu q3 (by omega) fun H' w => k H' (by
    rw [s.eq]
    refine up _ _ (q5 H' ?_)
    have e : kb.cells.take (o + i * 1) ++ [u] ++ kb.cells.drop (o + i * 1 + 1) = kb.cells.set (o + i * 1) u := by
      rw [List.set_eq_take_append_cons_drop, if_pos (by omega)]
      simp
    rw [e]
    exact w))

end
end Go.Ab

/-! Lists of numbers that lie at the start of a block: written, and cut behind what is kept. No program here. -/
namespace Go.Ab

def Rd.eS : Rd (List Int) where
  n := 1
  rel := fun H bs cs xs => ∃ b e kb, bs = [b] ∧ cs = [.slice (some (adr b 0)) xs.length e] ∧ kb.esz = 1 ∧ SlAt Rd.int H b 0 e kb (fun _ => []) xs
  len := fun ⟨_, _, _, _, h, _⟩ => by rw [h]; rfl
  cell := fun ⟨_, _, _, _, h, _⟩ => by rw [h]; rfl
  low := fun ⟨b, _, _, h, _, _, s⟩ c hc => by rw [h, List.mem_singleton] at hc; subst hc; exact s.lt
  frame := fun ⟨b, e, kb, h1, h2, h3, s⟩ hn hb => ⟨b, e, kb, h1, h2, h3, ⟨Nat.lt_of_lt_of_le s.lt hn, by rw [hb b (by rw [h1]; simp)]; exact s.blk, s.cap, s.small, s.room, fun i hi => s.each i hi⟩⟩

/-- A reading of things of a kind. -/
def onlyR {α : Type} (r : Rd α) (p : α → Prop) : Rd α where
  n := r.n
  rel := fun H bs cs x => r.rel H bs cs x ∧ p x
  len := fun h => r.len h.1
  cell := fun h => r.cell h.1
  low := fun h => r.low h.1
  frame := fun h hn hb => ⟨r.frame h.1 hn hb, h.2⟩

section
variable {H0 H : Heap} {L : List (Atom H0.next)} {K : Post}

end
end Go.Ab

/-! Matrices whose principal minors are greater than 0: each right side has just one set of numbers not less than 0. No program here. -/
namespace Go.Ab

/-- All principal minors are greater than 0. -/
def IsP (n : Nat) (m : List (List Int)) : Prop := ∀ s, s < 2 ^ n → 0 < minorL n m s

/-- The columns of a set, those of the matrix itself. -/
def colP (m : List (List Int)) (s r c : Nat) : Int := if s.testBit c then mAt m r c else if r = c then 1 else 0

/-- A set with one member put or struck. -/
theorem bit_put {n s k : Nat} (hs : s < 2 ^ n) (hk : k < n) (v : Bool) : ∃ t, t < 2 ^ n ∧ t.testBit k = v ∧ ∀ c, c ≠ k → t.testBit c = s.testBit c := by
  by_cases h : s.testBit k = v
  · exact ⟨s, hs, h, fun _ _ => rfl⟩
  · refine ⟨s ^^^ 2 ^ k, Nat.xor_lt_two_pow hs (Nat.pow_lt_pow_right (by decide) hk), ?_, fun c hc => ?_⟩
    · rw [Nat.testBit_xor, Nat.testBit_two_pow]
      cases hv : v <;> cases hb : s.testBit k <;> simp_all
    · rw [Nat.testBit_xor, Nat.testBit_two_pow]
      simp [show ¬ k = c from fun e => hc e.symm]

/-- A column that is told by the columns. -/
theorem det_told {n : Nat} {A : Mat} {y : Nat → Int} {k : Nat} (hk : k < n) : det n (ucol A k fun r => sumTo n fun c => y c * A r c) = y k * det n A := by
  rw [det_col_sum hk n y fun c r => A r c, sumTo_one hk fun c hc hck => by
    rw [det_same hc hk hck fun r => by
      unfold ucol
      rw [if_pos rfl, if_neg hck], Int.mul_zero], ucol_self]

theorem det_col0 {n : Nat} {A : Mat} {k : Nat} (hk : k < n) : det n (ucol A k fun _ => 0) = 0 := by
  have := det_lin (n := n) (A := A) hk 0 0 (fun _ => 0) (fun _ => 0)
  simpa using this

section
variable {n : Nat} {p : List (List Int) × List Int}

theorem pt_at {s i : Nat} (hi : i < n) : (ptOf n p s).getD i 0 = sgI (det n (mAt (colL n p.1 s))) * (solveL n (colL n p.1 s) p.2).getD i 0 := by
  have h1 : i < (solveL n (colL n p.1 s) p.2).length := by rw [solveL_len]; exact hi
  have h2 : i < (ptOf n p s).length := by rw [ptOf_len]; exact hi
  rw [atD h1, atD h2]
  simp [ptOf, pointL]

/-- The equations of a set, with the number of z and that of w. -/
theorem pt_row {s r : Nat} (hr : r < n) : (if s.testBit r then 0 else (ptOf n p s).getD r 0) - sumTo n (fun c => mAt p.1 r c * (if s.testBit c then (ptOf n p s).getD c 0 else 0)) = p.2.getD r 0 * ((det n (mAt (colL n p.1 s))).natAbs : Int) := by
  have h := solve_row (q := p.2) (colL_sq n p.1 s) hr
  have e : sumTo n (fun c => mAt (colL n p.1 s) r c * (ptOf n p s).getD c 0) = p.2.getD r 0 * ((det n (mAt (colL n p.1 s))).natAbs : Int) := by
    rw [← sgI_mul, Int.mul_left_comm, ← h, ← sumTo_mul]
    refine sumTo_congr fun c hc => ?_
    rw [pt_at hc]
    ac_rfl
  rw [← e]
  have e2 : sumTo n (fun c => mAt (colL n p.1 s) r c * (ptOf n p s).getD c 0) = sumTo n fun c => -(mAt p.1 r c * (if s.testBit c then (ptOf n p s).getD c 0 else 0)) + if c = r then (if s.testBit r then 0 else (ptOf n p s).getD r 0) else 0 := sumTo_congr fun c hc => by
    rw [colL_at hr hc]
    unfold colE
    by_cases g : c = r
    · subst g
      cases s.testBit c <;> simp [Int.neg_mul]
    · rw [if_neg g]
      cases s.testBit c <;> simp [Int.neg_mul, show ¬ r = c from fun e => g e.symm]
  rw [e2, sumTo_add, sumTo_neg, sumTo_one hr fun i _ hi => if_neg hi, if_pos rfl]
  omega

end
end Go.Ab

/-! Tables: the system E solved for n of its variables; steps; keys in order; ways back. No program here. -/
namespace Go.Ab

/-! ### Sums -/

theorem sum_pos0 {n : Nat} {f : Nat → Int} (h : ∀ i, i < n → 0 ≤ f i) : 0 ≤ sumTo n f := by
  induction n with
  | zero => exact Int.le_refl 0
  | succ n ih =>
    have h1 := ih fun i hi => h i (by omega)
    have h2 := h n (by omega)
    simp only [sumTo]
    omega

theorem pos_of_mul {a b : Int} (ha : 0 < a) (h : 0 < a * b) : 0 < b := by
  refine Classical.byContradiction fun g => ?_
  have := Int.mul_nonpos_of_nonneg_of_nonpos (show 0 ≤ a by omega) (show b ≤ 0 by omega)
  omega

/-- Numbers that hang on the variables of a list. -/
theorem sum_img {n N : Nat} {bs : Nat → Nat} (hi : Inj n bs) (hb : ∀ k, k < n → bs k < N) {f : Nat → Int} (hf : ∀ b, b < N → (∀ k, k < n → bs k ≠ b) → f b = 0) : sumTo N f = sumTo n fun k => f (bs k) := by
  have e : sumTo N f = sumTo N fun b => sumTo n fun k => if bs k = b then f b else 0 := sumTo_congr fun b hbN => by
    by_cases h : ∃ k, k < n ∧ bs k = b
    · obtain ⟨k, hk, rfl⟩ := h
      rw [sumTo_one hk fun i hin hne => if_neg fun g => hne (hi i k hin hk g), if_pos rfl]
    · rw [hf b hbN fun k hk g => h ⟨k, hk, g⟩, sumTo_zero fun k hk => if_neg fun g => h ⟨k, hk, g⟩]
  rw [e, sumTo_swap]
  refine sumTo_congr fun k hk => ?_
  rw [sumTo_one (hb k hk) fun b hbN hne => if_neg fun g => hne g.symm, if_pos rfl]

/-! ### Tables -/

def BM (E : Mat) (bs : Nat → Nat) : Mat := fun i k => E i (bs k)

theorem det_only {n : Nat} {A : Mat} {x : Nat → Int} (hA : det n A ≠ 0) (h : ∀ i, i < n → sumTo n (fun k => A i k * x k) = 0) : ∀ k, k < n → x k = 0 := fun k hk => by
  have h1 := det_told (n := n) (A := A) (y := x) hk
  have h2 : det n (ucol A k fun r => sumTo n fun c => x c * A r c) = det n (ucol A k fun _ => 0) := det_congr fun i j hi hj => by
    unfold ucol
    split
    · rw [← h i hi]
      exact sumTo_congr fun c _ => Int.mul_comm _ _
    · rfl
  rw [h2, det_col0 hk] at h1
  rcases Int.mul_eq_zero.1 h1.symm with g | g
  · exact g
  · exact absurd g hA

structure Tabl (n W : Nat) (E : Mat) (bs : Nat → Nat) (T : Mat) (d : Int) : Prop where
  pos : 0 < d
  dt : det n (BM E bs) = d ∨ det n (BM E bs) = -d
  eq : ∀ i c, i < n → c < W → sumTo n (fun k => E i (bs k) * T k c) = d * E i c
  lt : ∀ k, k < n → bs k < W

section
variable {n W : Nat} {E : Mat} {bs : Nat → Nat} {T : Mat} {d : Int}

theorem Tabl.ne (h : Tabl n W E bs T d) : det n (BM E bs) ≠ 0 := by
  have := h.pos
  rcases h.dt with e | e <;> omega

theorem Tabl.mul (h : Tabl n W E bs T d) {k c : Nat} (hk : k < n) (hc : c < W) : T k c * det n (BM E bs) = d * det n (ucol (BM E bs) k fun i => E i c) := by
  have h1 := det_told (n := n) (A := BM E bs) (y := fun k => T k c) hk
  have h2 : det n (ucol (BM E bs) k fun r => sumTo n fun j => T j c * BM E bs r j) = det n (ucol (BM E bs) k fun r => d * E r c + 0 * E r c) := det_congr fun i j hi hj => by
    unfold ucol
    split
    · show (sumTo n fun j => T j c * BM E bs i j) = d * E i c + 0 * E i c
      rw [Int.zero_mul, Int.add_zero, ← h.eq i c hi hc]
      exact sumTo_congr fun c _ => Int.mul_comm _ _
    · rfl
  rw [← h1, h2, det_lin hk]
  rw [Int.zero_mul, Int.add_zero]

/-- A number of a table is a determinant, up to its sign. -/
theorem Tabl.entry (h : Tabl n W E bs T d) {k c : Nat} (hk : k < n) (hc : c < W) : T k c = det n (ucol (BM E bs) k fun i => E i c) ∨ T k c = -(det n (ucol (BM E bs) k fun i => E i c)) := by
  have hm := h.mul hk hc
  have hd := h.pos
  rcases h.dt with e | e
  · left
    rw [e, Int.mul_comm] at hm
    exact Int.eq_of_mul_eq_mul_left (by omega) hm
  · right
    rw [e, Int.mul_neg, Int.mul_comm, ← Int.mul_neg] at hm
    have := Int.eq_of_mul_eq_mul_left (show d ≠ 0 by omega) hm
    omega

theorem Tabl.abs (h : Tabl n W E bs T d) (hn : n ≤ 5) (hE : ∀ i c, i < n → c < W → (E i c).natAbs ≤ 20) {k c : Nat} (hk : k < n) (hc : c < W) : (T k c).natAbs ≤ 384000000 := by
  have h1 := det_leib (n := n) (A := ucol (BM E bs) k fun i => E i c) (B := fun _ => 20) fun i j hi hj => by
    unfold ucol BM
    split
    · exact hE i c hi hc
    · exact hE i _ hi (h.lt j hj)
  have h2 : fact n * prodTo n (fun _ => 20) ≤ 384000000 := by
    have : n = 0 ∨ n = 1 ∨ n = 2 ∨ n = 3 ∨ n = 4 ∨ n = 5 := by omega
    rcases this with rfl | rfl | rfl | rfl | rfl | rfl <;> decide
  rcases h.entry hk hc with e | e <;> rw [e] <;> omega

theorem Tabl.inj (h : Tabl n W E bs T d) : Inj n bs := fun i j hi hj e => by
  refine Classical.byContradiction fun hne => h.ne (det_same hi hj hne fun r => ?_)
  unfold BM
  rw [e]

/-- The columns of the variables that are solved for. -/
theorem Tabl.unit (h : Tabl n W E bs T d) {k j : Nat} (hk : k < n) (hj : j < n) : T k (bs j) = if k = j then d else 0 := by
  have := det_only (A := BM E bs) (x := fun k => T k (bs j) - if k = j then d else 0) h.ne fun i hi => by
    have e1 : sumTo n (fun k => BM E bs i k * (T k (bs j) - if k = j then d else 0)) = sumTo n (fun k => E i (bs k) * T k (bs j)) + sumTo n fun k => if k = j then -(E i (bs k) * d) else 0 := by
      rw [← sumTo_add]
      refine sumTo_congr fun k _ => ?_
      unfold BM
      rw [Int.mul_sub]
      by_cases e : k = j
      · rw [if_pos e, if_pos e]; omega
      · rw [if_neg e, if_neg e]; omega
    rw [e1, h.eq i _ hi (h.lt j hj), sumTo_one hj fun k _ hne => if_neg hne, if_pos rfl, Int.mul_comm d]
    omega
  have := this k hk
  omega

/-- Each row is told by its numbers at the first n places, if E begins with the unit. -/
theorem Tabl.told (h : Tabl n W E bs T d) (hnW : n ≤ W) (hE : ∀ i j, i < n → j < n → E i j = if i = j then 1 else 0) {k c : Nat} (hk : k < n) (hc : c < W) : T k c = sumTo n fun j => T k j * E j c := by
  have := det_only (A := BM E bs) (x := fun k => T k c - sumTo n fun j => T k j * E j c) h.ne fun i hi => by
    have e1 : sumTo n (fun k => BM E bs i k * (T k c - sumTo n fun j => T k j * E j c)) = sumTo n (fun k => E i (bs k) * T k c) + -(sumTo n fun j => E j c * sumTo n fun k => E i (bs k) * T k j) := by
      have e2 : (sumTo n fun j => E j c * sumTo n fun k => E i (bs k) * T k j) = sumTo n fun k => sumTo n fun j => E i (bs k) * (T k j * E j c) := by
        rw [sumTo_swap]
        refine sumTo_congr fun j _ => ?_
        rw [← sumTo_mul]
        refine sumTo_congr fun k _ => ?_
        ac_rfl
      rw [e2, ← sumTo_neg, ← sumTo_add]
      refine sumTo_congr fun k _ => ?_
      unfold BM
      rw [Int.mul_sub, ← sumTo_mul]
      omega
    have e3 : (sumTo n fun j => E j c * sumTo n fun k => E i (bs k) * T k j) = d * E i c := by
      have : (sumTo n fun j => E j c * sumTo n fun k => E i (bs k) * T k j) = sumTo n fun j => if j = i then d * E i c else 0 := sumTo_congr fun j hj => by
        rw [h.eq i j hi (by omega), hE i j hi hj]
        by_cases e : j = i
        · subst e; rw [if_pos rfl, if_pos rfl]; rw [Int.mul_one, Int.mul_comm]
        · rw [if_neg fun g => e g.symm, if_neg e, Int.mul_zero, Int.mul_zero]
      rw [this, sumTo_one hi fun j _ hne => if_neg hne, if_pos rfl]
    rw [e1, e3, h.eq i c hi hc]
    omega
  have := this k hk
  omega

def basP (bs : Nat → Nat) (r v : Nat) : Nat → Nat := fun k => if k = r then v else bs k

/-- A step. -/
theorem Tabl.step (h : Tabl n W E bs T d) {r v : Nat} (hr : r < n) (hv : v < W) (hp : 0 < T r v) :
    (∀ k c, k < n → c < W → k ≠ r → d ∣ T k c * T r v - T k v * T r c) ∧
      ∀ T' : Mat, (∀ c, c < W → T' r c = T r c) → (∀ k c, k < n → c < W → k ≠ r → d * T' k c = T k c * T r v - T k v * T r c) → Tabl n W E (basP bs r v) T' (T r v) := by
  have hd := h.pos
  have eB : BM E (basP bs r v) = ucol (BM E bs) r fun i => E i v := by
    funext i k
    unfold BM basP ucol
    by_cases e : k = r
    · rw [if_pos e, if_pos e]
    · rw [if_neg e, if_neg e]
  have hm := h.mul hr hv
  rw [← eB] at hm
  have hdet : det n (BM E (basP bs r v)) = T r v ∨ det n (BM E (basP bs r v)) = -(T r v) := by
    rcases h.dt with e | e
    · left
      rw [e, Int.mul_comm] at hm
      exact (Int.eq_of_mul_eq_mul_left (show d ≠ 0 by omega) hm).symm
    · right
      rw [e, Int.mul_neg, Int.mul_comm, ← Int.mul_neg] at hm
      have := Int.eq_of_mul_eq_mul_left (show d ≠ 0 by omega) hm
      omega
  have hne : det n (BM E (basP bs r v)) ≠ 0 := by rcases hdet with e | e <;> omega
  -- the numbers of the new table, as determinants
  obtain ⟨t, ht⟩ : ∃ t : Mat, ∀ i c, i < n → c < W → sumTo n (fun k => BM E (basP bs r v) i k * t k c) = T r v * E i c := by
    rcases hdet with e | e
    · refine ⟨fun k c => det n (ucol (BM E (basP bs r v)) k fun i => E i c), fun i c hi hc => ?_⟩
      have := cramer (n := n) (A := BM E (basP bs r v)) (q := fun i => E i c) hi
      rw [e] at this
      rw [this]
      exact Int.mul_comm _ _
    · refine ⟨fun k c => -(det n (ucol (BM E (basP bs r v)) k fun i => E i c)), fun i c hi hc => ?_⟩
      have := cramer (n := n) (A := BM E (basP bs r v)) (q := fun i => E i c) hi
      rw [e] at this
      have e2 : sumTo n (fun k => BM E (basP bs r v) i k * -(det n (ucol (BM E (basP bs r v)) k fun i => E i c))) = -(sumTo n fun k => BM E (basP bs r v) i k * det n (ucol (BM E (basP bs r v)) k fun i => E i c)) := by
        rw [← sumTo_neg]
        exact sumTo_congr fun k _ => Int.mul_neg _ _
      rw [e2, this, Int.mul_neg, Int.neg_neg]
      exact Int.mul_comm _ _
  have key : ∀ k c, k < n → c < W → (if k = r then d * T r c else T k c * T r v - T k v * T r c) = d * t k c := fun k c hk hc => by
    have := det_only (A := BM E (basP bs r v)) (x := fun k => (if k = r then d * T r c else T k c * T r v - T k v * T r c) - d * t k c) hne fun i hi => by
      have e1 : sumTo n (fun k => BM E (basP bs r v) i k * ((if k = r then d * T r c else T k c * T r v - T k v * T r c) - d * t k c)) =
          T r v * sumTo n (fun k => E i (bs k) * T k c) + -(T r c) * sumTo n (fun k => E i (bs k) * T k v) + sumTo n (fun k => if k = r then d * (E i v * T r c) else 0) + -d * sumTo n (fun k => BM E (basP bs r v) i k * t k c) := by
        rw [← sumTo_mul, ← sumTo_mul, ← sumTo_mul, ← sumTo_add, ← sumTo_add, ← sumTo_add]
        refine sumTo_congr fun k _ => ?_
        unfold BM basP
        by_cases e : k = r
        · subst e
          simp only [if_true]
          grind
        · simp only [if_neg e]
          grind
      rw [e1, h.eq i c hi hc, h.eq i v hi hv, sumTo_one hr fun k _ hne => if_neg hne, if_pos rfl, ht i c hi hc]
      grind
    have := this k hk
    omega
  refine ⟨fun k c hk hc hkr => ?_, fun T' h1 h2 => ?_⟩
  · have := key k c hk hc
    rw [if_neg hkr] at this
    exact ⟨_, this⟩
  · have eT : ∀ k c, k < n → c < W → T' k c = t k c := fun k c hk hc => by
      have := key k c hk hc
      by_cases e : k = r
      · subst e
        rw [if_pos rfl] at this
        rw [h1 c hc]
        exact Int.eq_of_mul_eq_mul_left (by omega) this
      · rw [if_neg e, ← h2 k c hk hc e] at this
        exact Int.eq_of_mul_eq_mul_left (by omega) this
    refine ⟨hp, hdet, fun i c hi hc => ?_, fun k hk => ?_⟩
    · rw [← ht i c hi hc]
      exact sumTo_congr fun k hk => by rw [eT k c hk hc]; rfl
    · unfold basP
      split
      · exact hv
      · exact h.lt k hk

end

/-! ### Keys in order -/

/-- The first different number is less. -/
def lexLt (m : Nat) (f g : Nat → Int) : Prop := ∃ j, j < m ∧ f j < g j ∧ ∀ i, i < j → f i = g i

section
variable {m : Nat} {f g h : Nat → Int}

theorem lexLt.irr (q : lexLt m f f) : False := by
  obtain ⟨j, _, h, _⟩ := q
  omega

theorem lexLt.trans (p : lexLt m f g) (q : lexLt m g h) : lexLt m f h := by
  obtain ⟨j, j1, j2, j3⟩ := p
  obtain ⟨k, k1, k2, k3⟩ := q
  rcases Nat.lt_trichotomy j k with e | e | e
  · exact ⟨j, j1, by have := k3 j e; omega, fun i hi => by rw [j3 i hi, k3 i (by omega)]⟩
  · subst e
    exact ⟨j, j1, by omega, fun i hi => by rw [j3 i hi, k3 i hi]⟩
  · exact ⟨k, k1, by have := j3 k e; omega, fun i hi => by rw [j3 i (by omega), k3 i hi]⟩

theorem lexLt.tot (m : Nat) (f g : Nat → Int) : lexLt m f g ∨ lexLt m g f ∨ ∀ j, j < m → f j = g j := by
  induction m with
  | zero => exact .inr (.inr fun j hj => by omega)
  | succ m ih =>
    rcases ih with ⟨j, a, b, c⟩ | ⟨j, a, b, c⟩ | e
    · exact .inl ⟨j, by omega, b, c⟩
    · exact .inr (.inl ⟨j, by omega, b, c⟩)
    · rcases Int.lt_trichotomy (f m) (g m) with q | q | q
      · exact .inl ⟨m, by omega, q, e⟩
      · exact .inr (.inr fun j hj => by
          by_cases c : j = m
          · subst c; exact q
          · exact e j (by omega))
      · exact .inr (.inl ⟨m, by omega, q, fun i hi => (e i hi).symm⟩)

theorem lexLt.mul {c : Int} (hc : 0 < c) (q : lexLt m f g) : lexLt m (fun i => c * f i) fun i => c * g i := by
  obtain ⟨j, a, b, e⟩ := q
  exact ⟨j, a, Int.mul_lt_mul_of_pos_left b hc, fun i hi => by dsimp only; rw [e i hi]⟩

theorem lexLt.div {c : Int} (hc : 0 < c) (q : lexLt m (fun i => c * f i) fun i => c * g i) : lexLt m f g := by
  obtain ⟨j, a, b, e⟩ := q
  refine ⟨j, a, Int.lt_of_mul_lt_mul_left b (by omega), fun i hi => ?_⟩
  exact Int.eq_of_mul_eq_mul_left (by omega) (e i hi)

theorem lexLt.congr {f' g' : Nat → Int} (q : lexLt m f g) (hf : ∀ i, i < m → f' i = f i) (hg : ∀ i, i < m → g' i = g i) : lexLt m f' g' := by
  obtain ⟨j, a, b, e⟩ := q
  exact ⟨j, a, by rw [hf j a, hg j a]; exact b, fun i hi => by rw [hf i (by omega), hg i (by omega), e i hi]⟩

/-- What is added on both sides. -/
theorem lexLt.add (a : Nat → Int) (q : lexLt m f g) : lexLt m (fun i => f i + a i) fun i => g i + a i := by
  obtain ⟨j, a1, b, e⟩ := q
  exact ⟨j, a1, by dsimp only; omega, fun i hi => by dsimp only; rw [e i hi]⟩

end

/-- The key of a row: the number on the right (at the place W), then the first n. -/
def keyF (W : Nat) (T : Mat) (k : Nat) : Nat → Int := fun j => if j = 0 then T k W else T k (j - 1)

abbrev lexPos (m : Nat) (f : Nat → Int) : Prop := lexLt m (fun _ => 0) f

/-- The row with the least key, divided by what is in the column v. -/
structure Least (n W : Nat) (T : Mat) (v r : Nat) : Prop where
  lt : r < n
  pos : 0 < T r v
  less : ∀ k, k < n → k ≠ r → 0 < T k v → lexLt (n + 1) (fun i => T k v * keyF W T r i) fun i => T r v * keyF W T k i

section
variable {n W : Nat} {E : Mat} {bs : Nat → Nat} {T : Mat} {d : Int}

/-- No two rows have the same key. -/
theorem Tabl.notie (h : Tabl n (W + 1) E bs T d) (hnW : n ≤ W) (hE : ∀ i j, i < n → j < n → E i j = if i = j then 1 else 0) {k r : Nat} (hk : k < n) (hr : r < n) (hkr : k ≠ r) {p q : Int} (hq : q ≠ 0)
    (ht : ∀ i, i < n + 1 → q * keyF W T r i = p * keyF W T k i) : False := by
  have e0 : ∀ j, j < n → q * T r j = p * T k j := fun j hj => by
    have := ht (j + 1) (by omega)
    unfold keyF at this
    rw [if_neg (by omega), if_neg (by omega)] at this
    exact this
  have e1 : ∀ c, c < W + 1 → q * T r c = p * T k c := fun c hc => by
    rw [h.told (by omega) hE hr hc, h.told (by omega) hE hk hc, ← sumTo_mul, ← sumTo_mul]
    refine sumTo_congr fun j hj => ?_
    rw [← Int.mul_assoc, e0 j hj, Int.mul_assoc]
  have e2 := e1 (bs r) (h.lt r hr)
  rw [h.unit hr hr, h.unit hk hr, if_pos rfl, if_neg hkr, Int.mul_zero] at e2
  have hd := h.pos
  rcases Int.mul_eq_zero.1 e2 with g | g
  · exact hq g
  · omega

/-- The step keeps all keys greater than 0, and leads back. -/
theorem Tabl.lexstep (h : Tabl n (W + 1) E bs T d) {r v : Nat} (hv : v < W + 1) (hl : Least n W T v r) (hpos : ∀ k, k < n → lexPos (n + 1) (keyF W T k)) (hnW : n ≤ W) {T' : Mat}
    (h1 : ∀ c, c < W + 1 → T' r c = T r c) (h2 : ∀ k c, k < n → c < W + 1 → k ≠ r → d * T' k c = T k c * T r v - T k v * T r c) :
    (∀ k, k < n → lexPos (n + 1) (keyF W T' k)) ∧ Least n W T' (bs r) r := by
  have hd := h.pos
  obtain ⟨hr, hp, hless⟩ := hl
  have kr : ∀ i, i < n + 1 → keyF W T' r i = keyF W T r i := fun i hi => by
    unfold keyF
    split
    · exact h1 W (by omega)
    · exact h1 (i - 1) (by omega)
  have kk : ∀ k, k < n → k ≠ r → ∀ i, i < n + 1 → d * keyF W T' k i = T r v * keyF W T k i + -(T k v * keyF W T r i) := fun k hk hkr i hi => by
    unfold keyF
    split
    · rw [h2 k W hk (by omega) hkr, Int.mul_comm (T k W)]; omega
    · rw [h2 k (i - 1) hk (by omega) hkr, Int.mul_comm (T k (i - 1))]; omega
  have pos' : ∀ k, k < n → lexPos (n + 1) (keyF W T' k) := fun k hk => by
    by_cases e : k = r
    · subst e
      exact (hpos k hk).congr (fun _ _ => rfl) kr
    · refine lexLt.div hd ?_
      have q1 : lexLt (n + 1) (fun _ => 0) fun i => T r v * keyF W T k i + -(T k v * keyF W T r i) := by
        rcases Int.lt_trichotomy 0 (T k v) with g | g | g
        · exact ((hless k hk e g).add fun i => -(T k v * keyF W T r i)).congr (fun i _ => by omega) fun i _ => rfl
        · rw [← g]
          exact ((hpos k hk).mul hp).congr (fun i _ => by simp) fun i _ => by simp
        · have a1 := ((hpos k hk).mul hp).add fun i => -(T k v) * keyF W T r i
          have a2 := (hpos r hr).mul (show 0 < -(T k v) by omega)
          exact lexLt.trans (a2.congr (fun i _ => by simp) fun i _ => rfl) (a1.congr (fun i _ => by omega) fun i _ => by rw [Int.neg_mul])
      exact q1.congr (fun i _ => by simp) (kk k hk e)
  refine ⟨pos', hr, ?_, fun k hk hkr hk0 => ?_⟩
  · rw [h1 _ (h.lt r hr), h.unit hr hr, if_pos rfl]
    exact hd
  · -- in the column of what left there is d in the row r, and less the old column elsewhere
    have c1 : T' r (bs r) = d := by rw [h1 _ (h.lt r hr), h.unit hr hr, if_pos rfl]
    have c2 : T' k (bs r) = -(T k v) := by
      have := h2 k (bs r) hk (h.lt r hr) hkr
      rw [h.unit hk hr, if_neg hkr, h.unit hr hr, if_pos rfl, Int.zero_mul, Int.zero_sub, Int.mul_comm (T k v), ← Int.mul_neg] at this
      exact Int.eq_of_mul_eq_mul_left (show d ≠ 0 by omega) this
    rw [c1, c2]
    have a1 := ((hpos k hk).mul hp).add fun i => -(T k v) * keyF W T r i
    exact a1.congr (fun i hi => by rw [kr i hi]; simp) fun i hi => by rw [kk k hk hkr i hi, Int.neg_mul]

/-- Tables for the same variables, in any order: what leaves is the same. -/
theorem Tabl.same {bs2 : Nat → Nat} {T2 : Mat} {d2 : Int} (h : Tabl n (W + 1) E bs T d) (h2 : Tabl n (W + 1) E bs2 T2 d2) (hs : ∀ b, (∃ k, k < n ∧ bs k = b) ↔ ∃ k, k < n ∧ bs2 k = b) (hnW : n ≤ W) {v r r2 : Nat} (hv : v < W + 1) (l1 : Least n W T v r) (l2 : Least n W T2 v r2) : bs r = bs2 r2 := by
  have hd := h.pos
  have hd2 := h2.pos
  -- the numbers by variables
  have num : ∀ k j, k < n → j < n → bs k = bs2 j → ∀ c, c < W + 1 → d2 * T k c = d * T2 j c := fun k j hk hj hkj c hc => by
    let V : Nat → Int := fun b => sumTo n fun j => if bs2 j = b then T2 j c else 0
    have V2 : ∀ j, j < n → V (bs2 j) = T2 j c := fun j hj => by
      show (sumTo n fun i => if bs2 i = bs2 j then T2 i c else 0) = _
      rw [sumTo_one hj fun i hi hne => if_neg fun g => hne (h2.inj i j hi hj g), if_pos rfl]
    have V0 : ∀ b, (∀ j, j < n → bs2 j ≠ b) → V b = 0 := fun b hb => sumTo_zero fun i hi => if_neg (hb i hi)
    have := det_only (A := BM E bs) (x := fun k => d2 * T k c - d * V (bs k)) h.ne fun i hi => by
      have e1 : sumTo n (fun k => BM E bs i k * (d2 * T k c - d * V (bs k))) = d2 * sumTo n (fun k => E i (bs k) * T k c) + -d * sumTo n fun k => E i (bs k) * V (bs k) := by
        rw [← sumTo_mul, ← sumTo_mul, ← sumTo_add]
        refine sumTo_congr fun k _ => ?_
        unfold BM
        grind
      have e2 : (sumTo n fun k => E i (bs k) * V (bs k)) = sumTo n fun j => E i (bs2 j) * T2 j c := by
        rw [← sum_img (N := W + 1) h.inj h.lt (f := fun b => E i b * V b) fun b _ hb => by
          rw [V0 b fun j hj g => by
            obtain ⟨k, hk, e⟩ := (hs b).2 ⟨j, hj, g⟩
            exact hb k hk e, Int.mul_zero]]
        rw [sum_img (N := W + 1) h2.inj h2.lt (f := fun b => E i b * V b) fun b _ hb => by rw [V0 b hb, Int.mul_zero]]
        exact sumTo_congr fun j hj => by rw [V2 j hj]
      rw [e1, e2, h.eq i c hi hc, h2.eq i c hi hc]
      grind
    have := this k hk
    rw [hkj, V2 j hj] at this
    omega
  refine Classical.byContradiction fun hne => ?_
  obtain ⟨k, hk, ek⟩ := (hs (bs2 r2)).2 ⟨r2, l2.lt, rfl⟩
  obtain ⟨j, hj, ej⟩ := (hs (bs r)).1 ⟨r, l1.lt, rfl⟩
  have hkr : k ≠ r := fun e => hne (by rw [← e, ek])
  have hjr : j ≠ r2 := fun e => hne (by rw [← ej, e])
  have n1 := num k r2 hk l2.lt ek
  have n2 := num r j l1.lt hj ej.symm
  have p1 : 0 < T k v := by
    have a := Int.mul_pos hd l2.pos
    rw [← n1 v hv] at a
    exact pos_of_mul hd2 a
  have p2 : 0 < T2 j v := by
    have a := Int.mul_pos hd2 l1.pos
    rw [n2 v hv] at a
    exact pos_of_mul hd a
  have a1 := l1.less k hk hkr p1
  have a2 := (l2.less j hj hjr p2).mul (Int.mul_pos hd hd)
  have kf : ∀ {a b : Nat}, (∀ c, c < W + 1 → d2 * T a c = d * T2 b c) → ∀ i, i < n + 1 → d2 * keyF W T a i = d * keyF W T2 b i := fun e i hi => by
    unfold keyF
    split
    · exact e W (by omega)
    · exact e _ (by omega)
  have a3 : lexLt (n + 1) (fun i => d2 * d2 * (T r v * keyF W T k i)) fun i => d2 * d2 * (T k v * keyF W T r i) := a2.congr
    (fun i hi => by
      rw [show d2 * d2 * (T r v * keyF W T k i) = d2 * T r v * (d2 * keyF W T k i) by ac_rfl, n2 v hv, kf n1 i hi]
      ac_rfl)
    fun i hi => by
      rw [show d2 * d2 * (T k v * keyF W T r i) = d2 * T k v * (d2 * keyF W T r i) by ac_rfl, n1 v hv, kf n2 i hi]
      ac_rfl
  exact (a1.trans (a3.div (Int.mul_pos hd2 hd2))).irr

/-- A column whose numbers in E are not less than 0, and not all 0, has a number greater than 0. -/
theorem Tabl.some (h : Tabl n W E bs T d) (hE : ∀ i c, i < n → c < W → 0 ≤ E i c) {v : Nat} (hv : v < W) (hne : ∃ i, i < n ∧ E i v ≠ 0) : ∃ k, k < n ∧ 0 < T k v := by
  refine Classical.byContradiction fun hno => ?_
  have hle : ∀ k, k < n → T k v ≤ 0 := fun k hk => by
    refine Classical.byContradiction fun g => hno ⟨k, hk, by omega⟩
  obtain ⟨i, hi, hi0⟩ := hne
  have e := h.eq i v hi hv
  have hd := h.pos
  have h1 : 0 ≤ sumTo n fun k => E i (bs k) * -(T k v) := sum_pos0 fun k hk => Int.mul_nonneg (hE i _ hi (h.lt k hk)) (by have := hle k hk; omega)
  have h2 : (sumTo n fun k => E i (bs k) * -(T k v)) = -(d * E i v) := by
    rw [← e, ← sumTo_neg]
    exact sumTo_congr fun k _ => Int.mul_neg _ _
  rw [h2] at h1
  have h3 := Int.mul_pos hd (show 0 < E i v by have := hE i v hi hv; omega)
  omega

end
end Go.Ab

/-! Ways by partners do not lead back to where they began. No program here. -/
namespace Go.Ab

def partN (n x : Nat) : Nat := if x < n then x + n else x - n

theorem partN_lt {n x : Nat} (h : x < 2 * n) : partN n x < 2 * n := by unfold partN; split <;> omega
theorem partN_two {n x : Nat} (h : x < 2 * n) : partN n (partN n x) = x := by unfold partN; split <;> split <;> omega
theorem partN_ne {n x : Nat} (h : x < 2 * n) : partN n x ≠ x := by unfold partN; split <;> omega

/-- A way: tables, what enters and in which rows. -/
structure LWay (n : Nat) (E : Mat) (a M : Nat) (bs : Nat → Nat → Nat) (T : Nat → Mat) (d : Nat → Int) (v r : Nat → Nat) : Prop where
  tab : ∀ m, m ≤ M + 1 → Tabl n (2 * n + 1) E (bs m) (T m) (d m)
  low : ∀ m, m ≤ M + 1 → ∀ k, k < n → bs m k < 2 * n
  vlt : ∀ m, m ≤ M → v m < 2 * n
  go : ∀ m, m ≤ M → Least n (2 * n) (T m) (v m) (r m)
  back : ∀ m, m ≤ M → Least n (2 * n) (T (m + 1)) (bs m (r m)) (r m)
  bas : ∀ m, m ≤ M → ∀ k, k < n → bs (m + 1) k = if k = r m then v m else bs m k
  par : ∀ m, m < M → v (m + 1) = partN n (bs m (r m))
  no : ∀ m, m < M → bs m (r m) ≠ a ∧ bs m (r m) ≠ n + a
  last : bs M (r M) = a ∨ bs M (r M) = n + a
  v0 : v 0 = n + a
  b0 : ∀ k, k < n → bs 0 k = k
  alt : a < n

section
variable {n : Nat} {E : Mat} {a M : Nat} {bs : Nat → Nat → Nat} {T : Nat → Mat} {d : Nat → Int} {v r : Nat → Nat}

def Has1 (n : Nat) (bs : Nat → Nat → Nat) (m b : Nat) : Prop := ∃ k, k < n ∧ bs m k = b

theorem LWay.hasl (h : LWay n E a M bs T d v r) {m : Nat} (hm : m ≤ M) : Has1 n bs m (bs m (r m)) := ⟨r m, (h.go m hm).lt, rfl⟩

theorem LWay.has (h : LWay n E a M bs T d v r) {m : Nat} (hm : m ≤ M) (b : Nat) : Has1 n bs (m + 1) b ↔ b = v m ∨ Has1 n bs m b ∧ b ≠ bs m (r m) := by
  have hr := (h.go m hm).lt
  constructor
  · rintro ⟨k, hk, rfl⟩
    rw [h.bas m hm k hk]
    by_cases e : k = r m
    · rw [if_pos e]; exact .inl rfl
    · rw [if_neg e]
      exact .inr ⟨⟨k, hk, rfl⟩, fun g => e ((h.tab m (by omega)).inj k (r m) hk hr g)⟩
  · rintro (rfl | ⟨⟨k, hk, rfl⟩, hne⟩)
    · exact ⟨r m, hr, by rw [h.bas m hm _ hr, if_pos rfl]⟩
    · exact ⟨k, hk, by rw [h.bas m hm k hk, if_neg fun e => hne (by rw [e])]⟩

/-- What enters is not there; no pair but that of a is there; the partner of what enters is not there. -/
theorem LWay.inv (h : LWay n E a M bs T d v r) : ∀ m, m ≤ M → ¬ Has1 n bs m (v m) ∧ (∀ j, j < n → j ≠ a → ¬ (Has1 n bs m j ∧ Has1 n bs m (n + j))) ∧ (Has1 n bs m (partN n (v m)) → v m = n + a)
  | 0, _ => by
    have ha := h.alt
    have e : ∀ b, Has1 n bs 0 b → b < n := fun b ⟨k, hk, e⟩ => by rw [h.b0 k hk] at e; omega
    exact ⟨fun g => by have := e _ g; rw [h.v0] at this; omega, fun j hj _ g => by have := e _ g.2; omega, fun _ => h.v0⟩
  | m + 1, hm => by
    obtain ⟨i1, i2, i3⟩ := h.inv m (by omega)
    have ha := h.alt
    obtain ⟨no1, no2⟩ := h.no m (by omega)
    have hl := h.hasl (m := m) (by omega)
    have hl2 : bs m (r m) < 2 * n := h.low m (by omega) _ (h.go m (by omega)).lt
    have hv2 := h.vlt m (by omega)
    have ev := h.par m (by omega)
    -- the partner of what leaves is not there
    have np : ¬ Has1 n bs m (partN n (bs m (r m))) := fun g => by
      by_cases c : bs m (r m) < n
      · refine i2 (bs m (r m)) c no1 ⟨hl, ?_⟩
        rw [show partN n (bs m (r m)) = n + bs m (r m) by unfold partN; rw [if_pos c]; omega] at g
        exact g
      · refine i2 (bs m (r m) - n) (by omega) (by omega) ⟨?_, ?_⟩
        · rw [show partN n (bs m (r m)) = bs m (r m) - n by unfold partN; rw [if_neg c]] at g
          exact g
        · rw [show n + (bs m (r m) - n) = bs m (r m) by omega]
          exact hl
    refine ⟨fun g => ?_, fun j hj hja g => ?_, fun g => ?_⟩
    · rw [ev] at g
      rcases (h.has (by omega) _).1 g with e | ⟨g1, _⟩
      · have e2 : bs m (r m) = partN n (v m) := by rw [← e, partN_two hl2]
        have e3 := i3 (by rw [← e2]; exact hl)
        rw [e3] at e2
        unfold partN at e2
        rw [if_neg (by omega)] at e2
        omega
      · exact np g1
    · rcases (h.has (by omega) _).1 g.1 with e | ⟨g1, _⟩
      · rcases (h.has (by omega) _).1 g.2 with e' | ⟨g1', _⟩
        · omega
        · have := i3 (by
            rw [show partN n (v m) = n + j by unfold partN; rw [if_pos (by omega)]; omega]
            exact g1')
          omega
      · rcases (h.has (by omega) _).1 g.2 with e' | ⟨g1', _⟩
        · have := i3 (by
            rw [show partN n (v m) = j by unfold partN; rw [if_neg (by omega)]; omega]
            exact g1)
          omega
        · exact i2 j hj hja ⟨g1, g1'⟩
    · exfalso
      rw [ev, partN_two hl2] at g
      rcases (h.has (by omega) _).1 g with e | ⟨_, g2⟩
      · exact i1 (by rw [← e]; exact hl)
      · exact g2 rfl

theorem LWay.mirror (h : LWay n E a M bs T d v r) (hs : ∀ b, Has1 n bs (M + 1) b ↔ Has1 n bs 0 b) : ∀ i, i ≤ M → (∀ b, Has1 n bs (M + 1 - i) b ↔ Has1 n bs i b) ∧ bs (M - i) (r (M - i)) = v i
  | 0, _ => by
    refine ⟨hs, ?_⟩
    rw [Nat.sub_zero, h.v0]
    rcases h.last with e | e
    · exfalso
      have ha := h.alt
      have g : Has1 n bs (M + 1) a := (hs a).2 ⟨a, ha, h.b0 a ha⟩
      rcases (h.has (Nat.le_refl M) _).1 g with e2 | ⟨_, g2⟩
      · refine (h.inv M (Nat.le_refl M)).1 ?_
        rw [← e2, ← e]
        exact h.hasl (Nat.le_refl M)
      · exact g2 e.symm
    · exact e
  | i + 1, hi => by
    obtain ⟨s1, s2⟩ := h.mirror hs i (by omega)
    have hl2 : bs (M - i) (r (M - i)) < 2 * n := h.low _ (by omega) _ (h.go _ (by omega)).lt
    have e1 : M + 1 - i = (M - i) + 1 := by omega
    rw [e1] at s1
    have b1 := h.back (M - i) (by omega)
    rw [s2] at b1
    have key := (h.tab i (by omega)).same (h.tab (M - i + 1) (by omega)) (fun b => (s1 b).symm) (by omega) (by have := h.vlt i (by omega); omega) (h.go i (by omega)) b1
    rw [h.bas (M - i) (by omega) _ (h.go (M - i) (by omega)).lt, if_pos rfl] at key
    refine ⟨fun b => ?_, ?_⟩
    · rw [show M + 1 - (i + 1) = M - i by omega]
      have a1 := h.has (m := M - i) (by omega) b
      have a2 := h.has (m := i) (by omega) b
      have ni := (h.inv (M - i) (by omega)).1
      rw [a2]
      constructor
      · intro g
        by_cases c : b = bs (M - i) (r (M - i))
        · exact .inl (by rw [c, s2])
        · refine .inr ⟨(s1 b).1 (a1.2 (.inr ⟨g, c⟩)), fun e => ?_⟩
          rw [key] at e
          subst e
          exact ni g
      · rintro (rfl | ⟨g1, g2⟩)
        · rw [← s2]
          exact h.hasl (by omega)
        · rcases a1.1 ((s1 b).2 g1) with e | ⟨g3, _⟩
          · exact absurd (e.trans key.symm) g2
          · exact g3
    · have hl3 : bs (M - (i + 1)) (r (M - (i + 1))) < 2 * n := h.low _ (by omega) _ (h.go _ (by omega)).lt
      have p1 := h.par (M - (i + 1)) (by omega)
      rw [show M - (i + 1) + 1 = M - i by omega] at p1
      rw [h.par i (by omega), key, p1, partN_two hl3]

/-- The way does not come back. -/
theorem LWay.off (h : LWay n E a M bs T d v r) : ¬ ∀ b, Has1 n bs (M + 1) b ↔ Has1 n bs 0 b := fun hs => by
  rcases Nat.mod_two_eq_zero_or_one M with e | e
  · have hj : M - M / 2 = M / 2 := by omega
    have := (h.mirror hs (M / 2) (by omega)).2
    rw [hj] at this
    refine (h.inv (M / 2) (by omega)).1 ?_
    rw [← this]
    exact h.hasl (by omega)
  · have hj : M - (M / 2 + 1) = M / 2 := by omega
    have := (h.mirror hs (M / 2 + 1) (by omega)).2
    rw [hj, h.par (M / 2) (by omega)] at this
    exact partN_ne (h.low _ (by omega) _ (h.go _ (by omega)).lt) this.symm

/-- No pair at the end. -/
theorem LWay.comp (h : LWay n E a M bs T d v r) {j : Nat} (hj : j < n) : ¬ (Has1 n bs (M + 1) j ∧ Has1 n bs (M + 1) (n + j)) := fun g => by
  obtain ⟨i1, i2, i3⟩ := h.inv M (Nat.le_refl M)
  have ha := h.alt
  have hl := h.hasl (Nat.le_refl M)
  have out : ¬ Has1 n bs (M + 1) (bs M (r M)) := fun q => by
    rcases (h.has (Nat.le_refl M) _).1 q with e | ⟨_, e⟩
    · exact i1 (by rw [← e]; exact hl)
    · exact e rfl
  by_cases hja : j = a
  · subst hja
    rcases h.last with e | e
    · exact out (by rw [e]; exact g.1)
    · exact out (by rw [e]; exact g.2)
  · rcases (h.has (Nat.le_refl M) _).1 g.1 with e | ⟨g1, _⟩
    · rcases (h.has (Nat.le_refl M) _).1 g.2 with e' | ⟨g1', _⟩
      · omega
      · have := i3 (by
          rw [show partN n (v M) = n + j by unfold partN; rw [if_pos (by omega)]; omega]
          exact g1')
        omega
    · rcases (h.has (Nat.le_refl M) _).1 g.2 with e' | ⟨g1', _⟩
      · have := i3 (by
          rw [show partN n (v M) = j by unfold partN; rw [if_neg (by omega)]; omega]
          exact g1)
        omega
      · exact i2 j hj hja ⟨g1, g1'⟩

end
end Go.Ab

/-! A list of numbers written out as a list that grows; a slice with room made. No program here. -/
namespace Go.Ab

section
variable {H0 H : Heap} {L : List (Atom H0.next)} {K : Post}

end
end Go.Ab
