/- Sources of drawn numbers: a code of bytes, a place in it, a number that runs on. No program here. -/
import Derived.Test.YtdchibdcfdbcpaaGreatZabG8
import Derived.Test.YtdchibdcfdbcpaaGreatGLL
namespace Go.Ab

def Rd.u8 : Rd Int where
  n := 1
  rel := fun _ bs cs x => bs = [] ∧ cs = [.int .u8 x] ∧ 0 ≤ x ∧ x < 256
  len := fun h => by rw [h.2.1]; rfl
  cell := fun h => by rw [h.2.1]; rfl
  low := fun h b hb => by rw [h.1] at hb; cases hb
  frame := fun h _ _ => h
instance : Plain Rd.u8 := ⟨fun ⟨h1, h2, h3⟩ => ⟨h1, fun _ => ⟨rfl, h2, h3⟩⟩⟩

section
variable {H : Heap} {k : Post}

theorem Wi.mulU {a b : Int} (h : ∀ c, k (.int .u64 c) H) : W.bin .mul (.int .u64 a) (.int .u64 b) H k := by
  simp only [W.bin, binEval, intEval, if_true]; exact h _
theorem Wi.addU {a b : Int} (h : ∀ c, k (.int .u64 c) H) : W.bin .add (.int .u64 a) (.int .u64 b) H k := by
  simp only [W.bin, binEval, intEval, if_true]; exact h _
theorem Wi.shrU {a b : Int} (hb : 0 ≤ b) (h : ∀ c, k (.int .u64 c) H) : W.bin .shr (.int .u64 a) (.int .u64 b) H k := by
  simp only [W.bin, binEval]
  rw [if_neg (by omega)]
  exact h _
theorem Wi.andU {a : Int} {m : Nat} (hm : m < 2 ^ 64) (h : ∀ c : Nat, c ≤ m → k (.int .u64 (c : Int)) H) : W.bin .and (.int .u64 a) (.int .u64 (m : Nat)) H k := by
  simp only [W.bin, binEval, intEval, if_true]
  have h1 : (BitVec.ofInt IntKind.u64.bits (m : Int)).toNat = m := by
    show (BitVec.ofInt 64 (m : Int)).toNat = m
    rw [BitVec.ofInt_natCast, BitVec.toNat_ofNat]
    omega
  have h2 : (BitVec.ofInt IntKind.u64.bits a &&& BitVec.ofInt IntKind.u64.bits (m : Int)).toNat ≤ m := by
    rw [BitVec.toNat_and, h1]
    exact Nat.and_le_right
  generalize (BitVec.ofInt IntKind.u64.bits a &&& BitVec.ofInt IntKind.u64.bits (m : Int)).toNat = c at *
  have e : IntKind.u64.wrap (c : Int) = c := by
    simp only [IntKind.wrap, IntKind.signed, IntKind.bits]
    simp
    omega
  rw [e]
  exact h c h2
theorem Wi.convU {x : Int} {κ : IntKind} (h : ∀ c, k (.int .u64 c) H) : W.conv .u64 (.int κ x) H k := h _
theorem Wi.convI {x : Int} {κ : IntKind} (hx : I64 x) (h : k (.int .i64 x) H) : W.conv .i64 (.int κ x) H k := by
  show k (.int .i64 (IntKind.i64.wrap x)) H
  rw [wrap_id hx]
  exact h
theorem Wi.nilP {b o : Nat} (h : k (pt b o) H) : W.nilCheck (pt b o) H k := h
theorem Wi.remI {a b : Int} (hb : b ≠ 0) (h : k (.int .i64 (a.tmod b)) H) : W.bin .rem (.int .i64 a) (.int .i64 b) H k := by
  simpa [W.bin, binEval, intEval, hb] using h
theorem Wi.min2 {a b : Int} {κ κ' : IntKind} (h : k (.int κ (if b < a then b else a)) H) : W.min2 (.int κ a) (.int κ' b) H k := by
  unfold W.min2
  exact h
end

/-- A source: its variable, its code's bytes. -/
def Atom.src {n : Nat} (b : Nat) (vc : Value) (code : List Int) : Atom n where
  P := fun H bs => bs = [b] ∧ b < H.next ∧ (∃ (a : Nat) (h : Int) (ty : TypeId) (e : Nat), H.blk b = some ⟨[vc, .int .i64 (a : Int), .int .u64 h], ty, e, false⟩ ∧ a ≤ code.length) ∧ ∃ bs', (Rd.slice Rd.u8).rel H bs' [vc] code ∧ ∀ c ∈ bs', c < n
  low := by rintro H bs ⟨rfl, h, _⟩ c hc; simp at hc; omega
  frame := by
    rintro H H' bs ⟨rfl, h, ⟨a, hh, ty, e, hb, ha⟩, bs', hr, hl⟩ _ hn hs
    exact ⟨rfl, by omega, ⟨a, hh, ty, e, by rw [hs b (.inr (by simp))]; exact hb, ha⟩, bs', Rd.frame _ hr hn fun c hc => hs c (.inl (hl c hc)), hl⟩

section
variable {H0 H : Heap} {L : List (Atom H0.next)}

theorem set_same {α : Type} {l : List α} {i : Nat} {a : α} (h : l[i]? = some a) : l.set i a = l := by
  obtain ⟨hlt, rfl⟩ := List.getElem?_eq_some_iff.1 h
  exact List.set_getElem_self hlt

/-- What a source has, and how it goes on. -/
theorem Loc.src (h : Loc H0 L H) {i b : Nat} {vc : Value} {code : List Int} (hi : L[i]? = some (.src b vc code)) : ∃ (a : Nat) (hh : Int) (ty : TypeId) (e : Nat), H.blk b = some ⟨[vc, .int .i64 (a : Int), .int .u64 hh], ty, e, false⟩ ∧ a ≤ code.length ∧ Has (Rd.slice Rd.u8) H [vc] code ∧ H0.next ≤ b ∧
    ∀ H', H.next ≤ H'.next → (∀ c, c < H.next → c ≠ b → H'.blk c = H.blk c) → (∃ (a : Nat) (hh : Int) (ty : TypeId) (e : Nat), H'.blk b = some ⟨[vc, .int .i64 (a : Int), .int .u64 hh], ty, e, false⟩ ∧ a ≤ code.length) → Loc H0 L H' := by
  obtain ⟨bs, ⟨rfl, hb, ⟨a, hh, ty, e, hk, ha⟩, bs', hr, hl⟩, hlow, up⟩ := h.upd hi
  have hb0 : H0.next ≤ b := hlow b (by simp)
  refine ⟨a, hh, ty, e, hk, ha, ⟨bs', hr⟩, hb0, fun H' hn hs hb' => ?_⟩
  have := up H' (.src b vc code) [b] hn (fun c hc hcb => hs c hc (by simpa using hcb)) ⟨rfl, by omega, hb', bs', Rd.frame _ hr hn (fun c hc => hs c (Rd.low _ hr c hc) (fun e => by have := hl c hc; omega)), hl⟩ fun c hc => .inl hc
  rwa [set_same hi] at this

/-- A list of numbers written out. -/
theorem Wl.litN {K : Post} (xs : List Int) {n : Nat} {ty : TypeId} {parts : List (Nat × Nat × Value)} (hn : n = xs.length) (hs : xs.length < 9223372036854775808) (hI : ∀ x ∈ xs, I64 x) (hf : fillA (reps n [.int .i64 0]) parts = some (xs.map fun x => .int .i64 x)) (h : Loc H0 L H)
    (k : ∀ H' v, Loc H0 (.data (Rd.slice Rd.int) [v] xs :: L) H' → K v H') : W.lit n [.int .i64 0] ty parts H K := by
  subst hn
  have hcell : (xs.map fun x => (.int .i64 x : Value)).all isCell = true := by simp [isCell]
  refine Wi.lit hf fun H1 l1 n1 k1 => k H1 _ (h.cons l1 (bs := [H.next]) (grow_data (r := Rd.int) (ty := ty) (.inr ⟨H.next, 2 * xs.length, _, fun _ => [], rfl, by omega, by simp, by simp, ?_, ⟨by omega, k1, by omega, hs, by simp [Rd.int], fun i hi => ?_⟩, rfl, rfl, by simp [Rd.int], hcell⟩)) fun b hb => by simp at hb; omega)
  · intro c hc kc hk
    simp at hc
    subst hc
    rw [k1] at hk
    cases hk
    rfl
  · refine ⟨rfl, ?_, hI _ (List.getElem_mem hi)⟩
    show ((xs.map fun x => (.int .i64 x : Value)).drop (0 + i * 1)).take 1 = _
    rw [Nat.zero_add, Nat.mul_one, List.drop_eq_getElem_cons (by simpa using hi)]
    simp

/-- One thing is put first. -/
theorem Loc.front (h : Loc H0 L H) {a : Atom H0.next} (i : Nat) (hi : L[i]? = some a) : Loc H0 (a :: L.eraseIdx i) H := by
  obtain ⟨le, F, h1, h2⟩ := h
  let f : Nat → Nat := fun j => match j with | 0 => i | k + 1 => if k < i then k else k + 1
  have e : ∀ (j : Nat) (c : Atom H0.next), (a :: L.eraseIdx i)[j]? = some c → L[f j]? = some c := fun j c hj => by
    cases j with
    | zero => simp only [List.getElem?_cons_zero] at hj; rw [← hj]; exact hi
    | succ k =>
      rw [List.getElem?_cons_succ, List.getElem?_eraseIdx] at hj
      simp only [f]
      split at hj
      · rename_i g; rw [if_pos g]; exact hj
      · rename_i g; rw [if_neg g]; exact hj
  refine ⟨le, fun j => F (f j), fun j c hj => h1 _ c (e j c hj), fun j k c d hjk hj hk => h2 _ _ c d ?_ (e j c hj) (e k d hk)⟩
  cases j <;> cases k <;> simp only [f] <;> (try split) <;> (try split) <;> omega

/-- A pair, told as two things. -/
theorem Loc.unpair {α β : Type} {r : Rd α} {s : Rd β} {c1 c2 : List Value} {x : α} {y : β} (h : Loc H0 (.data (r.pair s) (c1 ++ c2) (x, y) :: L) H) (hl : c1.length = r.n) : Loc H0 (.data r c1 x :: .data s c2 y :: L) H := by
  refine h.split fun bs ⟨⟨b1, b2, d1, d2, hbs, hc, h1, h2⟩, hn, hrw⟩ => ?_
  subst hbs
  have e1 : c1 = d1 := (List.append_inj hc (by rw [hl, r.len h1])).1
  have e2 : c2 = d2 := (List.append_inj hc (by rw [hl, r.len h1])).2
  subst e1 e2
  have hd := List.nodup_append.1 hn
  exact ⟨b1, b2, ⟨h1, hd.1, hrw.left⟩, ⟨h2, hd.2.1, hrw.right⟩, fun c hc => List.mem_append_left _ hc, fun c hc => List.mem_append_right _ hc, fun c h1 h2 => hd.2.2 c h1 c h2 rfl⟩

end
end Go.Ab
