/- Strings as lists of bytes: readings and rules. No program here. -/
import Derived.Test.YtgdiebnokgnniaaGreatDoorZabG5
import Derived.Test.YtgdiebnokgnniaaGreatDoorZabG6
import Derived.Test.YtgdiebnokgnniaaGreatDoorGDS
import Derived.Laws.Strings
import Derived.Lib.Strings
namespace Go.Ab

/-- A string's value. -/
abbrev str (l : List UInt8) : Value := .string ⟨l.toArray⟩

def Rd.str : Rd (List UInt8) where
  n := 1
  rel := fun _ bs cs x => bs = [] ∧ cs = [Ab.str x]
  len := fun h => by rw [h.2]; rfl
  cell := fun h => by rw [h.2]; rfl
  low := fun h b hb => by rw [h.1] at hb; cases hb
  frame := fun h _ _ => h

instance : Plain Rd.str := ⟨fun ⟨h1, h2⟩ => ⟨h1, fun _ => ⟨rfl, h2⟩⟩⟩

abbrev RStrs : Rd (List (List UInt8)) := Rd.slice Rd.str

theorem has_str {H : Heap} {u : Value} {x : List UInt8} (h : Has Rd.str H [u] x) : u = str x := by
  obtain ⟨_, _, h⟩ := h
  simpa using h

theorem str_size (l : List UInt8) : (ByteArray.mk l.toArray).size = l.length := by
  show l.toArray.size = _
  simp

theorem str_append (a b : List UInt8) : ByteArray.mk a.toArray ++ ByteArray.mk b.toArray = ByteArray.mk (a ++ b).toArray := by
  have h : (ByteArray.mk a.toArray ++ ByteArray.mk b.toArray).data = (a ++ b).toArray := by
    show (ByteArray.append _ _).data = _
    simp
  cases hx : ByteArray.mk a.toArray ++ ByteArray.mk b.toArray
  rw [hx] at h
  simp only at h
  rw [h]

section
variable {H : Heap} {k : Post} {κ : IntKind}

theorem Wi.cat {a b : List UInt8} (hl : a.length + b.length ≤ 1152921504606846976) (h : k (str (a ++ b)) H) : W.bin .add (str a) (str b) H k := by
  have e : binEval .add (str a) (str b) = some (str (a ++ b)) := by
    simp only [binEval, strEval, str_size, if_pos hl, str_append]
  unfold W.bin
  rw [e]
  exact h

theorem Wi.eqlS {a b : List UInt8} (h : k (.bool (decide (a = b))) H) : W.bin .eql (str a) (str b) H k := by
  have e : binEval .eql (str a) (str b) = some (.bool (decide (a = b))) := by
    simp only [binEval, strEval, ByteArray.toList_mk]
    congr 2
    by_cases g : a = b
    · subst g; simp
    · simp [g]
  unfold W.bin
  rw [e]
  exact h

theorem Wi.lenS {l : List UInt8} (h : k (.int .i64 (l.length : Nat)) H) : W.lenStr (str l) H k := by
  show k (.int .i64 ((ByteArray.mk l.toArray).size : Nat)) H
  rw [str_size]
  exact h

theorem Wi.atS {l : List UInt8} {i : Nat} (hi : i < l.length) (h : k (.int .u8 (l[i].toNat : Nat)) H) : W.indexStr (str l) (.int κ (i : Nat)) H k := by
  refine ⟨by omega, ?_⟩
  have e : (ByteArray.mk l.toArray)[((i : Nat) : Int).toNat]? = some l[i] := by
    rw [ByteArray.getElem?_lt' _ _ (by rw [str_size]; omega)]
    congr 1
  rw [e]
  exact h

theorem str_extract (l : List UInt8) (a b : Nat) : (ByteArray.mk l.toArray).extract a b = ByteArray.mk ((l.take b).drop a).toArray := by
  rw [Lib.extract_eq]
  congr 2
  simp only [List.toList_toArray]
  rw [List.drop_take]

theorem Wi.subS {l : List UInt8} {a b : Nat} {κ' : IntKind} (ha : a ≤ b) (hb : b ≤ l.length) (h : k (str ((l.take b).drop a)) H) : W.sliceStr (str l) (some (.int κ (a : Nat))) (some (.int κ' (b : Nat))) H k := by
  refine ⟨by omega, by omega, by rw [str_size]; omega, ?_⟩
  rw [Int.toNat_natCast, Int.toNat_natCast, str_extract]
  exact h

theorem Wi.takeS {l : List UInt8} {b : Nat} (hb : b ≤ l.length) (h : k (str (l.take b)) H) : W.sliceStr (str l) none (some (.int κ (b : Nat))) H k := by
  refine ⟨by omega, by omega, by rw [str_size]; omega, ?_⟩
  rw [Int.toNat_natCast, Int.toNat_zero, str_extract, List.drop_zero]
  exact h

theorem Wi.dropS {l : List UInt8} {a : Nat} (ha : a ≤ l.length) (h : k (str (l.drop a)) H) : W.sliceStr (str l) (some (.int κ (a : Nat))) none H k := by
  refine ⟨by omega, by rw [str_size]; omega, by omega, ?_⟩
  rw [Int.toNat_natCast, Int.toNat_natCast, str_extract, str_size, List.take_length]
  exact h

end

/-! ### From the model's own calls to the abstract heap -/

/-- Blocks of the world that were stay, and so does all that is told besides: then the abstract heap stays. -/
theorem Ext.same {φ : Phi} {H : Heap} {w w' : World} (s : Sim φ H w) (g : Grows w w') : Ext φ H w φ H w' where
  sim := s.grows g
  next := Nat.le_refl _
  back := fun _ _ k' h => ⟨k', h, rfl, rfl, rfl⟩
  agree := fun _ _ _ => rfl
  mapped := fun b hb hk => absurd (s.wf b hk) (by omega)
  fresh := fun b cb r hb h => absurd (s.wf b (s.live b _ h)) (by omega)
  frame := fun cb hcb _ => g.keep cb hcb
  size := g.size
  os := g.os
  tape := g.tape
  output := g.output

theorem Grows.of_below {w w' : World} (h : RowKit.Below w.heap.size w w') : Grows w w' := ⟨h.size, fun cb hcb => h.block cb hcb, h.os, h.tape, h.output⟩

/-- Plain values stand for themselves. -/
theorem plainV_eq {φ : Phi} {H : Heap} {v v' : Value} (h : plainV v = true) (r : VR φ H v v') : v' = v := by
  cases r <;> first | rfl | (simp [plainV] at h; done) | skip

theorem VRs.plain {φ : Phi} {H : Heap} {xs ys : Array Value} (h : VRs φ H xs ys) (hp : xs.toList.all plainV = true) : ys = xs := by
  obtain ⟨h1, h2⟩ := h
  apply Array.ext (by omega)
  intro i g1 g2
  exact plainV_eq (List.all_eq_true.1 hp _ (by simp)) (h2 i g2 g1)

/-- A variable of a package that holds plain cells. -/
theorem Sim.globPlain {φ : Phi} {H : Heap} {w : World} (s : Sim φ H w) {g : Nat} {k : Blk} (hk : H.blk g = some k) (hg : g < 4096) (hp : k.cells.all plainV = true) :
    ∃ fz, w.heap[g]? = some (.cells k.cells.toArray k.ty fz) := by
  obtain ⟨_, hφ⟩ := s.glob g k hg hk
  obtain ⟨arr, fz, h1, _, _, h3, h4⟩ := s.cells g k g _ hk hφ
  refine ⟨fz, ?_⟩
  rw [h1]
  have : arr = k.cells.toArray := by
    apply Array.ext (by simpa using h3)
    intro i g1 g2
    obtain ⟨v', q1, q2⟩ := h4 i (k.cells[i]'(by simpa using g2)) (by simp)
    have e := plainV_eq (List.all_eq_true.1 hp _ (List.getElem_mem _)) q2
    rw [Array.getElem?_eq_getElem g1] at q1
    rw [Option.some.inj q1, e]
    simp
  rw [this]

/-- A variable of a package that holds an interface value that is not nil. -/
theorem Sim.globIface {φ : Phi} {H : Heap} {w : World} (s : Sim φ H w) {g : Nat} {k : Blk} {t : TypeId} {u : Value} (hk : H.blk g = some k) (hg : g < 4096) (hc : k.cells = [.iface t u]) :
    ∃ fz u', w.heap[g]? = some (.cells #[.iface t u'] k.ty fz) := by
  obtain ⟨_, hφ⟩ := s.glob g k hg hk
  obtain ⟨arr, fz, h1, _, _, h3, h4⟩ := s.cells g k g _ hk hφ
  obtain ⟨v', q1, q2⟩ := h4 0 (.iface t u) (by rw [hc]; rfl)
  obtain ⟨u', rfl⟩ := q2.of_iface
  refine ⟨fz, u', ?_⟩
  rw [h1]
  have : arr = #[.iface t u'] := by
    apply Array.ext (by rw [h3, hc]; rfl)
    intro i g1 g2
    have hi : i = 0 := by simpa using g2
    subst hi
    rw [Array.getElem?_eq_getElem g1] at q1
    simpa using q1
  rw [this]

/-- Strings of a slice, as the world has them. -/
theorem has_strs {φ : Phi} {H : Heap} {w : World} {u u' : Value} {xs : List (List UInt8)} (h : Has RStrs H [u] xs) (s : Sim φ H w) (r : VR φ H u u') :
    ∃ (a : Option Addr) (c : Nat), u' = .slice a xs.length c ∧ xs.length ≤ c ∧ xs.length < 9223372036854775808 ∧
      (xs ≠ [] → ∃ b o, a = some ⟨b, o, none⟩ ∧ b < w.heap.size ∧ ∀ (j : Nat) (x : List UInt8), xs[j]? = some x → w.cell? ⟨b, o + j, none⟩ = some (str x)) := by
  obtain ⟨bs, h⟩ := h
  rcases h with ⟨rfl, _, h⟩ | ⟨b, o, e, kb, fs, _, hc, sl⟩
  · rcases h with h | h | ⟨a, h⟩
    · simp only [List.cons.injEq, and_true] at h; subst h
      rcases r.of_snil with ⟨rfl, -, -⟩ | ⟨⟨a, c, rfl⟩, -, h⟩
      · exact ⟨none, 0, rfl, by simp, by simp, fun h => absurd rfl h⟩
      · omega
    · simp only [List.cons.injEq, and_true] at h; subst h
      rcases r.of_snil with ⟨rfl, -, h⟩ | ⟨⟨a, c, rfl⟩, -, -⟩
      · omega
      · exact ⟨some a, c, rfl, by simp, by simp, fun h => absurd rfl h⟩
    · simp only [List.cons.injEq, and_true] at h; subst h
      obtain ⟨a', c', rfl, _, _⟩ := r.of_slice
      exact ⟨some a', c', rfl, by simp, by simp, fun h => absurd rfl h⟩
  · simp only [List.cons.injEq, and_true] at hc; subst hc
    have r2 := r
    obtain ⟨a', c', rfl, ar, hcr⟩ := r.of_slice
    have hcap := sl.cap
    refine ⟨some a', c', rfl, ?_, sl.small, fun _ => ?_⟩
    · unfold CR at hcr
      split at hcr <;> omega
    · obtain ⟨rr, hr⟩ := ar.map kb sl.blk
      obtain ⟨arr, fz, h1, _, h3, _, h4⟩ := s.cells _ kb _ rr sl.blk hr
      have e1 : a' = ⟨a'.block, o, none⟩ := by
        have := ar.off
        have := ar.spot'
        cases a'
        simp_all
      refine ⟨a'.block, o, by rw [← e1], (Array.getElem?_eq_some_iff.1 h1).1, fun j x hj => ?_⟩
      obtain ⟨hjl, rfl⟩ := List.getElem?_eq_some_iff.1 hj
      have he := sl.each j hjl
      have hroom := sl.room
      have hn : RStrs.n = 1 ∧ Rd.str.n = 1 := ⟨rfl, rfl⟩
      have he2 : cellsAt 1 kb.cells o j = [str xs[j]] := he.2
      have hlt : o + j < kb.cells.length := by
        have : Rd.str.n = 1 := rfl
        rw [this] at hroom
        omega
      have e3 : kb.cells[o + j]? = some (str xs[j]) := by
        unfold cellsAt at he2
        have := congrArg (·[0]?) he2
        simpa [List.getElem?_take, List.getElem?_drop] using this
      obtain ⟨v', g1, g2⟩ := h4 _ _ e3
      have := plainV_eq rfl g2
      subst this
      simp only [World.cell?, h1]
      exact g1

/-- A block that is new. -/
theorem Ext.newBlk {φ : Phi} {H : Heap} {w : World} (s : Sim φ H w) (cells : List Value) (ty : TypeId) (esz : Nat) (hp : cells.all plainV = true) :
    ∃ φ' : Phi, φ' H.next = some (w.heap.size, cells.length) ∧ Ext φ H w φ' (H.alloc cells ty esz) { w with heap := w.heap.push (.cells cells.toArray ty) } := by
  have := s.alloc cells cells.toArray ty esz (by simp) (fun i v hv => ⟨v, by simpa using hv, plainV_VR (List.all_eq_true.1 hp _ (List.mem_of_getElem? hv))⟩)
  simpa using this

section
variable {H0 H : Heap} {L L' : List (Atom H0.next)} {K : Post}

theorem Wl.setStr {v : Value} {xs : List (List UInt8)} {i j : Nat} {y : List UInt8} {κ : IntKind} (h : Loc H0 L H) [c : AtV L [v] (.data RStrs [v] xs) j] [s : SetI L j (.data RStrs [v] (xs.set i y)) L'] (hi : i < xs.length)
    (k : ∀ H', Loc H0 L' H' → K undef H') : W.indexAddr 1 v (.int κ i) H fun p H => W.put p (str y) H K := by
  obtain ⟨bs, h1, h2, h3, u⟩ := h.mark c.get
  obtain ⟨b, o, e, kb, rfl, q2, q3, q4, q5⟩ := Marked.setP (cs := [str y]) h1 h3 hi (fun _ => ⟨rfl, rfl⟩)
  have hn : Rd.str.n = 1 := rfl
  simp only [hn] at q4 q5
  refine Wi.index hi (Wi.put q2 rfl q3 (by omega) fun H' w => k H' (by
    rw [s.eq]
    refine u _ _ (q5 H' ?_)
    have e : kb.cells.take (o + i * 1) ++ [str y] ++ kb.cells.drop (o + i * 1 + 1) = kb.cells.set (o + i * 1) (str y) := by
      rw [List.set_eq_take_append_cons_drop, if_pos (by omega)]
      simp
    rw [e]
    exact w))

theorem Wl.atStrH {v : Value} {xs : List (List UInt8)} {i : Nat} {κ : IntKind} {H : Heap} (h : Has RStrs H [v] xs) (hi : i < xs.length) (k : K (str xs[i]) H) : W.indexAddr 1 v (.int κ i) H fun p H => W.get p H K :=
  Wl.at1H (r := Rd.str) rfl h hi fun u hu => by rw [has_str hu]; exact k

theorem Wi.nilI (h : K (.bool true) H) : W.eqNilI true .eql .nilIface .nilIface H K := h
theorem Wi.someI {t : TypeId} {u : Value} (h : K (.bool false) H) : W.eqNilI true .eql (Value.iface t u) .nilIface H K := h

theorem set_step {α : Type} {f : Nat → α} {n x : Nat} {z : α} (hx : x < n) : (((List.range x).map f) ++ List.replicate (n - x) z).set x (f x) = ((List.range (x + 1)).map f) ++ List.replicate (n - (x + 1)) z := by
  rw [List.set_append, if_neg (by simp), List.range_succ, List.map_append]
  simp only [List.length_map, List.length_range, Nat.sub_self, List.map_cons, List.map_nil, List.append_assoc, List.singleton_append]
  obtain ⟨m, hm⟩ : ∃ m, n - x = m + 1 := ⟨n - x - 1, by omega⟩
  rw [hm, List.replicate_succ, List.set_cons_zero, show n - (x + 1) = m by omega]

end
section
variable {H : Heap} {k : Post}

/-- One byte as a string. -/
theorem Wi.byteStr {d : Nat} {ty : TypeId} (h : ∀ H', H.Le H' → k (str [UInt8.ofNat d]) H') : W.lit 1 [.int .u8 0] ty [(0, 1, .int .u8 (d : Nat))] H fun v H => W.toStr v H k := by
  refine Wi.lit (cells := [.int .u8 (d : Nat)]) rfl fun H' l n hb => ?_
  show W.toStr (.slice (some (adr H.next 0)) 1 2) H' k
  have e : (H'.getN (adr H.next 0) 1).bind bytesOf = some [(d : Int)] := by
    simp only [Heap.getN, hb, Option.bind_some]
    rfl
  simp only [W.toStr, e]
  exact h H' l

theorem Wi.subU8 {a b : Nat} (h1 : b ≤ a) (h2 : a < 256) (h : k (.int .u8 ((a - b : Nat) : Nat)) H) : W.bin .sub (.int .u8 (a : Nat)) (.int .u8 (b : Nat)) H k := by
  have e : IntKind.u8.wrap ((a : Int) - (b : Int)) = ((a - b : Nat) : Int) := by
    simp only [IntKind.wrap, IntKind.signed, IntKind.bits]
    simp
    omega
  simp only [W.bin, binEval, intEval, if_true]
  rw [e]
  exact h

theorem Wi.convU8 {n : Nat} {κ : IntKind} (hn : n < 256) (h : k (.int .u8 (n : Nat)) H) : W.conv .u8 (.int κ (n : Nat)) H k := by
  have e : IntKind.u8.wrap (n : Int) = n := by
    simp only [IntKind.wrap, IntKind.signed, IntKind.bits]
    simp
    omega
  show k (.int .u8 (IntKind.u8.wrap (n : Int))) H
  rw [e]
  exact h

theorem Wi.quoN {a b : Nat} (hb : b ≠ 0) (ha : a < 9223372036854775808) (h : k (.int .i64 ((a / b : Nat) : Nat)) H) : W.bin .quo (.int .i64 (a : Nat)) (.int .i64 (b : Nat)) H k := by
  have e : (a : Int).tdiv (b : Int) = ((a / b : Nat) : Int) := (Int.ofNat_tdiv a b).symm
  have hle : a / b ≤ a := Nat.div_le_self a b
  have hb' : ¬ ((b : Int) = 0) := by omega
  simp only [W.bin, binEval, intEval, if_true, if_neg hb']
  rw [e]
  generalize a / b = q at h hle
  have hw : IntKind.i64.wrap (q : Int) = (q : Int) := wrap_id (by unfold I64; omega)
  rw [hw]
  exact h

theorem Wi.remN {a b : Nat} (hb : b ≠ 0) (h : k (.int .i64 ((a % b : Nat) : Nat)) H) : W.bin .rem (.int .i64 (a : Nat)) (.int .i64 (b : Nat)) H k := by
  refine Wi.remI (by omega) ?_
  have e : (a : Int).tmod (b : Int) = ((a % b : Nat) : Int) := (Int.ofNat_tmod a b).symm
  rw [e]
  exact h

end
/-- A loop that goes down by a number that the invariant tells. -/
theorem W.loop_nat {S : Type} {F : (S → Heap → Prop) → S → Heap → Prop} (Inv : Nat → S → Heap → Prop) {n0 : Nat} {s : S} {H : Heap} (h0 : Inv n0 s H)
    (step : ∀ n s H, Inv n s H → F (fun s' H' => ∃ n', n' < n ∧ Inv n' s' H') s H) : W.loop F s H := by
  intro I hI
  have key : ∀ n s H, Inv n s H → I s H := by
    intro n
    induction n using Nat.strongRecOn with
    | _ n ih =>
      intro s H hi
      exact hI _ s H (fun s' H' ⟨n', h1, h2⟩ => ih n' h1 s' H' h2) (step n s H hi)
  exact key _ s H h0

section
variable {H0 H : Heap} {L : List (Atom H0.next)} {K : Post}

/-- A list of strings written out. -/
theorem Wl.litS (xs : List (List UInt8)) {n : Nat} {ty : TypeId} {parts : List (Nat × Nat × Value)} (hn : n = xs.length) (hs : xs.length < 9223372036854775808) (hf : fillA (reps n [str []]) parts = some (xs.map str)) (h : Loc H0 L H)
    (k : ∀ H' v, Loc H0 (.data RStrs [v] xs :: L) H' → K v H') : W.lit n [str []] ty parts H K := by
  subst hn
  refine Wi.lit hf fun H' l n hb => k H' _ (h.add ⟨l, H.next :: (List.range xs.length).flatMap (fun _ => []), .inr ⟨H.next, 0, _, _, fun _ => [], rfl, rfl, ⟨by omega, hb, by omega, hs, by simp [Rd.str], fun i hi => ⟨rfl, ?_⟩⟩⟩, ?_, ?_, ?_⟩)
  · show cellsAt 1 (xs.map str) 0 i = _
    unfold cellsAt
    rw [Nat.zero_add, Nat.mul_one, List.drop_eq_getElem_cons (by simpa using hi)]
    simp
  all_goals have hfm : (List.range xs.length).flatMap (fun _ => ([] : List Nat)) = [] := List.flatMap_eq_nil_iff.2 fun _ _ => rfl
  · rw [hfm]; simp
  · intro x hx
    rw [hfm] at hx
    simp at hx
    omega
  · intro x hx kx hk
    rw [hfm] at hx
    simp at hx
    subst hx
    rw [hb] at hk
    cases hk
    rfl

end
end Go.Ab
