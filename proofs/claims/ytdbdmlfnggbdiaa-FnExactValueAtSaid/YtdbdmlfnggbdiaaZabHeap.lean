/- The abstract heap: blocks of cells without addresses of their own, and the relation that holds between it and a world of the model. -/
import Derived.Calls
import Derived.Below
import Derived.KernelRfl
import Derived.Laws.CopyRow
namespace Go.Ab

/-- A value of which nothing is known. -/
abbrev junk : Value := .chan none

/-- A block: what it holds, its elements' type and their size in cells, whether it is never written. -/
structure Blk where
  cells : List Value
  ty : TypeId
  esz : Nat
  ro : Bool

structure Heap where
  blk : Nat → Option Blk
  next : Nat

/-- Where a block lies in the world, and how many cells it has there. -/
abbrev Phi := Nat → Option (Nat × Nat)

/-- Addresses that stand for each other. -/
structure AR (φ : Phi) (H : Heap) (a a' : Addr) : Prop where
  spot : a.spot = none
  spot' : a'.spot = none
  off : a'.off = a.off
  lt : a.block < H.next
  map : ∀ k, H.blk a.block = some k → ∃ r, φ a.block = some (a'.block, r)

/-- A capacity: an even number is twice the exact one, an odd number tells the least one. -/
def CR (e c : Nat) : Prop := if e % 2 = 0 then c = e / 2 else e / 2 ≤ c

inductive VR (φ : Phi) (H : Heap) : Value → Value → Prop
  | junk (v : Value) : VR φ H (.chan none) v
  | bool (b : Bool) : VR φ H (.bool b) (.bool b)
  | int (k : IntKind) (n : Int) : VR φ H (.int k n) (.int k n)
  | string (s : ByteArray) : VR φ H (.string s) (.string s)
  | pnil : VR φ H (.pointer none) (.pointer none)
  | ptr {a a' : Addr} (h : AR φ H a a') : VR φ H (.pointer (some a)) (.pointer (some a'))
  | snil : VR φ H (.slice none 0 0) (.slice none 0 0)
  | emp (a' : Addr) (c : Nat) : VR φ H (.slice none 0 1) (.slice (some a') 0 c)
  | slice {a a' : Addr} {n e c : Nat} (h : AR φ H a a') (hc : CR e c)
      (hr : ∀ k, H.blk a.block = some k → e % 2 = 1 → ∃ r, φ a.block = some (a'.block, r) ∧ a.off + c * k.esz ≤ r) : VR φ H (.slice (some a) n e) (.slice (some a') n c)
  | func (f : FuncId) (xs ys xs' ys' : Array Value) (hx : xs.size = xs'.size) (hy : ys.size = ys'.size)
      (rx : ∀ i (h : i < xs.size) (h' : i < xs'.size), VR φ H xs[i] xs'[i])
      (ry : ∀ i (h : i < ys.size) (h' : i < ys'.size), VR φ H ys[i] ys'[i]) :
      VR φ H (.func (.func f) xs ys) (.func (.func f) xs' ys')
  | nilFunc : VR φ H .nilFunc .nilFunc
  | nilIface : VR φ H .nilIface .nilIface
  | agg (xs xs' : Array Value) (hx : xs.size = xs'.size)
      (rx : ∀ i (h : i < xs.size) (h' : i < xs'.size), VR φ H xs[i] xs'[i]) : VR φ H (.agg xs) (.agg xs')
  | tuple (xs xs' : Array Value) (hx : xs.size = xs'.size)
      (rx : ∀ i (h : i < xs.size) (h' : i < xs'.size), VR φ H xs[i] xs'[i]) : VR φ H (.tuple xs) (.tuple xs')

/-- What a block of the abstract heap says of a block of the world. -/
def CellsOK (φ : Phi) (H : Heap) (w : World) (k : Blk) (cb r : Nat) : Prop :=
  ∃ (arr : Array Value) (fz : Nat × Nat), w.heap[cb]? = some (.cells arr k.ty fz) ∧ (k.ro = false → fz = (0, 0)) ∧ k.cells.length ≤ arr.size ∧ arr.size = r ∧
    ∀ (i : Nat) (v : Value), k.cells[i]? = some v → ∃ v', arr[i]? = some v' ∧ VR φ H v v'

structure Sim (φ : Phi) (H : Heap) (w : World) : Prop where
  wf : ∀ b, H.blk b ≠ none → b < H.next
  live : ∀ b x, φ b = some x → H.blk b ≠ none
  inj : ∀ b c cb r r', φ b = some (cb, r) → φ c = some (cb, r') → b = c
  cells : ∀ b k cb r, H.blk b = some k → φ b = some (cb, r) → CellsOK φ H w k cb r

structure Ext (φ : Phi) (H : Heap) (w : World) (φ' : Phi) (H' : Heap) (w' : World) : Prop where
  sim : Sim φ' H' w'
  next : H.next ≤ H'.next
  back : ∀ b, b < H.next → ∀ k', H'.blk b = some k' → ∃ k, H.blk b = some k ∧ k'.ro = k.ro ∧ k'.ty = k.ty ∧ k'.esz = k.esz
  agree : ∀ b, b < H.next → H'.blk b ≠ none → φ' b = φ b
  mapped : ∀ b, H.next ≤ b → H'.blk b ≠ none → φ' b ≠ none
  fresh : ∀ b cb r, H.next ≤ b → φ' b = some (cb, r) →
    w.heap.size ≤ cb ∨ ∃ b0 k0 r0, b0 < H.next ∧ φ b0 = some (cb, r0) ∧ H.blk b0 = some k0 ∧ k0.ro = false ∧ H'.blk b0 = none
  frame : ∀ cb, cb < w.heap.size → (∀ b k r, φ b = some (cb, r) → H.blk b = some k → k.ro = true) → w'.heap[cb]? = w.heap[cb]?
  size : w.heap.size ≤ w'.heap.size
  os : w'.os = w.os
  tape : w'.tape = w.tape
  output : w'.output = w.output

theorem AR.ext {φ φ' H H' w w' a a'} (h : AR φ H a a') (x : Ext φ H w φ' H' w') : AR φ' H' a a' where
  spot := h.spot
  spot' := h.spot'
  off := h.off
  lt := Nat.lt_of_lt_of_le h.lt x.next
  map := fun k' hk' => by
    obtain ⟨k, hk, _⟩ := x.back _ h.lt k' hk'
    rw [x.agree _ h.lt (by rw [hk']; simp)]
    exact h.map k hk

theorem VR.ext {φ φ' H H' w w' v v'} (h : VR φ H v v') (x : Ext φ H w φ' H' w') : VR φ' H' v v' := by
  induction h with
  | junk v => exact .junk v
  | bool b => exact .bool b
  | int k n => exact .int k n
  | string s => exact .string s
  | pnil => exact .pnil
  | ptr h => exact .ptr (h.ext x)
  | snil => exact .snil
  | emp a c => exact .emp a c
  | slice h hc hr =>
    exact .slice (h.ext x) hc fun k' hk' he => by
      obtain ⟨k, hk, _, _, e⟩ := x.back _ h.lt k' hk'
      rw [x.agree _ h.lt (by rw [hk']; simp), e]
      exact hr k hk he
  | func f xs ys xs' ys' hx hy _ _ rx ry => exact .func f xs ys xs' ys' hx hy rx ry
  | nilFunc => exact .nilFunc
  | nilIface => exact .nilIface
  | agg xs xs' hx _ rx => exact .agg xs xs' hx rx
  | tuple xs xs' hx _ rx => exact .tuple xs xs' hx rx

theorem Ext.refl {φ H w} (s : Sim φ H w) : Ext φ H w φ H w where
  sim := s
  next := Nat.le_refl _
  back := fun _ _ k' h => ⟨k', h, rfl, rfl, rfl⟩
  agree := fun _ _ _ => rfl
  mapped := fun b hb hk => absurd (s.wf b hk) (by omega)
  fresh := fun b cb r hb h => absurd (s.wf b (s.live b _ h)) (by omega)
  frame := fun _ _ _ => rfl
  size := Nat.le_refl _
  os := rfl
  tape := rfl
  output := rfl

theorem Ext.trans {φ H w φ' H' w' φ'' H'' w''} (x : Ext φ H w φ' H' w') (y : Ext φ' H' w' φ'' H'' w'') : Ext φ H w φ'' H'' w'' where
  sim := y.sim
  next := Nat.le_trans x.next y.next
  back := fun b hb k'' h'' => by
    obtain ⟨k', h', r', t', e'⟩ := y.back b (Nat.lt_of_lt_of_le hb x.next) k'' h''
    obtain ⟨k, h, r, t, e⟩ := x.back b hb k' h'
    exact ⟨k, h, r'.trans r, t'.trans t, e'.trans e⟩
  agree := fun b hb h'' => by
    have hb' := Nat.lt_of_lt_of_le hb x.next
    have h' : H'.blk b ≠ none := by
      obtain ⟨k'', hk''⟩ := Option.ne_none_iff_exists'.1 h''
      obtain ⟨k', h', _⟩ := y.back b hb' k'' hk''
      rw [h']; simp
    rw [y.agree b hb' h'', x.agree b hb h']
  mapped := fun b hb h'' => by
    by_cases hb' : H'.next ≤ b
    · exact y.mapped b hb' h''
    · have hb' : b < H'.next := by omega
      obtain ⟨k'', hk''⟩ := Option.ne_none_iff_exists'.1 h''
      obtain ⟨k', h', _⟩ := y.back b hb' k'' hk''
      rw [y.agree b hb' h'']
      exact x.mapped b hb (by rw [h']; simp)
  fresh := fun b cb r hb h'' => by
    have dead : ∀ b0, b0 < H.next → H'.blk b0 = none → H''.blk b0 = none := fun b0 hb0 h0 => by
      cases hk : H''.blk b0 with
      | none => rfl
      | some k'' =>
        obtain ⟨k', h', _⟩ := y.back b0 (Nat.lt_of_lt_of_le hb0 x.next) k'' hk
        rw [h0] at h'; cases h'
    have one : ∀ b r, H.next ≤ b → φ' b = some (cb, r) →
        w.heap.size ≤ cb ∨ ∃ b0 k0 r0, b0 < H.next ∧ φ b0 = some (cb, r0) ∧ H.blk b0 = some k0 ∧ k0.ro = false ∧ H''.blk b0 = none := fun b r hb h' => by
      rcases x.fresh b cb r hb h' with h | ⟨b0, k0, r0, h1, h2, h3, h4, h5⟩
      · exact .inl h
      · exact .inr ⟨b0, k0, r0, h1, h2, h3, h4, dead b0 h1 h5⟩
    by_cases hb' : H'.next ≤ b
    · rcases y.fresh b cb r hb' h'' with h | ⟨b0, k0, r0, h1, h2, h3, h4, h5⟩
      · exact .inl (Nat.le_trans x.size h)
      · by_cases h0 : b0 < H.next
        · obtain ⟨k, hk, hr, _⟩ := x.back b0 h0 k0 h3
          exact .inr ⟨b0, k, r0, h0, by rw [← x.agree b0 h0 (by rw [h3]; simp)]; exact h2, hk, by rw [← hr]; exact h4, h5⟩
        · exact one b0 r0 (by omega) h2
    · have hb' : b < H'.next := by omega
      rw [y.agree b hb' (y.sim.live b _ h'')] at h''
      exact one b r hb h''
  frame := fun cb hcb hro => by
    rw [y.frame cb (Nat.lt_of_lt_of_le hcb x.size) ?_, x.frame cb hcb hro]
    intro b k' r hb hk'
    by_cases hb0 : b < H.next
    · obtain ⟨k, hk, hr, _⟩ := x.back b hb0 k' hk'
      rw [hr]
      exact hro b k r (by rw [← x.agree b hb0 (by rw [hk']; simp)]; exact hb) hk
    · rcases x.fresh b cb r (by omega) hb with h | ⟨b0, k0, r0, h1, h2, h3, h4, h5⟩
      · omega
      · rw [hro b0 k0 r0 h2 h3] at h4; cases h4
  size := Nat.le_trans x.size y.size
  os := y.os.trans x.os
  tape := y.tape.trans x.tape
  output := y.output.trans x.output

/-- A draw alone changes nothing that is told. -/
theorem Sim.drawn {φ H} {w : World} (s : Sim φ H w) (d : Nat) : Sim φ H { w with drawn := d } where
  wf := s.wf
  live := s.live
  inj := s.inj
  cells := s.cells

theorem Ext.drawn {φ H w φ' H' w'} (x : Ext φ H w φ' H' w') (d : Nat) : Ext φ H w φ' H' { w' with drawn := d } where
  sim := x.sim.drawn d
  next := x.next
  back := x.back
  agree := x.agree
  mapped := x.mapped
  fresh := x.fresh
  frame := x.frame
  size := x.size
  os := x.os
  tape := x.tape
  output := x.output

/-! ### The heap's own words -/

def Heap.get (H : Heap) (a : Addr) : Option Value := (H.blk a.block).bind fun k => k.cells[a.off]?

def Heap.alloc (H : Heap) (cells : List Value) (ty : TypeId) (esz : Nat) : Heap where
  blk := fun b => if b = H.next then some { cells, ty, esz, ro := false } else H.blk b
  next := H.next + 1

def Heap.setBlk (H : Heap) (b : Nat) (k : Option Blk) : Heap where
  blk := fun c => if c = b then k else H.blk c
  next := H.next

/-- Values that one cell holds. -/
def isCell : Value → Bool
  | .bool _ | .int _ _ | .string _ | .pointer _ | .slice _ _ _ | .func _ _ _ | .nilFunc | .nilIface => true
  | _ => false

/-- What one cell holds, put in place. -/
def Heap.set (H : Heap) (a : Addr) (v : Value) : Option Heap :=
  match H.blk a.block with
  | some k => if isCell v && !k.ro && decide (a.off < k.cells.length) then some (H.setBlk a.block (some { k with cells := k.cells.set a.off v })) else none
  | none => none

/-- n cells from an address on. -/
def Heap.getN (H : Heap) (a : Addr) (n : Nat) : Option (List Value) :=
  (H.blk a.block).bind fun k => if a.off + n ≤ k.cells.length then some ((k.cells.drop a.off).take n) else none

/-- Cells put in place from an address on. -/
def Heap.setN (H : Heap) (a : Addr) (vs : List Value) : Option Heap :=
  match H.blk a.block with
  | some k => if vs.all isCell && !k.ro && decide (a.off + vs.length ≤ k.cells.length) then
      some (H.setBlk a.block (some { k with cells := k.cells.take a.off ++ vs ++ k.cells.drop (a.off + vs.length) })) else none
  | none => none

theorem Sim.get {φ H w a a' v} (s : Sim φ H w) (h : AR φ H a a') (hg : H.get a = some v) : ∃ v', w.cell? a' = some v' ∧ VR φ H v v' := by
  unfold Heap.get at hg
  cases hk : H.blk a.block with
  | none => rw [hk] at hg; cases hg
  | some k =>
    rw [hk] at hg
    obtain ⟨r, hr⟩ := h.map k hk
    obtain ⟨arr, fz, h1, _, _, _, h4⟩ := s.cells _ k _ r hk hr
    obtain ⟨v', h5, h6⟩ := h4 _ v hg
    refine ⟨v', ?_, h6⟩
    simp only [World.cell?, h1, h.spot', h.off]
    exact h5

theorem AR.add {φ H a a'} (h : AR φ H a a') (n : Nat) : AR φ H (a.add n) (a'.add n) := by
  unfold Addr.add
  split
  · exact h
  · exact ⟨rfl, rfl, by simp [h.off], h.lt, h.map⟩

theorem add_block (a : Addr) (n : Nat) : (a.add n).block = a.block := by unfold Addr.add; split <;> rfl
theorem add_off (a : Addr) (n : Nat) : (a.add n).off = a.off + n := by unfold Addr.add; split <;> simp_all

theorem Sim.getN {φ H w a a' n vs} (s : Sim φ H w) (h : AR φ H a a') (hg : H.getN a n = some vs) :
    ∃ vs' : List Value, vs'.length = n ∧ vs.length = n ∧ (∀ i v, vs'[i]? = some v → w.cell? (a'.add i) = some v) ∧
      ∀ (i : Nat) (v v' : Value), vs[i]? = some v → vs'[i]? = some v' → VR φ H v v' := by
  unfold Heap.getN at hg
  cases hk : H.blk a.block with
  | none => rw [hk] at hg; cases hg
  | some k =>
    rw [hk] at hg
    simp only [Option.bind_some] at hg
    split at hg
    · rename_i hle
      cases hg
      obtain ⟨r, hr⟩ := h.map k hk
      obtain ⟨arr, fz, h1, _, h3, _, h4⟩ := s.cells _ k _ r hk hr
      refine ⟨(arr.toList.drop a.off).take n, ?_, ?_, ?_, ?_⟩
      · simp; omega
      · simp; omega
      · intro i v hv
        rw [List.getElem?_take] at hv
        split at hv
        · rw [List.getElem?_drop] at hv
          simp only [World.cell?, add_block, add_off, h1, h.off]
          have hsp : (a'.add i).spot.isSome = false := by unfold Addr.add; split <;> simp [h.spot']
          rw [hsp]
          simpa using hv
        · cases hv
      · intro i v v' hv hv'
        rw [List.getElem?_take] at hv hv'
        split at hv
        · rename_i hi
          rw [if_pos hi] at hv'
          rw [List.getElem?_drop] at hv hv'
          obtain ⟨u, h5, h6⟩ := h4 _ v hv
          have : some u = some v' := by rw [← h5, ← hv']; simp
          cases this
          exact h6
        · cases hv
    · cases hg

theorem Sim.lt {φ H w b cb r} (s : Sim φ H w) (h : φ b = some (cb, r)) : cb < w.heap.size := by
  obtain ⟨k, hk⟩ := Option.ne_none_iff_exists'.1 (s.live b _ h)
  obtain ⟨arr, fz, h1, _⟩ := s.cells b k cb r hk h
  exact (Array.getElem?_eq_some_iff.1 h1).1

/-- A new block. -/
theorem Sim.alloc {φ H w} (s : Sim φ H w) (cells : List Value) (arr : Array Value) (ty : TypeId) (esz : Nat) (hlen : cells.length ≤ arr.size)
    (hc : ∀ (i : Nat) (v : Value), cells[i]? = some v → ∃ v', arr[i]? = some v' ∧ VR φ H v v') :
    ∃ φ' : Phi, φ' H.next = some (w.heap.size, arr.size) ∧ Ext φ H w φ' (H.alloc cells ty esz) { w with heap := w.heap.push (.cells arr ty) } := by
  let φ' : Phi := fun b => if b = H.next then some (w.heap.size, arr.size) else φ b
  have hnew : H.blk H.next = none := by
    cases h : H.blk H.next with
    | none => rfl
    | some k => exact absurd (s.wf H.next (by rw [h]; simp)) (by omega)
  have old : ∀ b, b < H.next → φ' b = φ b ∧ (H.alloc cells ty esz).blk b = H.blk b := fun b hb => by
    simp only [φ', Heap.alloc]
    rw [if_neg (by omega), if_neg (by omega)]
    exact ⟨rfl, rfl⟩
  have arx : ∀ a a', AR φ H a a' → AR φ' (H.alloc cells ty esz) a a' := fun a a' h =>
    ⟨h.spot, h.spot', h.off, by have := h.lt; simp only [Heap.alloc]; omega, fun k hk => by
      rw [(old _ h.lt).2] at hk; rw [(old _ h.lt).1]; exact h.map k hk⟩
  have rrx : ∀ (a a' : Addr) (e c : Nat), AR φ H a a' → (∀ k, H.blk a.block = some k → e % 2 = 1 → ∃ r, φ a.block = some (a'.block, r) ∧ a.off + c * k.esz ≤ r) →
      ∀ k, (H.alloc cells ty esz).blk a.block = some k → e % 2 = 1 → ∃ r, φ' a.block = some (a'.block, r) ∧ a.off + c * k.esz ≤ r := fun a a' e c h hr k hk he => by
    rw [(old _ h.lt).2] at hk; rw [(old _ h.lt).1]; exact hr k hk he
  have vrx : ∀ v v', VR φ H v v' → VR φ' (H.alloc cells ty esz) v v' := fun v v' h => by
    induction h with
    | junk v => exact .junk v
    | bool b => exact .bool b
    | int k n => exact .int k n
    | string s => exact .string s
    | pnil => exact .pnil
    | ptr h => exact .ptr (arx _ _ h)
    | snil => exact .snil
    | emp a c => exact .emp a c
    | slice h hc hr => exact .slice (arx _ _ h) hc (rrx _ _ _ _ h hr)
    | func f xs ys xs' ys' hx hy _ _ rx ry => exact .func f xs ys xs' ys' hx hy rx ry
    | nilFunc => exact .nilFunc
    | nilIface => exact .nilIface
    | agg xs xs' hx _ rx => exact .agg xs xs' hx rx
    | tuple xs xs' hx _ rx => exact .tuple xs xs' hx rx
  refine ⟨φ', by simp [φ'], ?_⟩
  refine { sim := ?_, next := by simp [Heap.alloc], back := ?_, agree := ?_, mapped := ?_, fresh := ?_, frame := ?_, size := by simp, os := rfl, tape := rfl, output := rfl }
  · refine { wf := ?_, live := ?_, inj := ?_, cells := ?_ }
    · intro b hb
      by_cases h : b = H.next
      · subst h; simp [Heap.alloc]
      · simp only [Heap.alloc, if_neg h] at hb ⊢
        have := s.wf b hb
        omega
    · intro b x hb
      by_cases h : b = H.next
      · subst h; simp [Heap.alloc]
      · simp only [φ', if_neg h] at hb
        simp only [Heap.alloc, if_neg h]
        exact s.live b x hb
    · intro b c cb r r' hb hc'
      by_cases h : b = H.next <;> by_cases h' : c = H.next
      · rw [h, h']
      · simp only [φ', if_pos h, if_neg h'] at hb hc'
        cases hb
        exact absurd (s.lt hc') (by omega)
      · simp only [φ', if_neg h, if_pos h'] at hb hc'
        cases hc'
        exact absurd (s.lt hb) (by omega)
      · simp only [φ', if_neg h, if_neg h'] at hb hc'
        exact s.inj b c cb r r' hb hc'
    · intro b k cb r hk hb
      by_cases h : b = H.next
      · subst h
        simp only [φ', if_true] at hb
        simp only [Heap.alloc, if_true] at hk
        cases hb
        cases hk
        refine ⟨arr, (0, 0), by simp, fun _ => rfl, hlen, rfl, fun i v hv => ?_⟩
        obtain ⟨v', h1, h2⟩ := hc i v hv
        exact ⟨v', h1, vrx _ _ h2⟩
      · simp only [φ', if_neg h] at hb
        simp only [Heap.alloc, if_neg h] at hk
        have hlt := s.lt hb
        obtain ⟨arr', fz, h1, h2, h3, h3', h4⟩ := s.cells b k cb r hk hb
        refine ⟨arr', fz, ?_, h2, h3, h3', fun i v hv => ?_⟩
        · rw [Array.getElem?_push, if_neg (by omega)]; exact h1
        · obtain ⟨v', h5, h6⟩ := h4 i v hv
          exact ⟨v', h5, vrx _ _ h6⟩
  · intro b hb k' hk'
    rw [(old b hb).2] at hk'
    exact ⟨k', hk', rfl, rfl, rfl⟩
  · intro b hb _
    exact (old b hb).1
  · intro b hb hk
    by_cases h : b = H.next
    · subst h; simp [φ']
    · simp only [Heap.alloc, if_neg h] at hk
      exact absurd (s.wf b hk) (by omega)
  · intro b cb r hb h'
    by_cases h : b = H.next
    · subst h
      simp only [φ', if_true] at h'
      cases h'
      exact .inl (Nat.le_refl _)
    · simp only [φ', if_neg h] at h'
      exact absurd (s.wf b (s.live b _ h')) (by omega)
  · intro cb hcb _
    simp only []
    rw [Array.getElem?_push, if_neg (by omega)]

/-- Cells of a block put in place. -/
theorem Sim.write {φ H w b k cb r} (s : Sim φ H w) (hk : H.blk b = some k) (hb : φ b = some (cb, r)) (hro : k.ro = false) (cells' : List Value) (arr' : Array Value)
    (hlen : cells'.length ≤ arr'.size) (hsz : arr'.size = r) (hc : ∀ (i : Nat) (v : Value), cells'[i]? = some v → ∃ v', arr'[i]? = some v' ∧ VR φ H v v') :
    Ext φ H w φ (H.setBlk b (some { k with cells := cells' })) (w.setRow cb arr') := by
  have hbn := s.wf b (by rw [hk]; simp)
  obtain ⟨arr, fz, h1, h2, h3, h3', h4⟩ := s.cells b k cb r hk hb
  have hcb := s.lt hb
  have dead : ∀ c, (H.setBlk b (some { k with cells := cells' })).blk c ≠ none ↔ H.blk c ≠ none := fun c => by
    by_cases h : c = b
    · subst h; simp [Heap.setBlk, hk]
    · simp [Heap.setBlk, h]
  have arx : ∀ a a', AR φ H a a' → AR φ (H.setBlk b (some { k with cells := cells' })) a a' := fun a a' h =>
    ⟨h.spot, h.spot', h.off, h.lt, fun k' hk' => by
      have : H.blk a.block ≠ none := (dead _).1 (by rw [hk']; simp)
      obtain ⟨k0, hk0⟩ := Option.ne_none_iff_exists'.1 this
      exact h.map k0 hk0⟩
  have rrx : ∀ (a a' : Addr) (e c : Nat), AR φ H a a' → (∀ k, H.blk a.block = some k → e % 2 = 1 → ∃ r, φ a.block = some (a'.block, r) ∧ a.off + c * k.esz ≤ r) →
      ∀ k', (H.setBlk b (some { k with cells := cells' })).blk a.block = some k' → e % 2 = 1 → ∃ r, φ a.block = some (a'.block, r) ∧ a.off + c * k'.esz ≤ r := fun a a' e c h hr k' hk' he => by
    by_cases hab : a.block = b
    · simp only [Heap.setBlk, if_pos hab] at hk'
      cases hk'
      exact hr k (by rw [hab]; exact hk) he
    · simp only [Heap.setBlk, if_neg hab] at hk'
      exact hr k' hk' he
  have vrx : ∀ v v', VR φ H v v' → VR φ (H.setBlk b (some { k with cells := cells' })) v v' := fun v v' h => by
    induction h with
    | junk v => exact .junk v
    | bool b => exact .bool b
    | int k n => exact .int k n
    | string s => exact .string s
    | pnil => exact .pnil
    | ptr h => exact .ptr (arx _ _ h)
    | snil => exact .snil
    | emp a c => exact .emp a c
    | slice h hc hr => exact .slice (arx _ _ h) hc (rrx _ _ _ _ h hr)
    | func f xs ys xs' ys' hx hy _ _ rx ry => exact .func f xs ys xs' ys' hx hy rx ry
    | nilFunc => exact .nilFunc
    | nilIface => exact .nilIface
    | agg xs xs' hx _ rx => exact .agg xs xs' hx rx
    | tuple xs xs' hx _ rx => exact .tuple xs xs' hx rx
  have hrow : (w.setRow cb arr').heap[cb]? = some (.cells arr' k.ty fz) := setRow_heap w cb arr arr' k.ty fz h1
  have hother : ∀ c, c ≠ cb → (w.setRow cb arr').heap[c]? = w.heap[c]? := fun c h => by
    simp [World.setRow, Array.getElem?_modify, Ne.symm h]
  refine { sim := ?_, next := Nat.le_refl _, back := ?_, agree := fun _ _ _ => rfl, mapped := ?_, fresh := ?_, frame := ?_, size := by simp [World.setRow], os := rfl, tape := rfl, output := rfl }
  · refine { wf := fun c hc' => s.wf c ((dead c).1 hc'), live := fun c cc h => (dead c).2 (s.live c cc h), inj := s.inj, cells := ?_ }
    intro c k' cc r' hk' hc'
    by_cases h : c = b
    · subst h
      simp only [Heap.setBlk, if_true] at hk'
      rw [hb] at hc'
      cases hc'
      cases hk'
      exact ⟨arr', fz, hrow, h2, hlen, hsz, fun i v hv => let ⟨v', h5, h6⟩ := hc i v hv; ⟨v', h5, vrx _ _ h6⟩⟩
    · simp only [Heap.setBlk, if_neg h] at hk'
      obtain ⟨arr0, fz0, g1, g2, g3, g3', g4⟩ := s.cells c k' cc r' hk' hc'
      refine ⟨arr0, fz0, ?_, g2, g3, g3', fun i v hv => let ⟨v', h5, h6⟩ := g4 i v hv; ⟨v', h5, vrx _ _ h6⟩⟩
      rw [hother cc (fun e => h (s.inj c b cb r' r (e ▸ hc') hb))]
      exact g1
  · intro c hc' k' hk'
    by_cases h : c = b
    · subst h
      simp only [Heap.setBlk, if_true] at hk'
      cases hk'
      exact ⟨k, hk, rfl, rfl, rfl⟩
    · simp only [Heap.setBlk, if_neg h] at hk'
      exact ⟨k', hk', rfl, rfl, rfl⟩
  · intro c hc' h
    exact absurd (s.wf c ((dead c).1 h)) (by omega)
  · intro c cc r' hc' h
    exact absurd (s.wf c (s.live c _ h)) (by omega)
  · intro c hc' h
    refine hother c (fun e => ?_)
    subst e
    have := h b k r hb hk
    rw [hro] at this
    cases this

/-- A block whose name is given up: its world's block is another block's from now on. -/
theorem Sim.move {φ H w b k cb r} (s : Sim φ H w) (hk : H.blk b = some k) (hb : φ b = some (cb, r)) (hro : k.ro = false) (cells' : List Value) (arr' : Array Value)
    (hlen : cells'.length ≤ arr'.size) (hsz : arr'.size = r) (hc : ∀ (i : Nat) (v : Value), cells'[i]? = some v → ∃ v', arr'[i]? = some v' ∧ VR φ H v v') :
    ∃ φ' : Phi, φ' H.next = some (cb, r) ∧ Ext φ H w φ' ((H.setBlk b none).alloc cells' k.ty k.esz) (w.setRow cb arr') := by
  have hbn := s.wf b (by rw [hk]; simp)
  obtain ⟨arr, fz, h1, h2, h3, h3', h4⟩ := s.cells b k cb r hk hb
  have hcb := s.lt hb
  let φ' : Phi := fun c => if c = H.next then some (cb, r) else if c = b then none else φ c
  have hnew : H.blk H.next = none := by
    cases h : H.blk H.next with
    | none => rfl
    | some k => exact absurd (s.wf H.next (by rw [h]; simp)) (by omega)
  have bl : ∀ c, ((H.setBlk b none).alloc cells' k.ty k.esz).blk c = if c = H.next then some { cells := cells', ty := k.ty, esz := k.esz, ro := false } else if c = b then none else H.blk c := fun c => rfl
  have arx : ∀ a a', AR φ H a a' → AR φ' ((H.setBlk b none).alloc cells' k.ty k.esz) a a' := fun a a' h =>
    ⟨h.spot, h.spot', h.off, by have := h.lt; simp only [Heap.alloc, Heap.setBlk]; omega, fun k' hk' => by
      have hl := h.lt
      rw [bl, if_neg (by omega)] at hk'
      split at hk'
      · cases hk'
      · rename_i hne
        simp only [φ']
        rw [if_neg (by omega), if_neg hne]
        exact h.map k' hk'⟩
  have rrx : ∀ (a a' : Addr) (e c : Nat), AR φ H a a' → (∀ k, H.blk a.block = some k → e % 2 = 1 → ∃ r, φ a.block = some (a'.block, r) ∧ a.off + c * k.esz ≤ r) →
      ∀ k', ((H.setBlk b none).alloc cells' k.ty k.esz).blk a.block = some k' → e % 2 = 1 → ∃ r, φ' a.block = some (a'.block, r) ∧ a.off + c * k'.esz ≤ r := fun a a' e c h hr k' hk' he => by
    have hl := h.lt
    rw [bl, if_neg (by omega)] at hk'
    split at hk'
    · cases hk'
    · rename_i hne
      simp only [φ']
      rw [if_neg (by omega), if_neg hne]
      exact hr k' hk' he
  have vrx : ∀ v v', VR φ H v v' → VR φ' ((H.setBlk b none).alloc cells' k.ty k.esz) v v' := fun v v' h => by
    induction h with
    | junk v => exact .junk v
    | bool b => exact .bool b
    | int k n => exact .int k n
    | string s => exact .string s
    | pnil => exact .pnil
    | ptr h => exact .ptr (arx _ _ h)
    | snil => exact .snil
    | emp a c => exact .emp a c
    | slice h hc hr => exact .slice (arx _ _ h) hc (rrx _ _ _ _ h hr)
    | func f xs ys xs' ys' hx hy _ _ rx ry => exact .func f xs ys xs' ys' hx hy rx ry
    | nilFunc => exact .nilFunc
    | nilIface => exact .nilIface
    | agg xs xs' hx _ rx => exact .agg xs xs' hx rx
    | tuple xs xs' hx _ rx => exact .tuple xs xs' hx rx
  have hrow : (w.setRow cb arr').heap[cb]? = some (.cells arr' k.ty fz) := setRow_heap w cb arr arr' k.ty fz h1
  have hother : ∀ c, c ≠ cb → (w.setRow cb arr').heap[c]? = w.heap[c]? := fun c h => by
    simp [World.setRow, Array.getElem?_modify, Ne.symm h]
  refine ⟨φ', by simp [φ'], ?_⟩
  refine { sim := ?_, next := by simp [Heap.alloc, Heap.setBlk], back := ?_, agree := ?_, mapped := ?_, fresh := ?_, frame := ?_, size := by simp [World.setRow], os := rfl, tape := rfl, output := rfl }
  · refine { wf := ?_, live := ?_, inj := ?_, cells := ?_ }
    · intro c hc'
      rw [bl] at hc'
      simp only [Heap.alloc, Heap.setBlk]
      split at hc'
      · omega
      · split at hc'
        · exact absurd rfl hc'
        · have := s.wf c hc'; omega
    · intro c x h
      rw [bl]
      simp only [φ'] at h
      split at h
      · simp [*]
      · split at h
        · cases h
        · simp only [*, if_false]
          exact s.live c x h
    · intro c d cc r1 r2 hc' hd
      simp only [φ'] at hc' hd
      split at hc' <;> split at hd
      · simp [*]
      · cases hc'
        split at hd
        · cases hd
        · rename_i hne; exact absurd (s.inj d b cb _ _ hd hb) hne
      · cases hd
        split at hc'
        · cases hc'
        · rename_i hne; exact absurd (s.inj c b cb _ _ hc' hb) hne
      · split at hc'
        · cases hc'
        · split at hd
          · cases hd
          · exact s.inj c d cc _ _ hc' hd
    · intro c k' cc r' hk' hc'
      rw [bl] at hk'
      simp only [φ'] at hc'
      split at hk'
      · rename_i hcn
        rw [if_pos hcn] at hc'
        cases hc'
        cases hk'
        refine ⟨arr', (0, 0), ?_, fun _ => rfl, hlen, hsz, fun i v hv => let ⟨v', h5, h6⟩ := hc i v hv; ⟨v', h5, vrx _ _ h6⟩⟩
        rw [hrow, h2 hro]
      · rename_i hcn
        rw [if_neg hcn] at hc'
        split at hk'
        · cases hk'
        · rename_i hcb'
          rw [if_neg hcb'] at hc'
          obtain ⟨arr0, fz0, g1, g2, g3, g3', g4⟩ := s.cells c k' cc r' hk' hc'
          refine ⟨arr0, fz0, ?_, g2, g3, g3', fun i v hv => let ⟨v', h5, h6⟩ := g4 i v hv; ⟨v', h5, vrx _ _ h6⟩⟩
          rw [hother cc (fun e => hcb' (s.inj c b cb r' r (e ▸ hc') hb))]
          exact g1
  · intro c hc' k' hk'
    rw [bl, if_neg (by omega)] at hk'
    split at hk'
    · cases hk'
    · exact ⟨k', hk', rfl, rfl, rfl⟩
  · intro c hc' hk'
    rw [bl, if_neg (by omega)] at hk'
    simp only [φ']
    rw [if_neg (by omega)]
    split at hk'
    · exact absurd rfl hk'
    · simp [*]
  · intro c hc' hk'
    rw [bl] at hk'
    simp only [φ']
    split at hk'
    · simp [*]
    · split at hk'
      · exact absurd rfl hk'
      · exact absurd (s.wf c hk') (by omega)
  · intro c cc r' hc' h
    simp only [φ'] at h
    split at h
    · cases h
      refine .inr ⟨b, k, r, hbn, hb, hk, hro, ?_⟩
      rw [bl, if_neg (by omega), if_pos rfl]
    · split at h
      · cases h
      · exact absurd (s.wf c (s.live c _ h)) (by omega)
  · intro c hc' h
    refine hother c (fun e => ?_)
    subst e
    have := h b k r hb hk
    rw [hro] at this
    cases this

/-- A block's name given up. -/
theorem Sim.kill {φ H w b k} (s : Sim φ H w) (hk : H.blk b = some k) : Ext φ H w (fun c => if c = b then none else φ c) (H.setBlk b none) w := by
  have hbn := s.wf b (by rw [hk]; simp)
  have arx : ∀ a a', AR φ H a a' → AR (fun c => if c = b then none else φ c) (H.setBlk b none) a a' := fun a a' h =>
    ⟨h.spot, h.spot', h.off, h.lt, fun k' hk' => by
      simp only [Heap.setBlk] at hk'
      split at hk'
      · cases hk'
      · rename_i hne
        simp only [if_neg hne]
        exact h.map k' hk'⟩
  have rrx : ∀ (a a' : Addr) (e c : Nat), AR φ H a a' → (∀ k, H.blk a.block = some k → e % 2 = 1 → ∃ r, φ a.block = some (a'.block, r) ∧ a.off + c * k.esz ≤ r) →
      ∀ k', (H.setBlk b none).blk a.block = some k' → e % 2 = 1 → ∃ r, (fun c => if c = b then none else φ c) a.block = some (a'.block, r) ∧ a.off + c * k'.esz ≤ r := fun a a' e c h hr k' hk' he => by
    simp only [Heap.setBlk] at hk'
    split at hk'
    · cases hk'
    · rename_i hne
      simp only [if_neg hne]
      exact hr k' hk' he
  have vrx : ∀ v v', VR φ H v v' → VR (fun c => if c = b then none else φ c) (H.setBlk b none) v v' := fun v v' h => by
    induction h with
    | junk v => exact .junk v
    | bool b => exact .bool b
    | int k n => exact .int k n
    | string s => exact .string s
    | pnil => exact .pnil
    | ptr h => exact .ptr (arx _ _ h)
    | snil => exact .snil
    | emp a c => exact .emp a c
    | slice h hc hr => exact .slice (arx _ _ h) hc (rrx _ _ _ _ h hr)
    | func f xs ys xs' ys' hx hy _ _ rx ry => exact .func f xs ys xs' ys' hx hy rx ry
    | nilFunc => exact .nilFunc
    | nilIface => exact .nilIface
    | agg xs xs' hx _ rx => exact .agg xs xs' hx rx
    | tuple xs xs' hx _ rx => exact .tuple xs xs' hx rx
  refine { sim := { wf := ?_, live := ?_, inj := ?_, cells := ?_ }, next := Nat.le_refl _, back := ?_, agree := ?_, mapped := ?_, fresh := ?_, frame := fun _ _ _ => rfl, size := Nat.le_refl _, os := rfl, tape := rfl, output := rfl }
  · intro c hc
    simp only [Heap.setBlk] at hc ⊢
    split at hc
    · exact absurd rfl hc
    · exact s.wf c hc
  · intro c x h
    simp only [Heap.setBlk] at h ⊢
    split at h
    · cases h
    · simp only [*, if_false]; exact s.live c x h
  · intro c d cc r r' h1 h2
    split at h1
    · cases h1
    · split at h2
      · cases h2
      · exact s.inj c d cc r r' h1 h2
  · intro c k' cc r hk' h
    simp only [Heap.setBlk] at hk' h
    split at hk'
    · cases hk'
    · rename_i hne
      simp only [if_neg hne] at h
      obtain ⟨arr, fz, g1, g2, g3, g4, g5⟩ := s.cells c k' cc r hk' h
      exact ⟨arr, fz, g1, g2, g3, g4, fun i v hv => let ⟨v', h5, h6⟩ := g5 i v hv; ⟨v', h5, vrx _ _ h6⟩⟩
  · intro c hc k' hk'
    simp only [Heap.setBlk] at hk'
    split at hk'
    · cases hk'
    · exact ⟨k', hk', rfl, rfl, rfl⟩
  · intro c hc h
    simp only [Heap.setBlk] at h
    split at h
    · exact absurd rfl h
    · simp only [*, if_false]
  · intro c hc h
    simp only [Heap.setBlk] at h
    split at h
    · exact absurd rfl h
    · exact absurd (s.wf c h) (by omega)
  · intro c cc r hc h
    split at h
    · cases h
    · exact absurd (s.wf c (s.live c _ h)) (by omega)

end Go.Ab
