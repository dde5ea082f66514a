/- The abstract heap: blocks of cells without addresses of their own, and the relation that holds between it and a world of the model. -/
import Derived.Calls
import Derived.Below
import Derived.KernelRfl
import Derived.Laws.CopyRow
import Derived.DeepKeys
import Derived.Laws.BytesString
namespace Go.Ab

/-- A value of which nothing is known. -/
abbrev junk : Value := .chan none

/-- A block: what it holds, its elements' type and their size in cells, whether it is never written. -/
structure Blk where
  cells : List Value
  ty : TypeId
  esz : Nat
  ro : Bool

structure Heap where
  blk : Nat → Option Blk
  next : Nat

/-- Where a block lies in the world, and how many cells it has there. -/
abbrev Phi := Nat → Option (Nat × Nat)

/-- Addresses that stand for each other. -/
structure AR (φ : Phi) (H : Heap) (a a' : Addr) : Prop where
  spot : a.spot = none
  spot' : a'.spot = none
  off : a'.off = a.off
  lt : a.block < H.next
  map : ∀ k, H.blk a.block = some k → ∃ r, φ a.block = some (a'.block, r)

/-- A capacity: an even number is twice the exact one, an odd number tells the least one. -/
def CR (e c : Nat) : Prop := if e % 2 = 0 then c = e / 2 else e / 2 ≤ c

inductive VR (φ : Phi) (H : Heap) : Value → Value → Prop
  | junk (v : Value) : VR φ H (.chan none) v
  | bool (b : Bool) : VR φ H (.bool b) (.bool b)
  | int (k : IntKind) (n : Int) : VR φ H (.int k n) (.int k n)
  | string (s : ByteArray) : VR φ H (.string s) (.string s)
  | pnil : VR φ H (.pointer none) (.pointer none)
  | ptr {a a' : Addr} (h : AR φ H a a') : VR φ H (.pointer (some a)) (.pointer (some a'))
  | snil : VR φ H (.slice none 0 0) (.slice none 0 0)
  | emp (a' : Addr) (c : Nat) : VR φ H (.slice none 0 1) (.slice (some a') 0 c)
  | slice {a a' : Addr} {n e c : Nat} (h : AR φ H a a') (hc : CR e c)
      (hr : ∀ k, H.blk a.block = some k → e % 2 = 1 → ∃ r, φ a.block = some (a'.block, r) ∧ a.off + c * k.esz ≤ r) : VR φ H (.slice (some a) n e) (.slice (some a') n c)
  | func (f : FuncId) (xs ys xs' ys' : Array Value) (hx : xs.size = xs'.size) (hy : ys.size = ys'.size)
      (rx : ∀ i (h : i < xs.size) (h' : i < xs'.size), VR φ H xs[i] xs'[i])
      (ry : ∀ i (h : i < ys.size) (h' : i < ys'.size), VR φ H ys[i] ys'[i]) :
      VR φ H (.func (.func f) xs ys) (.func (.func f) xs' ys')
  | nilFunc : VR φ H .nilFunc .nilFunc
  | nilIface : VR φ H .nilIface .nilIface
  | iface (t : TypeId) (v v' : Value) (h : VR φ H v v') : VR φ H (.iface t v) (.iface t v')
  | agg (xs xs' : Array Value) (hx : xs.size = xs'.size)
      (rx : ∀ i (h : i < xs.size) (h' : i < xs'.size), VR φ H xs[i] xs'[i]) : VR φ H (.agg xs) (.agg xs')
  | tuple (xs xs' : Array Value) (hx : xs.size = xs'.size)
      (rx : ∀ i (h : i < xs.size) (h' : i < xs'.size), VR φ H xs[i] xs'[i]) : VR φ H (.tuple xs) (.tuple xs')

/-- What a block of the abstract heap says of a block of the world. -/
def CellsOK (φ : Phi) (H : Heap) (w : World) (k : Blk) (cb r : Nat) : Prop :=
  ∃ (arr : Array Value) (fz : Nat × Nat), w.heap[cb]? = some (.cells arr k.ty fz) ∧ (k.ro = false → fz = (0, 0)) ∧ k.cells.length ≤ arr.size ∧ arr.size = r ∧
    ∀ (i : Nat) (v : Value), k.cells[i]? = some v → ∃ v', arr[i]? = some v' ∧ VR φ H v v'

structure Sim (φ : Phi) (H : Heap) (w : World) : Prop where
  wf : ∀ b, H.blk b ≠ none → b < H.next
  live : ∀ b x, φ b = some x → H.blk b ≠ none
  inj : ∀ b c cb r r', φ b = some (cb, r) → φ c = some (cb, r') → b = c
  cells : ∀ b k cb r, H.blk b = some k → φ b = some (cb, r) → CellsOK φ H w k cb r
  big : 4096 ≤ H.next
  glob : ∀ b k, b < 4096 → H.blk b = some k → k.ro = true ∧ φ b = some (b, k.cells.length)

structure Ext (φ : Phi) (H : Heap) (w : World) (φ' : Phi) (H' : Heap) (w' : World) : Prop where
  sim : Sim φ' H' w'
  next : H.next ≤ H'.next
  back : ∀ b, b < H.next → ∀ k', H'.blk b = some k' → ∃ k, H.blk b = some k ∧ k'.ro = k.ro ∧ k'.ty = k.ty ∧ k'.esz = k.esz
  agree : ∀ b, b < H.next → H'.blk b ≠ none → φ' b = φ b
  mapped : ∀ b, H.next ≤ b → H'.blk b ≠ none → φ' b ≠ none
  fresh : ∀ b cb r, H.next ≤ b → φ' b = some (cb, r) →
    w.heap.size ≤ cb ∨ ∃ b0 k0 r0, b0 < H.next ∧ φ b0 = some (cb, r0) ∧ H.blk b0 = some k0 ∧ k0.ro = false ∧ H'.blk b0 = none
  frame : ∀ cb, cb < w.heap.size → (∀ b k r, φ b = some (cb, r) → H.blk b = some k → k.ro = true) → w'.heap[cb]? = w.heap[cb]?
  size : w.heap.size ≤ w'.heap.size
  os : w'.os = w.os
  tape : w'.tape = w.tape
  output : w'.output = w.output

theorem AR.ext {φ φ' H H' w w' a a'} (h : AR φ H a a') (x : Ext φ H w φ' H' w') : AR φ' H' a a' where
  spot := h.spot
  spot' := h.spot'
  off := h.off
  lt := Nat.lt_of_lt_of_le h.lt x.next
  map := fun k' hk' => by
    obtain ⟨k, hk, _⟩ := x.back _ h.lt k' hk'
    rw [x.agree _ h.lt (by rw [hk']; simp)]
    exact h.map k hk

theorem VR.ext {φ φ' H H' w w' v v'} (h : VR φ H v v') (x : Ext φ H w φ' H' w') : VR φ' H' v v' := by
  induction h with
  | junk v => exact .junk v
  | bool b => exact .bool b
  | int k n => exact .int k n
  | string s => exact .string s
  | pnil => exact .pnil
  | ptr h => exact .ptr (h.ext x)
  | snil => exact .snil
  | emp a c => exact .emp a c
  | slice h hc hr =>
    exact .slice (h.ext x) hc fun k' hk' he => by
      obtain ⟨k, hk, _, _, e⟩ := x.back _ h.lt k' hk'
      rw [x.agree _ h.lt (by rw [hk']; simp), e]
      exact hr k hk he
  | func f xs ys xs' ys' hx hy _ _ rx ry => exact .func f xs ys xs' ys' hx hy rx ry
  | nilFunc => exact .nilFunc
  | nilIface => exact .nilIface
  | iface t v v' _ ih => exact .iface t v v' ih
  | agg xs xs' hx _ rx => exact .agg xs xs' hx rx
  | tuple xs xs' hx _ rx => exact .tuple xs xs' hx rx

theorem Ext.refl {φ H w} (s : Sim φ H w) : Ext φ H w φ H w where
  sim := s
  next := Nat.le_refl _
  back := fun _ _ k' h => ⟨k', h, rfl, rfl, rfl⟩
  agree := fun _ _ _ => rfl
  mapped := fun b hb hk => absurd (s.wf b hk) (by omega)
  fresh := fun b cb r hb h => absurd (s.wf b (s.live b _ h)) (by omega)
  frame := fun _ _ _ => rfl
  size := Nat.le_refl _
  os := rfl
  tape := rfl
  output := rfl

theorem Ext.trans {φ H w φ' H' w' φ'' H'' w''} (x : Ext φ H w φ' H' w') (y : Ext φ' H' w' φ'' H'' w'') : Ext φ H w φ'' H'' w'' where
  sim := y.sim
  next := Nat.le_trans x.next y.next
  back := fun b hb k'' h'' => by
    obtain ⟨k', h', r', t', e'⟩ := y.back b (Nat.lt_of_lt_of_le hb x.next) k'' h''
    obtain ⟨k, h, r, t, e⟩ := x.back b hb k' h'
    exact ⟨k, h, r'.trans r, t'.trans t, e'.trans e⟩
  agree := fun b hb h'' => by
    have hb' := Nat.lt_of_lt_of_le hb x.next
    have h' : H'.blk b ≠ none := by
      obtain ⟨k'', hk''⟩ := Option.ne_none_iff_exists'.1 h''
      obtain ⟨k', h', _⟩ := y.back b hb' k'' hk''
      rw [h']; simp
    rw [y.agree b hb' h'', x.agree b hb h']
  mapped := fun b hb h'' => by
    by_cases hb' : H'.next ≤ b
    · exact y.mapped b hb' h''
    · have hb' : b < H'.next := by omega
      obtain ⟨k'', hk''⟩ := Option.ne_none_iff_exists'.1 h''
      obtain ⟨k', h', _⟩ := y.back b hb' k'' hk''
      rw [y.agree b hb' h'']
      exact x.mapped b hb (by rw [h']; simp)
  fresh := fun b cb r hb h'' => by
    have dead : ∀ b0, b0 < H.next → H'.blk b0 = none → H''.blk b0 = none := fun b0 hb0 h0 => by
      cases hk : H''.blk b0 with
      | none => rfl
      | some k'' =>
        obtain ⟨k', h', _⟩ := y.back b0 (Nat.lt_of_lt_of_le hb0 x.next) k'' hk
        rw [h0] at h'; cases h'
    have one : ∀ b r, H.next ≤ b → φ' b = some (cb, r) →
        w.heap.size ≤ cb ∨ ∃ b0 k0 r0, b0 < H.next ∧ φ b0 = some (cb, r0) ∧ H.blk b0 = some k0 ∧ k0.ro = false ∧ H''.blk b0 = none := fun b r hb h' => by
      rcases x.fresh b cb r hb h' with h | ⟨b0, k0, r0, h1, h2, h3, h4, h5⟩
      · exact .inl h
      · exact .inr ⟨b0, k0, r0, h1, h2, h3, h4, dead b0 h1 h5⟩
    by_cases hb' : H'.next ≤ b
    · rcases y.fresh b cb r hb' h'' with h | ⟨b0, k0, r0, h1, h2, h3, h4, h5⟩
      · exact .inl (Nat.le_trans x.size h)
      · by_cases h0 : b0 < H.next
        · obtain ⟨k, hk, hr, _⟩ := x.back b0 h0 k0 h3
          exact .inr ⟨b0, k, r0, h0, by rw [← x.agree b0 h0 (by rw [h3]; simp)]; exact h2, hk, by rw [← hr]; exact h4, h5⟩
        · exact one b0 r0 (by omega) h2
    · have hb' : b < H'.next := by omega
      rw [y.agree b hb' (y.sim.live b _ h'')] at h''
      exact one b r hb h''
  frame := fun cb hcb hro => by
    rw [y.frame cb (Nat.lt_of_lt_of_le hcb x.size) ?_, x.frame cb hcb hro]
    intro b k' r hb hk'
    by_cases hb0 : b < H.next
    · obtain ⟨k, hk, hr, _⟩ := x.back b hb0 k' hk'
      rw [hr]
      exact hro b k r (by rw [← x.agree b hb0 (by rw [hk']; simp)]; exact hb) hk
    · rcases x.fresh b cb r (by omega) hb with h | ⟨b0, k0, r0, h1, h2, h3, h4, h5⟩
      · omega
      · rw [hro b0 k0 r0 h2 h3] at h4; cases h4
  size := Nat.le_trans x.size y.size
  os := y.os.trans x.os
  tape := y.tape.trans x.tape
  output := y.output.trans x.output

/-- A draw alone changes nothing that is told. -/
theorem Sim.drawn {φ H} {w : World} (s : Sim φ H w) (d : Nat) : Sim φ H { w with drawn := d } where
  wf := s.wf
  live := s.live
  inj := s.inj
  cells := s.cells
  big := s.big
  glob := s.glob

theorem Ext.drawn {φ H w φ' H' w'} (x : Ext φ H w φ' H' w') (d : Nat) : Ext φ H w φ' H' { w' with drawn := d } where
  sim := x.sim.drawn d
  next := x.next
  back := x.back
  agree := x.agree
  mapped := x.mapped
  fresh := x.fresh
  frame := x.frame
  size := x.size
  os := x.os
  tape := x.tape
  output := x.output

/-! ### The heap's own words -/

def Heap.get (H : Heap) (a : Addr) : Option Value := (H.blk a.block).bind fun k => k.cells[a.off]?

def Heap.alloc (H : Heap) (cells : List Value) (ty : TypeId) (esz : Nat) : Heap where
  blk := fun b => if b = H.next then some { cells, ty, esz, ro := false } else H.blk b
  next := H.next + 1

def Heap.setBlk (H : Heap) (b : Nat) (k : Option Blk) : Heap where
  blk := fun c => if c = b then k else H.blk c
  next := H.next

/-- Values that one cell holds. -/
def isCell : Value → Bool
  | .bool _ | .int _ _ | .string _ | .pointer _ | .slice _ _ _ | .func _ _ _ | .nilFunc | .nilIface => true
  | _ => false

/-- What one cell holds, put in place. -/
def Heap.set (H : Heap) (a : Addr) (v : Value) : Option Heap :=
  match H.blk a.block with
  | some k => if isCell v && !k.ro && decide (a.off < k.cells.length) then some (H.setBlk a.block (some { k with cells := k.cells.set a.off v })) else none
  | none => none

/-- n cells from an address on. -/
def Heap.getN (H : Heap) (a : Addr) (n : Nat) : Option (List Value) :=
  (H.blk a.block).bind fun k => if a.off + n ≤ k.cells.length then some ((k.cells.drop a.off).take n) else none

/-- Cells put in place from an address on. -/
def Heap.setN (H : Heap) (a : Addr) (vs : List Value) : Option Heap :=
  match H.blk a.block with
  | some k => if vs.all isCell && !k.ro && decide (a.off + vs.length ≤ k.cells.length) then
      some (H.setBlk a.block (some { k with cells := k.cells.take a.off ++ vs ++ k.cells.drop (a.off + vs.length) })) else none
  | none => none

theorem Sim.get {φ H w a a' v} (s : Sim φ H w) (h : AR φ H a a') (hg : H.get a = some v) : ∃ v', w.cell? a' = some v' ∧ VR φ H v v' := by
  unfold Heap.get at hg
  cases hk : H.blk a.block with
  | none => rw [hk] at hg; cases hg
  | some k =>
    rw [hk] at hg
    obtain ⟨r, hr⟩ := h.map k hk
    obtain ⟨arr, fz, h1, _, _, _, h4⟩ := s.cells _ k _ r hk hr
    obtain ⟨v', h5, h6⟩ := h4 _ v hg
    refine ⟨v', ?_, h6⟩
    simp only [World.cell?, h1, h.spot', h.off]
    exact h5

theorem AR.add {φ H a a'} (h : AR φ H a a') (n : Nat) : AR φ H (a.add n) (a'.add n) := by
  unfold Addr.add
  split
  · exact h
  · exact ⟨rfl, rfl, by simp [h.off], h.lt, h.map⟩

theorem add_block (a : Addr) (n : Nat) : (a.add n).block = a.block := by unfold Addr.add; split <;> rfl
theorem add_off (a : Addr) (n : Nat) : (a.add n).off = a.off + n := by unfold Addr.add; split <;> simp_all

theorem Sim.getN {φ H w a a' n vs} (s : Sim φ H w) (h : AR φ H a a') (hg : H.getN a n = some vs) :
    ∃ vs' : List Value, vs'.length = n ∧ vs.length = n ∧ (∀ i v, vs'[i]? = some v → w.cell? (a'.add i) = some v) ∧
      ∀ (i : Nat) (v v' : Value), vs[i]? = some v → vs'[i]? = some v' → VR φ H v v' := by
  unfold Heap.getN at hg
  cases hk : H.blk a.block with
  | none => rw [hk] at hg; cases hg
  | some k =>
    rw [hk] at hg
    simp only [Option.bind_some] at hg
    split at hg
    · rename_i hle
      cases hg
      obtain ⟨r, hr⟩ := h.map k hk
      obtain ⟨arr, fz, h1, _, h3, _, h4⟩ := s.cells _ k _ r hk hr
      refine ⟨(arr.toList.drop a.off).take n, ?_, ?_, ?_, ?_⟩
      · simp; omega
      · simp; omega
      · intro i v hv
        rw [List.getElem?_take] at hv
        split at hv
        · rw [List.getElem?_drop] at hv
          simp only [World.cell?, add_block, add_off, h1, h.off]
          have hsp : (a'.add i).spot.isSome = false := by unfold Addr.add; split <;> simp [h.spot']
          rw [hsp]
          simpa using hv
        · cases hv
      · intro i v v' hv hv'
        rw [List.getElem?_take] at hv hv'
        split at hv
        · rename_i hi
          rw [if_pos hi] at hv'
          rw [List.getElem?_drop] at hv hv'
          obtain ⟨u, h5, h6⟩ := h4 _ v hv
          have : some u = some v' := by rw [← h5, ← hv']; simp
          cases this
          exact h6
        · cases hv
    · cases hg

theorem Sim.lt {φ H w b cb r} (s : Sim φ H w) (h : φ b = some (cb, r)) : cb < w.heap.size := by
  obtain ⟨k, hk⟩ := Option.ne_none_iff_exists'.1 (s.live b _ h)
  obtain ⟨arr, fz, h1, _⟩ := s.cells b k cb r hk h
  exact (Array.getElem?_eq_some_iff.1 h1).1

/-- A new block. -/
theorem Sim.alloc {φ H w} (s : Sim φ H w) (cells : List Value) (arr : Array Value) (ty : TypeId) (esz : Nat) (hlen : cells.length ≤ arr.size)
    (hc : ∀ (i : Nat) (v : Value), cells[i]? = some v → ∃ v', arr[i]? = some v' ∧ VR φ H v v') :
    ∃ φ' : Phi, φ' H.next = some (w.heap.size, arr.size) ∧ Ext φ H w φ' (H.alloc cells ty esz) { w with heap := w.heap.push (.cells arr ty) } := by
  let φ' : Phi := fun b => if b = H.next then some (w.heap.size, arr.size) else φ b
  have hnew : H.blk H.next = none := by
    cases h : H.blk H.next with
    | none => rfl
    | some k => exact absurd (s.wf H.next (by rw [h]; simp)) (by omega)
  have old : ∀ b, b < H.next → φ' b = φ b ∧ (H.alloc cells ty esz).blk b = H.blk b := fun b hb => by
    simp only [φ', Heap.alloc]
    rw [if_neg (by omega), if_neg (by omega)]
    exact ⟨rfl, rfl⟩
  have arx : ∀ a a', AR φ H a a' → AR φ' (H.alloc cells ty esz) a a' := fun a a' h =>
    ⟨h.spot, h.spot', h.off, by have := h.lt; simp only [Heap.alloc]; omega, fun k hk => by
      rw [(old _ h.lt).2] at hk; rw [(old _ h.lt).1]; exact h.map k hk⟩
  have rrx : ∀ (a a' : Addr) (e c : Nat), AR φ H a a' → (∀ k, H.blk a.block = some k → e % 2 = 1 → ∃ r, φ a.block = some (a'.block, r) ∧ a.off + c * k.esz ≤ r) →
      ∀ k, (H.alloc cells ty esz).blk a.block = some k → e % 2 = 1 → ∃ r, φ' a.block = some (a'.block, r) ∧ a.off + c * k.esz ≤ r := fun a a' e c h hr k hk he => by
    rw [(old _ h.lt).2] at hk; rw [(old _ h.lt).1]; exact hr k hk he
  have vrx : ∀ v v', VR φ H v v' → VR φ' (H.alloc cells ty esz) v v' := fun v v' h => by
    induction h with
    | junk v => exact .junk v
    | bool b => exact .bool b
    | int k n => exact .int k n
    | string s => exact .string s
    | pnil => exact .pnil
    | ptr h => exact .ptr (arx _ _ h)
    | snil => exact .snil
    | emp a c => exact .emp a c
    | slice h hc hr => exact .slice (arx _ _ h) hc (rrx _ _ _ _ h hr)
    | func f xs ys xs' ys' hx hy _ _ rx ry => exact .func f xs ys xs' ys' hx hy rx ry
    | nilFunc => exact .nilFunc
    | nilIface => exact .nilIface
    | iface t v v' _ ih => exact .iface t v v' ih
    | agg xs xs' hx _ rx => exact .agg xs xs' hx rx
    | tuple xs xs' hx _ rx => exact .tuple xs xs' hx rx
  refine ⟨φ', by simp [φ'], ?_⟩
  refine { sim := ?_, next := by simp [Heap.alloc], back := ?_, agree := ?_, mapped := ?_, fresh := ?_, frame := ?_, size := by simp, os := rfl, tape := rfl, output := rfl }
  · refine { wf := ?_, live := ?_, inj := ?_, cells := ?_, big := by have := s.big; simp only [Heap.alloc]; omega, glob := fun b k hb hk => ?_ }
    rotate_left 4
    · have hn := s.big
      rw [(old b (by omega)).2] at hk; rw [(old b (by omega)).1]; exact s.glob b k hb hk
    · intro b hb
      by_cases h : b = H.next
      · subst h; simp [Heap.alloc]
      · simp only [Heap.alloc, if_neg h] at hb ⊢
        have := s.wf b hb
        omega
    · intro b x hb
      by_cases h : b = H.next
      · subst h; simp [Heap.alloc]
      · simp only [φ', if_neg h] at hb
        simp only [Heap.alloc, if_neg h]
        exact s.live b x hb
    · intro b c cb r r' hb hc'
      by_cases h : b = H.next <;> by_cases h' : c = H.next
      · rw [h, h']
      · simp only [φ', if_pos h, if_neg h'] at hb hc'
        cases hb
        exact absurd (s.lt hc') (by omega)
      · simp only [φ', if_neg h, if_pos h'] at hb hc'
        cases hc'
        exact absurd (s.lt hb) (by omega)
      · simp only [φ', if_neg h, if_neg h'] at hb hc'
        exact s.inj b c cb r r' hb hc'
    · intro b k cb r hk hb
      by_cases h : b = H.next
      · subst h
        simp only [φ', if_true] at hb
        simp only [Heap.alloc, if_true] at hk
        cases hb
        cases hk
        refine ⟨arr, (0, 0), by simp, fun _ => rfl, hlen, rfl, fun i v hv => ?_⟩
        obtain ⟨v', h1, h2⟩ := hc i v hv
        exact ⟨v', h1, vrx _ _ h2⟩
      · simp only [φ', if_neg h] at hb
        simp only [Heap.alloc, if_neg h] at hk
        have hlt := s.lt hb
        obtain ⟨arr', fz, h1, h2, h3, h3', h4⟩ := s.cells b k cb r hk hb
        refine ⟨arr', fz, ?_, h2, h3, h3', fun i v hv => ?_⟩
        · rw [Array.getElem?_push, if_neg (by omega)]; exact h1
        · obtain ⟨v', h5, h6⟩ := h4 i v hv
          exact ⟨v', h5, vrx _ _ h6⟩
  · intro b hb k' hk'
    rw [(old b hb).2] at hk'
    exact ⟨k', hk', rfl, rfl, rfl⟩
  · intro b hb _
    exact (old b hb).1
  · intro b hb hk
    by_cases h : b = H.next
    · subst h; simp [φ']
    · simp only [Heap.alloc, if_neg h] at hk
      exact absurd (s.wf b hk) (by omega)
  · intro b cb r hb h'
    by_cases h : b = H.next
    · subst h
      simp only [φ', if_true] at h'
      cases h'
      exact .inl (Nat.le_refl _)
    · simp only [φ', if_neg h] at h'
      exact absurd (s.wf b (s.live b _ h')) (by omega)
  · intro cb hcb _
    simp only []
    rw [Array.getElem?_push, if_neg (by omega)]

/-- Cells of a block put in place. -/
theorem Sim.write {φ H w b k cb r} (s : Sim φ H w) (hk : H.blk b = some k) (hb : φ b = some (cb, r)) (hro : k.ro = false) (cells' : List Value) (arr' : Array Value)
    (hlen : cells'.length ≤ arr'.size) (hsz : arr'.size = r) (hc : ∀ (i : Nat) (v : Value), cells'[i]? = some v → ∃ v', arr'[i]? = some v' ∧ VR φ H v v') :
    Ext φ H w φ (H.setBlk b (some { k with cells := cells' })) (w.setRow cb arr') := by
  have hbn := s.wf b (by rw [hk]; simp)
  obtain ⟨arr, fz, h1, h2, h3, h3', h4⟩ := s.cells b k cb r hk hb
  have hcb := s.lt hb
  have dead : ∀ c, (H.setBlk b (some { k with cells := cells' })).blk c ≠ none ↔ H.blk c ≠ none := fun c => by
    by_cases h : c = b
    · subst h; simp [Heap.setBlk, hk]
    · simp [Heap.setBlk, h]
  have arx : ∀ a a', AR φ H a a' → AR φ (H.setBlk b (some { k with cells := cells' })) a a' := fun a a' h =>
    ⟨h.spot, h.spot', h.off, h.lt, fun k' hk' => by
      have : H.blk a.block ≠ none := (dead _).1 (by rw [hk']; simp)
      obtain ⟨k0, hk0⟩ := Option.ne_none_iff_exists'.1 this
      exact h.map k0 hk0⟩
  have rrx : ∀ (a a' : Addr) (e c : Nat), AR φ H a a' → (∀ k, H.blk a.block = some k → e % 2 = 1 → ∃ r, φ a.block = some (a'.block, r) ∧ a.off + c * k.esz ≤ r) →
      ∀ k', (H.setBlk b (some { k with cells := cells' })).blk a.block = some k' → e % 2 = 1 → ∃ r, φ a.block = some (a'.block, r) ∧ a.off + c * k'.esz ≤ r := fun a a' e c h hr k' hk' he => by
    by_cases hab : a.block = b
    · simp only [Heap.setBlk, if_pos hab] at hk'
      cases hk'
      exact hr k (by rw [hab]; exact hk) he
    · simp only [Heap.setBlk, if_neg hab] at hk'
      exact hr k' hk' he
  have vrx : ∀ v v', VR φ H v v' → VR φ (H.setBlk b (some { k with cells := cells' })) v v' := fun v v' h => by
    induction h with
    | junk v => exact .junk v
    | bool b => exact .bool b
    | int k n => exact .int k n
    | string s => exact .string s
    | pnil => exact .pnil
    | ptr h => exact .ptr (arx _ _ h)
    | snil => exact .snil
    | emp a c => exact .emp a c
    | slice h hc hr => exact .slice (arx _ _ h) hc (rrx _ _ _ _ h hr)
    | func f xs ys xs' ys' hx hy _ _ rx ry => exact .func f xs ys xs' ys' hx hy rx ry
    | nilFunc => exact .nilFunc
    | nilIface => exact .nilIface
    | iface t v v' _ ih => exact .iface t v v' ih
    | agg xs xs' hx _ rx => exact .agg xs xs' hx rx
    | tuple xs xs' hx _ rx => exact .tuple xs xs' hx rx
  have hrow : (w.setRow cb arr').heap[cb]? = some (.cells arr' k.ty fz) := setRow_heap w cb arr arr' k.ty fz h1
  have hother : ∀ c, c ≠ cb → (w.setRow cb arr').heap[c]? = w.heap[c]? := fun c h => by
    simp [World.setRow, Array.getElem?_modify, Ne.symm h]
  refine { sim := ?_, next := Nat.le_refl _, back := ?_, agree := fun _ _ _ => rfl, mapped := ?_, fresh := ?_, frame := ?_, size := by simp [World.setRow], os := rfl, tape := rfl, output := rfl }
  · refine { wf := fun c hc' => s.wf c ((dead c).1 hc'), live := fun c cc h => (dead c).2 (s.live c cc h), inj := s.inj, cells := ?_, big := s.big, glob := fun c k' hc' hk' => ?_ }
    rotate_left 1
    · by_cases h : c = b
      · subst h; rw [(s.glob c k hc' hk).1] at hro; cases hro
      · simp only [Heap.setBlk, if_neg h] at hk'; exact s.glob c k' hc' hk'
    intro c k' cc r' hk' hc'
    by_cases h : c = b
    · subst h
      simp only [Heap.setBlk, if_true] at hk'
      rw [hb] at hc'
      cases hc'
      cases hk'
      exact ⟨arr', fz, hrow, h2, hlen, hsz, fun i v hv => let ⟨v', h5, h6⟩ := hc i v hv; ⟨v', h5, vrx _ _ h6⟩⟩
    · simp only [Heap.setBlk, if_neg h] at hk'
      obtain ⟨arr0, fz0, g1, g2, g3, g3', g4⟩ := s.cells c k' cc r' hk' hc'
      refine ⟨arr0, fz0, ?_, g2, g3, g3', fun i v hv => let ⟨v', h5, h6⟩ := g4 i v hv; ⟨v', h5, vrx _ _ h6⟩⟩
      rw [hother cc (fun e => h (s.inj c b cb r' r (e ▸ hc') hb))]
      exact g1
  · intro c hc' k' hk'
    by_cases h : c = b
    · subst h
      simp only [Heap.setBlk, if_true] at hk'
      cases hk'
      exact ⟨k, hk, rfl, rfl, rfl⟩
    · simp only [Heap.setBlk, if_neg h] at hk'
      exact ⟨k', hk', rfl, rfl, rfl⟩
  · intro c hc' h
    exact absurd (s.wf c ((dead c).1 h)) (by omega)
  · intro c cc r' hc' h
    exact absurd (s.wf c (s.live c _ h)) (by omega)
  · intro c hc' h
    refine hother c (fun e => ?_)
    subst e
    have := h b k r hb hk
    rw [hro] at this
    cases this

/-- A block whose name is given up: its world's block is another block's from now on. -/
theorem Sim.move {φ H w b k cb r} (s : Sim φ H w) (hk : H.blk b = some k) (hb : φ b = some (cb, r)) (hro : k.ro = false) (cells' : List Value) (arr' : Array Value)
    (hlen : cells'.length ≤ arr'.size) (hsz : arr'.size = r) (hc : ∀ (i : Nat) (v : Value), cells'[i]? = some v → ∃ v', arr'[i]? = some v' ∧ VR φ H v v') :
    ∃ φ' : Phi, φ' H.next = some (cb, r) ∧ Ext φ H w φ' ((H.setBlk b none).alloc cells' k.ty k.esz) (w.setRow cb arr') := by
  have hbn := s.wf b (by rw [hk]; simp)
  obtain ⟨arr, fz, h1, h2, h3, h3', h4⟩ := s.cells b k cb r hk hb
  have hcb := s.lt hb
  let φ' : Phi := fun c => if c = H.next then some (cb, r) else if c = b then none else φ c
  have hnew : H.blk H.next = none := by
    cases h : H.blk H.next with
    | none => rfl
    | some k => exact absurd (s.wf H.next (by rw [h]; simp)) (by omega)
  have bl : ∀ c, ((H.setBlk b none).alloc cells' k.ty k.esz).blk c = if c = H.next then some { cells := cells', ty := k.ty, esz := k.esz, ro := false } else if c = b then none else H.blk c := fun c => rfl
  have arx : ∀ a a', AR φ H a a' → AR φ' ((H.setBlk b none).alloc cells' k.ty k.esz) a a' := fun a a' h =>
    ⟨h.spot, h.spot', h.off, by have := h.lt; simp only [Heap.alloc, Heap.setBlk]; omega, fun k' hk' => by
      have hl := h.lt
      rw [bl, if_neg (by omega)] at hk'
      split at hk'
      · cases hk'
      · rename_i hne
        simp only [φ']
        rw [if_neg (by omega), if_neg hne]
        exact h.map k' hk'⟩
  have rrx : ∀ (a a' : Addr) (e c : Nat), AR φ H a a' → (∀ k, H.blk a.block = some k → e % 2 = 1 → ∃ r, φ a.block = some (a'.block, r) ∧ a.off + c * k.esz ≤ r) →
      ∀ k', ((H.setBlk b none).alloc cells' k.ty k.esz).blk a.block = some k' → e % 2 = 1 → ∃ r, φ' a.block = some (a'.block, r) ∧ a.off + c * k'.esz ≤ r := fun a a' e c h hr k' hk' he => by
    have hl := h.lt
    rw [bl, if_neg (by omega)] at hk'
    split at hk'
    · cases hk'
    · rename_i hne
      simp only [φ']
      rw [if_neg (by omega), if_neg hne]
      exact hr k' hk' he
  have vrx : ∀ v v', VR φ H v v' → VR φ' ((H.setBlk b none).alloc cells' k.ty k.esz) v v' := fun v v' h => by
    induction h with
    | junk v => exact .junk v
    | bool b => exact .bool b
    | int k n => exact .int k n
    | string s => exact .string s
    | pnil => exact .pnil
    | ptr h => exact .ptr (arx _ _ h)
    | snil => exact .snil
    | emp a c => exact .emp a c
    | slice h hc hr => exact .slice (arx _ _ h) hc (rrx _ _ _ _ h hr)
    | func f xs ys xs' ys' hx hy _ _ rx ry => exact .func f xs ys xs' ys' hx hy rx ry
    | nilFunc => exact .nilFunc
    | nilIface => exact .nilIface
    | iface t v v' _ ih => exact .iface t v v' ih
    | agg xs xs' hx _ rx => exact .agg xs xs' hx rx
    | tuple xs xs' hx _ rx => exact .tuple xs xs' hx rx
  have hrow : (w.setRow cb arr').heap[cb]? = some (.cells arr' k.ty fz) := setRow_heap w cb arr arr' k.ty fz h1
  have hother : ∀ c, c ≠ cb → (w.setRow cb arr').heap[c]? = w.heap[c]? := fun c h => by
    simp [World.setRow, Array.getElem?_modify, Ne.symm h]
  refine ⟨φ', by simp [φ'], ?_⟩
  refine { sim := ?_, next := by simp [Heap.alloc, Heap.setBlk], back := ?_, agree := ?_, mapped := ?_, fresh := ?_, frame := ?_, size := by simp [World.setRow], os := rfl, tape := rfl, output := rfl }
  · refine { wf := ?_, live := ?_, inj := ?_, cells := ?_, big := by have := s.big; simp only [Heap.alloc, Heap.setBlk]; omega, glob := fun c k' hc' hk' => ?_ }
    rotate_left 4
    · have hn := s.big
      rw [bl, if_neg (by omega)] at hk'
      simp only [φ']
      rw [if_neg (by omega)]
      split at hk'
      · cases hk'
      · rename_i hne
        rw [if_neg hne]
        exact s.glob c k' hc' hk'
    · intro c hc'
      rw [bl] at hc'
      simp only [Heap.alloc, Heap.setBlk]
      split at hc'
      · omega
      · split at hc'
        · exact absurd rfl hc'
        · have := s.wf c hc'; omega
    · intro c x h
      rw [bl]
      simp only [φ'] at h
      split at h
      · simp [*]
      · split at h
        · cases h
        · simp only [*, if_false]
          exact s.live c x h
    · intro c d cc r1 r2 hc' hd
      simp only [φ'] at hc' hd
      split at hc' <;> split at hd
      · simp [*]
      · cases hc'
        split at hd
        · cases hd
        · rename_i hne; exact absurd (s.inj d b cb _ _ hd hb) hne
      · cases hd
        split at hc'
        · cases hc'
        · rename_i hne; exact absurd (s.inj c b cb _ _ hc' hb) hne
      · split at hc'
        · cases hc'
        · split at hd
          · cases hd
          · exact s.inj c d cc _ _ hc' hd
    · intro c k' cc r' hk' hc'
      rw [bl] at hk'
      simp only [φ'] at hc'
      split at hk'
      · rename_i hcn
        rw [if_pos hcn] at hc'
        cases hc'
        cases hk'
        refine ⟨arr', (0, 0), ?_, fun _ => rfl, hlen, hsz, fun i v hv => let ⟨v', h5, h6⟩ := hc i v hv; ⟨v', h5, vrx _ _ h6⟩⟩
        rw [hrow, h2 hro]
      · rename_i hcn
        rw [if_neg hcn] at hc'
        split at hk'
        · cases hk'
        · rename_i hcb'
          rw [if_neg hcb'] at hc'
          obtain ⟨arr0, fz0, g1, g2, g3, g3', g4⟩ := s.cells c k' cc r' hk' hc'
          refine ⟨arr0, fz0, ?_, g2, g3, g3', fun i v hv => let ⟨v', h5, h6⟩ := g4 i v hv; ⟨v', h5, vrx _ _ h6⟩⟩
          rw [hother cc (fun e => hcb' (s.inj c b cb r' r (e ▸ hc') hb))]
          exact g1
  · intro c hc' k' hk'
    rw [bl, if_neg (by omega)] at hk'
    split at hk'
    · cases hk'
    · exact ⟨k', hk', rfl, rfl, rfl⟩
  · intro c hc' hk'
    rw [bl, if_neg (by omega)] at hk'
    simp only [φ']
    rw [if_neg (by omega)]
    split at hk'
    · exact absurd rfl hk'
    · simp [*]
  · intro c hc' hk'
    rw [bl] at hk'
    simp only [φ']
    split at hk'
    · simp [*]
    · split at hk'
      · exact absurd rfl hk'
      · exact absurd (s.wf c hk') (by omega)
  · intro c cc r' hc' h
    simp only [φ'] at h
    split at h
    · cases h
      refine .inr ⟨b, k, r, hbn, hb, hk, hro, ?_⟩
      rw [bl, if_neg (by omega), if_pos rfl]
    · split at h
      · cases h
      · exact absurd (s.wf c (s.live c _ h)) (by omega)
  · intro c hc' h
    refine hother c (fun e => ?_)
    subst e
    have := h b k r hb hk
    rw [hro] at this
    cases this

/-- A block's name given up. -/
theorem Sim.kill {φ H w b k} (s : Sim φ H w) (hk : H.blk b = some k) : Ext φ H w (fun c => if c = b then none else φ c) (H.setBlk b none) w := by
  have hbn := s.wf b (by rw [hk]; simp)
  have arx : ∀ a a', AR φ H a a' → AR (fun c => if c = b then none else φ c) (H.setBlk b none) a a' := fun a a' h =>
    ⟨h.spot, h.spot', h.off, h.lt, fun k' hk' => by
      simp only [Heap.setBlk] at hk'
      split at hk'
      · cases hk'
      · rename_i hne
        simp only [if_neg hne]
        exact h.map k' hk'⟩
  have rrx : ∀ (a a' : Addr) (e c : Nat), AR φ H a a' → (∀ k, H.blk a.block = some k → e % 2 = 1 → ∃ r, φ a.block = some (a'.block, r) ∧ a.off + c * k.esz ≤ r) →
      ∀ k', (H.setBlk b none).blk a.block = some k' → e % 2 = 1 → ∃ r, (fun c => if c = b then none else φ c) a.block = some (a'.block, r) ∧ a.off + c * k'.esz ≤ r := fun a a' e c h hr k' hk' he => by
    simp only [Heap.setBlk] at hk'
    split at hk'
    · cases hk'
    · rename_i hne
      simp only [if_neg hne]
      exact hr k' hk' he
  have vrx : ∀ v v', VR φ H v v' → VR (fun c => if c = b then none else φ c) (H.setBlk b none) v v' := fun v v' h => by
    induction h with
    | junk v => exact .junk v
    | bool b => exact .bool b
    | int k n => exact .int k n
    | string s => exact .string s
    | pnil => exact .pnil
    | ptr h => exact .ptr (arx _ _ h)
    | snil => exact .snil
    | emp a c => exact .emp a c
    | slice h hc hr => exact .slice (arx _ _ h) hc (rrx _ _ _ _ h hr)
    | func f xs ys xs' ys' hx hy _ _ rx ry => exact .func f xs ys xs' ys' hx hy rx ry
    | nilFunc => exact .nilFunc
    | nilIface => exact .nilIface
    | iface t v v' _ ih => exact .iface t v v' ih
    | agg xs xs' hx _ rx => exact .agg xs xs' hx rx
    | tuple xs xs' hx _ rx => exact .tuple xs xs' hx rx
  refine { sim := { wf := ?_, live := ?_, inj := ?_, cells := ?_, big := s.big, glob := fun c k' hc hk' => (by
      simp only [Heap.setBlk] at hk' ⊢
      split at hk'
      · cases hk'
      · rename_i hne; simp only [if_neg hne]; exact s.glob c k' hc hk') }, next := Nat.le_refl _, back := ?_, agree := ?_, mapped := ?_, fresh := ?_, frame := fun _ _ _ => rfl, size := Nat.le_refl _, os := rfl, tape := rfl, output := rfl }
  · intro c hc
    simp only [Heap.setBlk] at hc ⊢
    split at hc
    · exact absurd rfl hc
    · exact s.wf c hc
  · intro c x h
    simp only [Heap.setBlk] at h ⊢
    split at h
    · cases h
    · simp only [*, if_false]; exact s.live c x h
  · intro c d cc r r' h1 h2
    split at h1
    · cases h1
    · split at h2
      · cases h2
      · exact s.inj c d cc r r' h1 h2
  · intro c k' cc r hk' h
    simp only [Heap.setBlk] at hk' h
    split at hk'
    · cases hk'
    · rename_i hne
      simp only [if_neg hne] at h
      obtain ⟨arr, fz, g1, g2, g3, g4, g5⟩ := s.cells c k' cc r hk' h
      exact ⟨arr, fz, g1, g2, g3, g4, fun i v hv => let ⟨v', h5, h6⟩ := g5 i v hv; ⟨v', h5, vrx _ _ h6⟩⟩
  · intro c hc k' hk'
    simp only [Heap.setBlk] at hk'
    split at hk'
    · cases hk'
    · exact ⟨k', hk', rfl, rfl, rfl⟩
  · intro c hc h
    simp only [Heap.setBlk] at h
    split at h
    · exact absurd rfl h
    · simp only [*, if_false]
  · intro c hc h
    simp only [Heap.setBlk] at h
    split at h
    · exact absurd rfl h
    · exact absurd (s.wf c h) (by omega)
  · intro c cc r hc h
    split at h
    · cases h
    · exact absurd (s.wf c (s.live c _ h)) (by omega)

end Go.Ab
/-! What the operations of the model do on the abstract heap: one word each, and the proof that the model's own operation does the same. -/
namespace Go.Ab

abbrev Post := Value → Heap → Prop

/-- An operation: from any world that fits the heap it comes to a world that fits the next one. -/
def OpStep (P : Program) (o : Oper) (ev : Operand → Value) (H : Heap) (v : Value) (H' : Heap) : Prop :=
  ∀ (φ : Phi) (w : World) (a : Act) (next : Act → World → Prop) (Q : Exit → Act → World → Prop), Sim φ H w →
    (∀ x, x ∈ o.op.operands.toList → VR φ H (ev x) (a.eval x)) →
    (∀ φ' w' cv, Ext φ H w φ' H' w' → VR φ' H' v cv → next (a.put o.dst cv) w') → o.wp P a w next Q

theorem OpStep.value {P : Program} {o : Oper} {ev : Operand → Value} {H : Heap} {v : Value} {H' : Heap}
    (h : ∀ (φ : Phi) (w : World) (cev : Operand → Value), Sim φ H w → (∀ x, x ∈ o.op.operands.toList → VR φ H (ev x) (cev x)) →
      ∃ cv w' φ', (execOp cev o).run P w = .ok (.value cv) w' ∧ Ext φ H w φ' H' w' ∧ VR φ' H' v cv) : OpStep P o ev H v H' := by
  intro φ w a next Q s hx hn
  obtain ⟨cv, w', φ', hr, x, r⟩ := h φ w a.eval s hx
  unfold Oper.wp
  rw [hr, Oper.upon_value]
  exact hn φ' w' cv x r

theorem OpStep.pure {P : Program} {o : Oper} {ev : Operand → Value} {H : Heap} {v : Value}
    (h : ∀ (φ : Phi) (w : World) (cev : Operand → Value), Sim φ H w → (∀ x, x ∈ o.op.operands.toList → VR φ H (ev x) (cev x)) →
      ∃ cv, (execOp cev o).run P w = .ok (.value cv) w ∧ VR φ H v cv) : OpStep P o ev H v H :=
  .value fun φ w cev s hx => by
    obtain ⟨cv, hr, r⟩ := h φ w cev s hx
    exact ⟨cv, w, φ, hr, .refl s, r⟩

/-! ### Values that stand for a known one -/

theorem VR.of_bool {φ H b v} (h : VR φ H (.bool b) v) : v = .bool b := by cases h; rfl
theorem VR.of_int {φ H k n v} (h : VR φ H (.int k n) v) : v = .int k n := by cases h; rfl
theorem VR.of_string {φ H s v} (h : VR φ H (.string s) v) : v = .string s := by cases h; rfl
theorem VR.of_ptr {φ H a v} (h : VR φ H (.pointer (some a)) v) : ∃ a', v = .pointer (some a') ∧ AR φ H a a' := by cases h with | ptr h => exact ⟨_, rfl, h⟩
theorem VR.of_snil {φ H n e v} (h : VR φ H (.slice none n e) v) : (v = .slice none 0 0 ∧ n = 0 ∧ e = 0) ∨ (∃ a c, v = .slice (some a) 0 c) ∧ n = 0 ∧ e = 1 := by
  cases h with
  | snil => exact .inl ⟨rfl, rfl, rfl⟩
  | emp a c => exact .inr ⟨⟨a, c, rfl⟩, rfl, rfl⟩
theorem VR.of_slice {φ H a n e v} (h : VR φ H (.slice (some a) n e) v) : ∃ a' c, v = .slice (some a') n c ∧ AR φ H a a' ∧ CR e c := by
  cases h with | slice h hc => exact ⟨_, _, rfl, h, hc⟩
theorem VR.of_tuple {φ H xs v} (h : VR φ H (.tuple xs) v) : ∃ ys : Array Value, v = .tuple ys ∧ xs.size = ys.size ∧
    ∀ i (h : i < xs.size) (h' : i < ys.size), VR φ H xs[i] ys[i] := by
  cases h with | tuple _ ys hx rx => exact ⟨ys, rfl, hx, rx⟩
theorem VR.of_agg {φ H xs v} (h : VR φ H (.agg xs) v) : ∃ ys : Array Value, v = .agg ys ∧ xs.size = ys.size ∧
    ∀ i (h : i < xs.size) (h' : i < ys.size), VR φ H xs[i] ys[i] := by
  cases h with | agg _ ys hx rx => exact ⟨ys, rfl, hx, rx⟩
theorem VR.of_func {φ H f xs zs v} (h : VR φ H (.func (.func f) xs zs) v) : ∃ ys us : Array Value, v = .func (.func f) ys us ∧ xs.size = ys.size ∧ zs.size = us.size ∧
    (∀ i (h : i < xs.size) (h' : i < ys.size), VR φ H xs[i] ys[i]) ∧ (∀ i (h : i < zs.size) (h' : i < us.size), VR φ H zs[i] us[i]) := by
  cases h with | func _ _ _ ys us hx hy rx ry => exact ⟨ys, us, rfl, hx, hy, rx, ry⟩

/-! ### Operations on numbers -/

def intEval (op : BinOp) (k : IntKind) (a b : Int) : Option Value :=
  match op with
  | .add => some (.int k (k.wrap (a + b)))
  | .sub => some (.int k (k.wrap (a - b)))
  | .mul => some (.int k (k.wrap (a * b)))
  | .quo => if b = 0 then none else some (.int k (k.wrap (a.tdiv b)))
  | .rem => if b = 0 then none else some (.int k (a.tmod b))
  | .and => some (.int k (k.wrap (BitVec.ofInt k.bits a &&& BitVec.ofInt k.bits b).toNat))
  | .or => some (.int k (k.wrap (BitVec.ofInt k.bits a ||| BitVec.ofInt k.bits b).toNat))
  | .xor => some (.int k (k.wrap (BitVec.ofInt k.bits a ^^^ BitVec.ofInt k.bits b).toNat))
  | .andNot => some (.int k (k.wrap (BitVec.ofInt k.bits a &&& ~~~(BitVec.ofInt k.bits b)).toNat))
  | .eql => some (.bool (a == b))
  | .neq => some (.bool (a != b))
  | .lss => some (.bool (a < b))
  | .leq => some (.bool (a ≤ b))
  | .gtr => some (.bool (a > b))
  | .geq => some (.bool (a ≥ b))
  | .shl | .shr => none

def strEval (op : BinOp) (a b : ByteArray) : Option Value :=
  match op with
  | .add => if a.size + b.size ≤ 1152921504606846976 then some (.string (a ++ b)) else none
  | .eql => some (.bool (a.toList == b.toList))
  | .neq => some (.bool (!(a.toList == b.toList)))
  | _ => none

def binEval (op : BinOp) (x y : Value) : Option Value :=
  match op, x, y with
  | .shl, .int k a, .int _ b => if b < 0 then none else some (.int k (k.wrap (a * 2 ^ (min b.toNat k.bits))))
  | .shr, .int k a, .int _ b => if b < 0 then none else some (.int k (a.fdiv (2 ^ (min b.toNat k.bits))))
  | op, .int k a, .int k' b => if k = k' then intEval op k a b else none
  | op, .string a, .string b => strEval op a b
  | _, _, _ => none

/-- A binary operation on numbers or strings. -/
def W.bin (op : BinOp) (x y : Value) (H : Heap) (k : Post) : Prop :=
  match binEval op x y with | some v => k v H | none => False

theorem intEval_run {P : Program} {w : World} {op : BinOp} {k : IntKind} {a b : Int} {v : Value} (h : intEval op k a b = some v) (t : TypeId) :
    (binOp op t (.int k a) (.int k b)).run P w = .ok v w ∧ ∀ φ H, VR φ H v v := by
  cases op with
  | quo | rem =>
    simp [intEval] at h
    obtain ⟨h0, rfl⟩ := h
    exact ⟨by simp [binOp, Op.intDiv, pure, h0], fun _ _ => .int ..⟩
  | shl | shr => simp [intEval] at h
  | eql | neq | lss | leq | gtr | geq =>
    simp [intEval] at h
    subst h
    exact ⟨by simp [binOp, Op.intCmp, pure], fun _ _ => .bool ..⟩
  | _ =>
    simp [intEval] at h
    subst h
    exact ⟨by simp [binOp, Op.intArith, Op.intBits, pure], fun _ _ => .int ..⟩

theorem strEval_run {P : Program} {w : World} {op : BinOp} {a b : ByteArray} {v : Value} (h : strEval op a b = some v) (t : TypeId) :
    (binOp op t (.string a) (.string b)).run P w = .ok v w ∧ ∀ φ H, VR φ H v v := by
  cases op with
  | add =>
    simp [strEval] at h
    obtain ⟨h0, rfl⟩ := h
    refine ⟨?_, fun _ _ => .string ..⟩
    simp only [binOp, Op.stringOp, pure]
    rw [if_neg (by simp [IntKind.max, IntKind.signed, IntKind.bits]; omega)]
    rfl
  | eql | neq =>
    simp [strEval] at h
    subst h
    exact ⟨by simp [binOp, Op.stringOp, pure], fun _ _ => .bool ..⟩
  | _ => simp [strEval] at h

theorem binEval_run {P : Program} {w : World} {op : BinOp} {t : TypeId} {x y v : Value} (h : binEval op x y = some v) :
    (binOp op t x y).run P w = .ok v w ∧ (∀ φ H, VR φ H v v) ∧ ((∃ k a k' b, x = .int k a ∧ y = .int k' b) ∨ ∃ a b, x = .string a ∧ y = .string b) := by
  unfold binEval at h
  split at h
  · split at h
    · cases h
    · cases h
      rename_i hb
      exact ⟨by simp [binOp, Op.shift, pure, hb], fun _ _ => .int .., .inl ⟨_, _, _, _, rfl, rfl⟩⟩
  · split at h
    · cases h
    · cases h
      rename_i hb
      exact ⟨by simp [binOp, Op.shift, pure, hb], fun _ _ => .int .., .inl ⟨_, _, _, _, rfl, rfl⟩⟩
  · split at h
    · rename_i hk
      subst hk
      obtain ⟨h1, h2⟩ := intEval_run (P := P) (w := w) h t
      exact ⟨h1, h2, .inl ⟨_, _, _, _, rfl, rfl⟩⟩
    · cases h
  · obtain ⟨h1, h2⟩ := strEval_run (P := P) (w := w) h t
    exact ⟨h1, h2, .inr ⟨_, _, rfl, rfl⟩⟩
  · cases h

/-! ### The words -/

def W.pick (c a b : Value) (H : Heap) (k : Post) : Prop :=
  match c with | .bool t => k (if t then a else b) H | _ => False

def unEval (op : UnOp) (x : Value) : Option Value :=
  match op, x with
  | .neg, .int k n => some (.int k (k.wrap (0 - n)))
  | .xor, .int k n => some (.int k (k.wrap (BitVec.ofInt k.bits (if k.signed then -1 else k.max) ^^^ BitVec.ofInt k.bits n).toNat))
  | .not, .bool b => some (.bool !b)
  | _, _ => none

def W.un (op : UnOp) (x : Value) (H : Heap) (k : Post) : Prop :=
  match unEval op x with | some v => k v H | none => False

/-- A number's kind turned. -/
def W.conv (κ : IntKind) (x : Value) (H : Heap) (k : Post) : Prop :=
  match x with | .int _ n => k (.int κ (κ.wrap n)) H | _ => False

/-- '==' and '!=' of a slice or a function with nil. -/
def isNilV : Value → Option Bool
  | .slice a _ _ => some a.isNone
  | .nilFunc => some true
  | .func (.func _) _ _ => some false
  | _ => none

def neg? (op : BinOp) (b : Bool) : Option Value :=
  match op with | .eql => some (.bool b) | .neq => some (.bool !b) | _ => none

def W.eqNilR (op : BinOp) (x y : Value) (H : Heap) (k : Post) : Prop :=
  match x, y with
  | .slice a _ e, .slice none _ 0 => match neg? op (a.isNone && Nat.beq e 0) with | some v => k v H | none => False
  | _, _ => False

def W.eqBool (op : BinOp) (x y : Value) (H : Heap) (k : Post) : Prop :=
  match x, y with
  | .bool a, .bool b => match neg? op (a == b) with | some v => k v H | none => False
  | _, _ => False

def W.get (p : Value) (H : Heap) (k : Post) : Prop :=
  match p with | .pointer (some a) => (match H.get a with | some v => k v H | none => False) | _ => False

def W.getN (n : Nat) (p : Value) (H : Heap) (k : Post) : Prop :=
  match p with | .pointer (some a) => (match H.getN a n with | some vs => k (.agg vs.toArray) H | none => False) | _ => False

def W.put (p v : Value) (H : Heap) (k : Post) : Prop :=
  match p with | .pointer (some a) => (match H.set a v with | some H' => k undef H' | none => False) | _ => False

def W.putN (n : Nat) (p v : Value) (H : Heap) (k : Post) : Prop :=
  match p, v with
  | .pointer (some a), .agg vs => if vs.size = n then (match H.setN a vs.toList with | some H' => k undef H' | none => False) else False
  | _, _ => False

def W.new (cells : List Value) (ty : TypeId) (H : Heap) (k : Post) : Prop :=
  k (.pointer (some ⟨H.next, 0, none⟩)) (H.alloc cells ty cells.length)

def W.box (v : Value) (ty : TypeId) (H : Heap) (k : Post) : Prop :=
  match v with
  | .agg vs => k (.pointer (some ⟨H.next, 0, none⟩)) (H.alloc vs.toList ty vs.size)
  | v => isCell v = true ∧ k (.pointer (some ⟨H.next, 0, none⟩)) (H.alloc [v] ty 1)

def W.fieldAddr (off : Nat) (p : Value) (H : Heap) (k : Post) : Prop :=
  match p with | .pointer (some a) => k (.pointer (some (a.add off))) H | _ => False

def W.indexAddr (sz : Nat) (x i : Value) (H : Heap) (k : Post) : Prop :=
  match x, i with
  | .slice (some a) len _, .int _ n => 0 ≤ n ∧ n < len ∧ k (.pointer (some (a.add (n.toNat * sz)))) H
  | _, _ => False

def W.indexArr (len sz : Nat) (x i : Value) (H : Heap) (k : Post) : Prop :=
  match x, i with
  | .pointer (some a), .int _ n => 0 ≤ n ∧ n < len ∧ k (.pointer (some (a.add (n.toNat * sz)))) H
  | _, _ => False

def W.indexStr (x i : Value) (H : Heap) (k : Post) : Prop :=
  match x, i with
  | .string s, .int _ n => 0 ≤ n ∧ (match s[n.toNat]? with | some b => k (.int .u8 b.toNat) H | none => False)
  | _, _ => False

def W.field (off : Nat) (x : Value) (H : Heap) (k : Post) : Prop :=
  match x with | .agg vs => (match vs[off]? with | some v => k v H | none => False) | _ => False

def W.fieldN (off n : Nat) (x : Value) (H : Heap) (k : Post) : Prop :=
  match x with | .agg vs => k (.agg (vs.extract off (off + n))) H | _ => False

def W.extract (i : Nat) (x : Value) (H : Heap) (k : Post) : Prop :=
  match x with | .tuple vs => (match vs[i]? with | some v => k v H | none => False) | _ => False

def W.len (x : Value) (H : Heap) (k : Post) : Prop :=
  match x with | .slice _ n _ => k (.int .i64 n) H | _ => False

def W.lenStr (x : Value) (H : Heap) (k : Post) : Prop :=
  match x with | .string s => k (.int .i64 s.size) H | _ => False

/-- A slice's capacity, where it is known exactly. -/
def W.cap (x : Value) (H : Heap) (k : Post) : Prop :=
  match x with | .slice _ _ e => e % 2 = 0 ∧ k (.int .i64 (e / 2 : Nat)) H | _ => False

def W.nilCheck (x : Value) (H : Heap) (k : Post) : Prop :=
  match x with | .pointer (some a) => k (.pointer (some a)) H | _ => False

/-! ### Each word does what its operation does -/

theorem neg?_run {op : BinOp} {b : Bool} {v : Value} (h : neg? op b = some v) : (op = .eql ∧ v = .bool b) ∨ (op = .neq ∧ v = .bool !b) := by
  cases op <;> simp [neg?] at h <;> simp [h]

section
variable {P : Program} {o : Oper} {ev : Operand → Value} {k : Post} {H : Heap}

theorem W.move_sound {x : Operand} (ho : o.op = .move x ∨ o.op = .assign x) : OpStep P o ev H (ev x) H :=
  .pure fun φ w cev s hx => by
    have : x ∈ o.op.operands.toList := by rcases ho with h | h <;> rw [h] <;> simp [Op.operands]
    refine ⟨cev x, ?_, hx x this⟩
    rcases ho with h | h <;> simp [execOp, h]

theorem W.pick_sound {c a b : Operand} (ho : o.op = .pick c a b) (h : W.pick (ev c) (ev a) (ev b) H k) : ∃ v H', k v H' ∧ OpStep P o ev H v H' := by
  unfold W.pick at h
  split at h
  · rename_i t hc
    refine ⟨_, _, h, .pure fun φ w cev s hx => ?_⟩
    have hc' := hx c (by rw [ho]; simp [Op.operands])
    rw [hc] at hc'
    have ha := hx a (by rw [ho]; simp [Op.operands])
    have hb := hx b (by rw [ho]; simp [Op.operands])
    refine ⟨if t then cev a else cev b, ?_, ?_⟩
    · simp [execOp, ho, hc'.of_bool, asBool]
    · split <;> assumption
  · exact h.elim

theorem W.bin_sound {op : BinOp} {t : TypeId} {x y : Operand} {t' : TypeId} (ho : o.op = .binOp op t x y t') (h : W.bin op (ev x) (ev y) H k) :
    ∃ v H', k v H' ∧ OpStep P o ev H v H' := by
  unfold W.bin at h
  split at h
  · rename_i v hv
    refine ⟨_, _, h, .pure fun φ w cev s hx => ?_⟩
    have hx' := hx x (by rw [ho]; simp [Op.operands])
    have hy' := hx y (by rw [ho]; simp [Op.operands])
    obtain ⟨h1, h2, h3⟩ := binEval_run (P := P) (w := w) (t := t) hv
    rcases h3 with ⟨κ, a, κ', b, e1, e2⟩ | ⟨a, b, e1, e2⟩ <;> rw [e1] at hx' h1 <;> rw [e2] at hy' h1
    · exact ⟨v, by simp [execOp, ho, hx'.of_int, hy'.of_int, eqGuard_at_int, h1], h2 φ H⟩
    · exact ⟨v, by simp [execOp, ho, hx'.of_string, hy'.of_string, eqGuard_at_string, h1], h2 φ H⟩
  · exact h.elim

theorem W.un_sound {op : UnOp} {t : TypeId} {x : Operand} (ho : o.op = .unOp op t x) (h : W.un op (ev x) H k) : ∃ v H', k v H' ∧ OpStep P o ev H v H' := by
  unfold W.un at h
  split at h
  · rename_i v hv
    refine ⟨_, _, h, .pure fun φ w cev s hx => ?_⟩
    have hx' := hx x (by rw [ho]; simp [Op.operands])
    unfold unEval at hv
    split at hv
    · rename_i e; rw [e] at hx'; cases hv
      exact ⟨_, by simp [execOp, ho, hx'.of_int, Op.unary, Op.intArith], .int ..⟩
    · rename_i e; rw [e] at hx'; cases hv
      exact ⟨_, by simp [execOp, ho, hx'.of_int, Op.unary, Op.intBits], .int ..⟩
    · rename_i e; rw [e] at hx'; cases hv
      exact ⟨_, by simp [execOp, ho, hx'.of_bool, Op.unary], .bool ..⟩
    · cases hv
  · exact h.elim

theorem W.conv_sound {κ : IntKind} {src dst : TypeId} {x : Operand} (ho : o.op = .convert src dst x) (hs : (P.underlying src).isSome = true)
    (hd : P.underlying dst = some (.int κ)) (h : W.conv κ (ev x) H k) : ∃ v H', k v H' ∧ OpStep P o ev H v H' := by
  unfold W.conv at h
  split at h
  · rename_i e
    refine ⟨_, _, h, .pure fun φ w cev s hx => ?_⟩
    have hx' := hx x (by rw [ho]; simp [Op.operands])
    rw [e] at hx'
    have hk : P.intKind dst = κ := by simp [Program.intKind, hd]
    exact ⟨_, by simp [execOp, ho, hx'.of_int]; rw [run_convert_int w src dst _ _ hs (by rw [hk]; exact hd), hk]; rfl, .int ..⟩
  · exact h.elim

theorem equal_nilR {P : Program} {w : World} {t e : TypeId} (hu : P.underlying t = some (.slice e)) (a : Option Addr) (n c n' c' : Nat) :
    (Op.equal t (.slice a n c) (.slice none n' c')).run P w = .ok a.isNone w := by
  show (Op.equalIn (9999 + 1) t _ _).run P w = _
  generalize 9999 = d
  cases a <;> simp only [Op.equalIn, Sem.run_bind, run_underlying hu, Result.andThen_ok] <;> rfl

theorem equal_bool {P : Program} {w : World} {t : TypeId} (hu : P.underlying t = some .bool) (a b : Bool) :
    (Op.equal t (.bool a) (.bool b)).run P w = .ok (a == b) w := by
  show (Op.equalIn (9999 + 1) t _ _).run P w = _
  generalize 9999 = d
  simp only [Op.equalIn, Sem.run_bind, run_underlying hu, Result.andThen_ok]
  rfl

theorem W.eqNilR_sound {op : BinOp} {t e : TypeId} {x y : Operand} {t' : TypeId} (ho : o.op = .binOp op t x y t') (hu : P.underlying t = some (.slice e))
    (h : W.eqNilR op (ev x) (ev y) H k) : ∃ v H', k v H' ∧ OpStep P o ev H v H' := by
  unfold W.eqNilR at h
  split at h
  · rename_i a n c n' e1 e2
    split at h
    · rename_i v hv
      refine ⟨_, _, h, .pure fun φ w cev s hx => ?_⟩
      have hx' := hx x (by rw [ho]; simp [Op.operands])
      have hy' := hx y (by rw [ho]; simp [Op.operands])
      rw [e1] at hx'; rw [e2] at hy'
      have hy' : cev y = .slice none 0 0 := by
        rcases hy'.of_snil with ⟨h, _⟩ | ⟨_, _, h⟩
        · exact h
        · cases h
      refine ⟨v, ?_, ?_⟩
      · obtain ⟨a', c', hx', ha⟩ : ∃ (a' : Option Addr) (c' : Nat), cev x = .slice a' n c' ∧ a'.isNone = (a.isNone && Nat.beq c 0) := by
          cases a with
          | none =>
            rcases hx'.of_snil with ⟨h1, h2, h3⟩ | ⟨⟨a', c', h1⟩, h2, h3⟩
            · exact ⟨none, 0, by rw [h1, h2], by rw [h3]; rfl⟩
            · exact ⟨some a', c', by rw [h1, h2], by rw [h3]; rfl⟩
          | some a =>
            obtain ⟨a', c', hx', -, -⟩ := hx'.of_slice
            exact ⟨some a', c', hx', rfl⟩
        rcases neg?_run hv with ⟨rfl, rfl⟩ | ⟨rfl, rfl⟩ <;>
          simp [execOp, ho, hx', hy', eqGuard_at_slice, binOp, equal_nilR hu, ha]
      · rcases neg?_run hv with ⟨-, rfl⟩ | ⟨-, rfl⟩ <;> exact .bool _
    · exact h.elim
  · exact h.elim

theorem W.eqBool_sound {op : BinOp} {t : TypeId} {x y : Operand} {t' : TypeId} (ho : o.op = .binOp op t x y t') (hu : P.underlying t = some .bool)
    (h : W.eqBool op (ev x) (ev y) H k) : ∃ v H', k v H' ∧ OpStep P o ev H v H' := by
  unfold W.eqBool at h
  split at h
  · rename_i a b e1 e2
    split at h
    · rename_i v hv
      refine ⟨_, _, h, .pure fun φ w cev s hx => ?_⟩
      have hx' := hx x (by rw [ho]; simp [Op.operands])
      have hy' := hx y (by rw [ho]; simp [Op.operands])
      rw [e1] at hx'; rw [e2] at hy'
      refine ⟨v, ?_, ?_⟩
      · rcases neg?_run hv with ⟨rfl, rfl⟩ | ⟨rfl, rfl⟩ <;>
          simp [execOp, ho, hx'.of_bool, hy'.of_bool, eqGuard_at_bool, binOp, equal_bool hu]
      · rcases neg?_run hv with ⟨-, rfl⟩ | ⟨-, rfl⟩ <;> exact .bool _
    · exact h.elim
  · exact h.elim

end

end Go.Ab

/-! Words on memory: each does what its operation does. -/
namespace Go.Ab

section
variable {P : Program} {o : Oper} {ev : Operand → Value} {k : Post} {H : Heap}

/-- Is the type a struct or an array? -/
def isAggT (P : Program) (t : TypeId) : Option Bool :=
  match P.underlying t with
  | some (.struct _) | some (.array _ _) => some true
  | some _ => some false
  | none => none

theorem isAgg_run {P : Program} {w : World} {t : TypeId} {b : Bool} (h : isAggT P t = some b) : (isAgg t).run P w = .ok b w := by
  unfold isAggT at h
  split at h
  · rename_i hu; cases h; simp [isAgg, run_underlying hu]
  · rename_i hu; cases h; simp [isAgg, run_underlying hu]
  · rename_i d h1 h2 hu
    cases h
    simp only [isAgg, Sem.run_bind, run_underlying hu, Result.andThen_ok]
    rfl
  · cases h

theorem sizeOf_run {P : Program} {w : World} {t : TypeId} {i : TypeInfo} (h : P.info? t = some i) : (sizeOf t).run P w = .ok i.size w := by
  simp [sizeOf, typeInfo, h]

theorem W.get_sound {t : TypeId} {p : Operand} (ho : o.op = .load t p) (ht : isAggT P t = some false) (h : W.get (ev p) H k) : ∃ v H', k v H' ∧ OpStep P o ev H v H' := by
  unfold W.get at h
  split at h
  · rename_i a e
    split at h
    · rename_i v hv
      refine ⟨_, _, h, .pure fun φ w cev s hx => ?_⟩
      have hx' := hx p (by rw [ho]; simp [Op.operands])
      rw [e] at hx'
      obtain ⟨a', hx', har⟩ := hx'.of_ptr
      obtain ⟨v', h1, h2⟩ := s.get har hv
      exact ⟨v', by simp [execOp, ho, hx', Instr.loadAt, Instr.sureAddr, loadVar, isAgg_run ht, h1], h2⟩
    · exact h.elim
  · exact h.elim

theorem W.getN_sound {t : TypeId} {p : Operand} {i : TypeInfo} (ho : o.op = .load t p) (ht : isAggT P t = some true) (hi : P.info? t = some i) (h : W.getN i.size (ev p) H k) :
    ∃ v H', k v H' ∧ OpStep P o ev H v H' := by
  unfold W.getN at h
  split at h
  · rename_i a e
    split at h
    · rename_i vs hv
      refine ⟨_, _, h, .pure fun φ w cev s hx => ?_⟩
      have hx' := hx p (by rw [ho]; simp [Op.operands])
      rw [e] at hx'
      obtain ⟨a', hx', har⟩ := hx'.of_ptr
      obtain ⟨vs', h1, h2, h3, h4⟩ := s.getN har hv
      have hl := run_loadCells_list (P := P) w a' vs' h3
      rw [h1] at hl
      refine ⟨.agg vs'.toArray, by simp [execOp, ho, hx', Instr.loadAt, Instr.sureAddr, loadVar, isAgg_run ht, sizeOf_run hi, hl], .agg _ _ (by simp; omega) fun j hj hj' => ?_⟩
      refine h4 j _ _ ?_ ?_
      · simp
      · simp
    · exact h.elim
  · exact h.elim

/-- A value that one cell holds stands for such a one. -/
theorem VR.cell {φ H v v'} (h : VR φ H v v') (hc : isCell v = true) : v'.cells = #[v'] ∧ v'.oneCell' = true ∧ v.cells = #[v] := by
  cases h <;> simp [isCell, Value.cells, Value.oneCell'] at hc ⊢

theorem Sim.setN {φ H w a a' vs} {vs' : List Value} {H' : Heap} (s : Sim φ H w) (h : AR φ H a a') (hs : H.setN a vs = some H') (hl : vs.length = vs'.length)
    (hv : ∀ (i : Nat) (v v' : Value), vs[i]? = some v → vs'[i]? = some v' → VR φ H v v') (P : Program) :
    ∃ w', (storeCells a' vs').run P w = .ok () w' ∧ Ext φ H w φ H' w' := by
  unfold Heap.setN at hs
  split at hs
  · rename_i kb hk
    split at hs
    · rename_i hc
      simp only [Bool.and_eq_true, Bool.not_eq_eq_eq_not, Bool.not_true, decide_eq_true_eq] at hc
      obtain ⟨⟨hcell, hro⟩, hle⟩ := hc
      cases hs
      obtain ⟨r, hr⟩ := h.map kb hk
      obtain ⟨arr, fz, h1, h2, h3, h3', h4⟩ := s.cells _ kb _ r hk hr
      have ha' : a' = ⟨a'.block, a.off, none⟩ := by
        cases a' with | mk b o sp => have := h.off; have := h.spot'; simp_all
      have hcell' : ∀ v ∈ vs', v.oneCell' = true := by
        intro v' hv'
        obtain ⟨i, hi, rfl⟩ := List.mem_iff_getElem.1 hv'
        have hi2 : i < vs.length := by omega
        have := hv i vs[i] vs'[i] (by simp) (by simp)
        exact (this.cell (List.all_eq_true.1 hcell _ (List.getElem_mem hi2))).2.1
      rw [h2 hro] at h1
      have hst := run_storeCells_at P a'.block a.off kb.ty vs' 0 arr w h1 (by simp; omega) hcell'
      rw [← ha', Nat.add_zero] at hst
      refine ⟨_, hst, s.write hk hr hro _ _ (by simp; omega) (by simp; omega) ?_⟩
      intro i v hi
      by_cases c1 : i < a.off
      · rw [List.append_assoc, List.getElem?_append_left (by simp; omega), List.getElem?_take, if_pos c1] at hi
        obtain ⟨v', h5, h6⟩ := h4 i v hi
        refine ⟨v', ?_, h6⟩
        have : i < arr.size := (Array.getElem?_eq_some_iff.1 h5).1
        simp only [List.append_assoc, List.getElem?_toArray]
        rw [List.getElem?_append_left (by simp; omega), List.getElem?_take, if_pos c1]
        simpa using h5
      · by_cases c2 : i < a.off + vs.length
        · rw [List.append_assoc, List.getElem?_append_right (by simp; omega)] at hi
          have e1 : (List.take a.off kb.cells).length = a.off := by simp; omega
          rw [e1, List.getElem?_append_left (by omega)] at hi
          refine ⟨vs'[i - a.off]'(by omega), ?_, hv _ _ _ hi (by simp)⟩
          simp only [List.append_assoc, List.getElem?_toArray]
          rw [List.getElem?_append_right (by simp; omega)]
          have e2 : (List.take a.off arr.toList).length = a.off := by simp; omega
          rw [e2, List.getElem?_append_left (by omega)]
          simp
        · rw [List.append_assoc, List.getElem?_append_right (by simp; omega)] at hi
          have e1 : (List.take a.off kb.cells).length = a.off := by simp; omega
          rw [e1, List.getElem?_append_right (by omega), List.getElem?_drop] at hi
          have e3 : a.off + vs.length + (i - a.off - vs.length) = i := by omega
          rw [e3] at hi
          obtain ⟨v', h5, h6⟩ := h4 i v hi
          refine ⟨v', ?_, h6⟩
          simp only [List.append_assoc, List.getElem?_toArray]
          rw [List.getElem?_append_right (by simp; omega)]
          have e2 : (List.take a.off arr.toList).length = a.off := by simp; omega
          rw [e2, List.getElem?_append_right (by omega), List.getElem?_drop]
          have e4 : a.off + vs'.length + (i - a.off - vs'.length) = i := by omega
          rw [e4]
          simpa using h5
    · cases hs
  · cases hs

theorem set_eq_setN {H : Heap} {a : Addr} {v : Value} {H' : Heap} (h : H.set a v = some H') : H.setN a [v] = some H' ∧ isCell v = true := by
  unfold Heap.set at h
  split at h
  · rename_i kb hk
    split at h
    · rename_i hc
      simp only [Bool.and_eq_true, Bool.not_eq_eq_eq_not, Bool.not_true, decide_eq_true_eq] at hc
      cases h
      refine ⟨?_, hc.1.1⟩
      unfold Heap.setN
      rw [hk]
      simp only [List.all_cons, hc.1.1, List.all_nil, Bool.and_true, hc.1.2, Bool.not_false, Bool.true_and, List.length_cons, List.length_nil, Nat.zero_add]
      rw [if_pos (by simp; omega)]
      congr 5
      rw [List.set_eq_take_append_cons_drop, if_pos hc.2]
      simp
    · cases h
  · cases h

theorem OpStep.skip {v : Value} {H' : Heap} (hv : v = undef)
    (h : ∀ (φ : Phi) (w : World) (cev : Operand → Value), Sim φ H w → (∀ x, x ∈ o.op.operands.toList → VR φ H (ev x) (cev x)) →
      ∃ w' φ', (execOp cev o).run P w = .ok .skip w' ∧ Ext φ H w φ' H' w') : OpStep P o ev H v H' := by
  intro φ w a next Q s hx hn
  obtain ⟨w', φ', hr, x⟩ := h φ w a.eval s hx
  unfold Oper.wp
  rw [hr, Oper.upon_skip]
  exact hn φ' w' undef x (by rw [hv]; exact .tuple _ _ rfl (fun i h => by simp at h))

theorem W.put_sound {t : TypeId} {p x : Operand} {i : TypeInfo} (ho : o.op = .store t p x) (hi : P.info? t = some i) (h1 : i.size = 1) (h : W.put (ev p) (ev x) H k) :
    ∃ v H', k v H' ∧ OpStep P o ev H v H' := by
  unfold W.put at h
  split at h
  · rename_i a e
    split at h
    · rename_i H' hs
      refine ⟨_, _, h, .skip rfl fun φ w cev s hx => ?_⟩
      obtain ⟨hs, hc⟩ := set_eq_setN hs
      have hp := hx p (by rw [ho]; simp [Op.operands])
      have hv := hx x (by rw [ho]; simp [Op.operands])
      rw [e] at hp
      obtain ⟨a', hp, har⟩ := hp.of_ptr
      obtain ⟨w', h2, h3⟩ := s.setN har hs (vs' := [cev x]) rfl (fun j u u' hu hu' => by
        cases j with
        | zero => simp at hu hu'; subst hu; subst hu'; exact hv
        | succ j => simp at hu) P
      refine ⟨w', φ, ?_, h3⟩
      have hcc := (hv.cell hc).1
      simp only [execOp, ho, Instr.storeAt, hp, Instr.sureAddr, Sem.run_bind, Sem.run_pure, Result.andThen_ok, storeVar, sizeOf_run hi, hcc, h1]
      simp only [List.size_toArray, List.length_cons, List.length_nil, Nat.zero_add, ne_eq, not_true_eq_false, if_false, Result.andThen_ok, h2]
    · exact h.elim
  · exact h.elim

theorem W.putN_sound {t : TypeId} {p x : Operand} {i : TypeInfo} (ho : o.op = .store t p x) (hi : P.info? t = some i) (h : W.putN i.size (ev p) (ev x) H k) :
    ∃ v H', k v H' ∧ OpStep P o ev H v H' := by
  unfold W.putN at h
  split at h
  · rename_i a vs e1 e2
    split at h
    · rename_i hsz
      split at h
      · rename_i H' hs
        refine ⟨_, _, h, .skip rfl fun φ w cev s hx => ?_⟩
        have hp := hx p (by rw [ho]; simp [Op.operands])
        have hv := hx x (by rw [ho]; simp [Op.operands])
        rw [e1] at hp; rw [e2] at hv
        obtain ⟨a', hp, har⟩ := hp.of_ptr
        obtain ⟨vs', hv, hl, hr⟩ := hv.of_agg
        obtain ⟨w', h2, h3⟩ := s.setN har hs (vs' := vs'.toList) (by simpa using hl) (fun j u u' hu hu' => by
          simp only [Array.getElem?_toList] at hu hu'
          obtain ⟨g1, rfl⟩ := Array.getElem?_eq_some_iff.1 hu
          obtain ⟨g2, rfl⟩ := Array.getElem?_eq_some_iff.1 hu'
          exact hr j g1 g2) P
        refine ⟨w', φ, ?_, h3⟩
        simp only [execOp, ho, Instr.storeAt, hp, hv, Instr.sureAddr, Sem.run_bind, Sem.run_pure, Result.andThen_ok, storeVar, sizeOf_run hi, Value.cells]
        simp only [← hl, hsz, ne_eq, not_true_eq_false, if_false, Result.andThen_ok, h2]
      · exact h.elim
    · exact h.elim
  · exact h.elim

theorem run_newRow (P : Program) (w : World) (ty : TypeId) (arr : Array Value) :
    (newRow ty arr).run P w = .ok ⟨w.heap.size, 0, none⟩ { w with heap := w.heap.push (.cells arr ty) } := rfl

/-- The address of a new block stands for that of the world's. -/
theorem new_ptr {φ' : Phi} {H : Heap} {w : World} {cells : List Value} {ty : TypeId} {esz r : Nat} (h : φ' H.next = some (w.heap.size, r)) :
    AR φ' (H.alloc cells ty esz) ⟨H.next, 0, none⟩ ⟨w.heap.size, 0, none⟩ :=
  ⟨rfl, rfl, rfl, by simp [Heap.alloc], fun _ _ => ⟨r, h⟩⟩

/-- A value that is told in full: it stands for itself. -/
def plainV : Value → Bool
  | .bool _ | .int _ _ | .string _ | .pointer none | .nilFunc | .nilIface => true
  | .slice none 0 0 => true
  | _ => false

theorem plainV_VR {φ H v} (h : plainV v = true) : VR φ H v v := by
  unfold plainV at h
  split at h <;> first | constructor | exact absurd h (by simp)

theorem W.new_sound {t : TypeId} {i : TypeInfo} {z : Value} (ho : o.op = .alloc t) (hi : P.info? t = some i) (hz : i.zero = some z) (hp : z.cells.toList.all plainV = true)
    (h : W.new z.cells.toList t H k) : ∃ v H', k v H' ∧ OpStep P o ev H v H' := by
  unfold W.new at h
  refine ⟨_, _, h, .value fun φ w cev s hx => ?_⟩
  obtain ⟨φ', h1, h2⟩ := s.alloc z.cells.toList z.cells t z.cells.toList.length (by simp) (fun j v hj => ⟨v, by simpa using hj, plainV_VR (List.all_eq_true.1 hp _ (List.mem_of_getElem? hj))⟩)
  refine ⟨.pointer (some ⟨w.heap.size, 0, none⟩), _, φ', ?_, h2, .ptr (new_ptr h1)⟩
  simp [execOp, ho, Instr.alloc, zeroValue, typeInfo, hi, hz, newVar, run_newRow]

theorem W.box_sound {t : TypeId} {x : Operand} (ho : o.op = .box t x) (h : W.box (ev x) t H k) : ∃ v H', k v H' ∧ OpStep P o ev H v H' := by
  unfold W.box at h
  split at h
  · rename_i vs e
    refine ⟨_, _, h, .value fun φ w cev s hx => ?_⟩
    have hv := hx x (by rw [ho]; simp [Op.operands])
    rw [e] at hv
    obtain ⟨vs', hv, hl, hr⟩ := hv.of_agg
    obtain ⟨φ', h1, h2⟩ := s.alloc vs.toList vs' t vs.size (by simp; omega) (fun j v hj => by
      simp only [Array.getElem?_toList] at hj
      obtain ⟨g1, rfl⟩ := Array.getElem?_eq_some_iff.1 hj
      exact ⟨vs'[j]'(by omega), by simp, hr j g1 (by omega)⟩)
    refine ⟨.pointer (some ⟨w.heap.size, 0, none⟩), _, φ', ?_, h2, .ptr (new_ptr h1)⟩
    simp [execOp, ho, hv, Instr.box, newVar, run_newRow, Value.cells]
  · obtain ⟨hc, h⟩ := h
    refine ⟨_, _, h, .value fun φ w cev s hx => ?_⟩
    have hv := hx x (by rw [ho]; simp [Op.operands])
    obtain ⟨φ', h1, h2⟩ := s.alloc [ev x] #[cev x] t 1 (by simp) (fun j v hj => by
      cases j with
      | zero => simp at hj; subst hj; exact ⟨_, rfl, hv⟩
      | succ j => simp at hj)
    refine ⟨.pointer (some ⟨w.heap.size, 0, none⟩), _, φ', ?_, h2, .ptr (new_ptr h1)⟩
    simp [execOp, ho, Instr.box, newVar, (hv.cell hc).1, run_newRow]

theorem W.fieldAddr_sound {t : TypeId} {p : Operand} {j : Nat} {fs : Array Field} {f : Field} {i : TypeInfo} (ho : o.op = .fieldAddr t p j) (hu : P.underlying t = some (.struct fs))
    (hf : fs[j]? = some f) (hi : P.info? f.type = some i) (hz : i.size ≠ 0) (h : W.fieldAddr f.offset (ev p) H k) : ∃ v H', k v H' ∧ OpStep P o ev H v H' := by
  unfold W.fieldAddr at h
  split at h
  · rename_i a e
    refine ⟨_, _, h, .pure fun φ w cev s hx => ?_⟩
    have hp := hx p (by rw [ho]; simp [Op.operands])
    rw [e] at hp
    obtain ⟨a', hp, har⟩ := hp.of_ptr
    exact ⟨_, by simp [execOp, ho, hp, Instr.fieldAt, run_underlying hu, hf, Instr.sureAddr, fieldPlace, sizeOf_run hi, hz], .ptr (har.add _)⟩
  · exact h.elim

theorem W.indexAddr_sound {t e : TypeId} {x y : Operand} {i : TypeInfo} (ho : o.op = .indexAddr t x y) (hu : P.underlying t = some (.slice e)) (hi : P.info? e = some i)
    (h : W.indexAddr i.size (ev x) (ev y) H k) : ∃ v H', k v H' ∧ OpStep P o ev H v H' := by
  unfold W.indexAddr at h
  split at h
  · rename_i a len c κ n e1 e2
    obtain ⟨g1, g2, h⟩ := h
    refine ⟨_, _, h, .pure fun φ w cev s hx => ?_⟩
    have hx' := hx x (by rw [ho]; simp [Op.operands])
    have hy' := hx y (by rw [ho]; simp [Op.operands])
    rw [e1] at hx'; rw [e2] at hy'
    obtain ⟨a', c', hx', har, _⟩ := hx'.of_slice
    have he : P.elem t = e := by simp [Program.elem, hu]
    refine ⟨.pointer (some (a'.add (n.toNat * i.size))), ?_, .ptr (har.add _)⟩
    simp only [execOp, ho, hx', hy'.of_int, Sem.run_bind]
    rw [run_indexAt_slice w t a' len c' κ n (by rw [he]; exact hu), if_pos ⟨g1, g2⟩, he, sizeOf_run hi]
    simp
  · exact h.elim

theorem W.indexArr_sound {t e : TypeId} {x y : Operand} {i : TypeInfo} {len : Nat} (ho : o.op = .indexAddr t x y) (hu : P.underlying t = some (.array len e)) (hi : P.info? e = some i)
    (h : W.indexArr len i.size (ev x) (ev y) H k) : ∃ v H', k v H' ∧ OpStep P o ev H v H' := by
  unfold W.indexArr at h
  split at h
  · rename_i a κ n e1 e2
    obtain ⟨g1, g2, h⟩ := h
    refine ⟨_, _, h, .pure fun φ w cev s hx => ?_⟩
    have hx' := hx x (by rw [ho]; simp [Op.operands])
    have hy' := hx y (by rw [ho]; simp [Op.operands])
    rw [e1] at hx'; rw [e2] at hy'
    obtain ⟨a', hx', har⟩ := hx'.of_ptr
    have he : P.elem t = e := by simp [Program.elem, hu]
    have hl : P.arrayLen t = len := by simp [Program.arrayLen, hu]
    refine ⟨.pointer (some (a'.add (n.toNat * i.size))), ?_, .ptr (har.add _)⟩
    simp only [execOp, ho, hx', hy'.of_int, Sem.run_bind]
    rw [run_indexAt_array w t a' κ n (by rw [he, hl]; exact hu), if_pos ⟨g1, by rw [hl]; exact g2⟩, he, sizeOf_run hi]
    simp
  · exact h.elim

theorem W.indexStr_sound {t : TypeId} {x y : Operand} (ho : o.op = .index t x y) (hu : P.underlying t = some .string)
    (h : W.indexStr (ev x) (ev y) H k) : ∃ v H', k v H' ∧ OpStep P o ev H v H' := by
  unfold W.indexStr at h
  split at h
  · rename_i s κ n e1 e2
    obtain ⟨g1, h⟩ := h
    split at h
    · rename_i b hb
      refine ⟨_, _, h, .pure fun φ w cev s hx => ?_⟩
      have hx' := hx x (by rw [ho]; simp [Op.operands])
      have hy' := hx y (by rw [ho]; simp [Op.operands])
      rw [e1] at hx'; rw [e2] at hy'
      refine ⟨.int .u8 b.toNat, ?_, .int ..⟩
      simp [execOp, ho, hx'.of_string, hy'.of_int, Instr.index, run_underlying hu, asIntOf, g1, hb]
    · exact h.elim
  · exact h.elim

theorem W.field_sound {t : TypeId} {x : Operand} {j : Nat} {fs : Array Field} {f : Field} (ho : o.op = .field t x j) (hu : P.underlying t = some (.struct fs))
    (hf : fs[j]? = some f) (ht : isAggT P f.type = some false) (h : W.field f.offset (ev x) H k) : ∃ v H', k v H' ∧ OpStep P o ev H v H' := by
  unfold W.field at h
  split at h
  · rename_i vs e
    split at h
    · rename_i v hv
      refine ⟨_, _, h, .pure fun φ w cev s hx => ?_⟩
      have hx' := hx x (by rw [ho]; simp [Op.operands])
      rw [e] at hx'
      obtain ⟨vs', hx', hl, hr⟩ := hx'.of_agg
      obtain ⟨g1, rfl⟩ := Array.getElem?_eq_some_iff.1 hv
      refine ⟨vs'[f.offset]'(by omega), ?_, hr _ g1 (by omega)⟩
      have g2 : f.offset < vs'.size := by omega
      simp [execOp, ho, hx', Instr.field, run_underlying hu, hf, asAgg, part, isAgg_run ht, g2]
    · exact h.elim
  · exact h.elim

theorem W.fieldN_sound {t : TypeId} {x : Operand} {j : Nat} {fs : Array Field} {f : Field} {i : TypeInfo} (ho : o.op = .field t x j) (hu : P.underlying t = some (.struct fs))
    (hf : fs[j]? = some f) (ht : isAggT P f.type = some true) (hi : P.info? f.type = some i) (h : W.fieldN f.offset i.size (ev x) H k) : ∃ v H', k v H' ∧ OpStep P o ev H v H' := by
  unfold W.fieldN at h
  split at h
  · rename_i vs e
    refine ⟨_, _, h, .pure fun φ w cev s hx => ?_⟩
    have hx' := hx x (by rw [ho]; simp [Op.operands])
    rw [e] at hx'
    obtain ⟨vs', hx', hl, hr⟩ := hx'.of_agg
    refine ⟨.agg (vs'.extract f.offset (f.offset + i.size)), ?_, .agg _ _ (by simp [hl]) fun j h1 h2 => ?_⟩
    · simp [execOp, ho, hx', Instr.field, run_underlying hu, hf, asAgg, part, isAgg_run ht, sizeOf_run hi]
    · simp only [Array.getElem_extract]
      exact hr _ _ _
  · exact h.elim

theorem W.extract_sound {x : Operand} {j : Nat} (ho : o.op = .extract x j) (h : W.extract j (ev x) H k) : ∃ v H', k v H' ∧ OpStep P o ev H v H' := by
  unfold W.extract at h
  split at h
  · rename_i vs e
    split at h
    · rename_i v hv
      refine ⟨_, _, h, .pure fun φ w cev s hx => ?_⟩
      have hx' := hx x (by rw [ho]; simp [Op.operands])
      rw [e] at hx'
      obtain ⟨vs', hx', hl, hr⟩ := hx'.of_tuple
      obtain ⟨g1, rfl⟩ := Array.getElem?_eq_some_iff.1 hv
      refine ⟨vs'[j]'(by omega), ?_, hr _ g1 (by omega)⟩
      have g2 : j < vs'.size := by omega
      simp [execOp, ho, hx', Instr.extract, g2]
    · exact h.elim
  · exact h.elim

theorem W.nilCheck_sound {x : Operand} (ho : o.op = .nilCheck x) (h : W.nilCheck (ev x) H k) : ∃ v H', k v H' ∧ OpStep P o ev H v H' := by
  unfold W.nilCheck at h
  split at h
  · rename_i a e
    refine ⟨_, _, h, .pure fun φ w cev s hx => ?_⟩
    have hx' := hx x (by rw [ho]; simp [Op.operands])
    rw [e] at hx'
    obtain ⟨a', hx', har⟩ := hx'.of_ptr
    exact ⟨.pointer (some a'), by simp [execOp, ho, hx'], .ptr har⟩
  · exact h.elim

end

end Go.Ab

/-! Words on slices: len, cap, make, slicing, append, copy; composites; functions. -/
namespace Go.Ab

section
variable {P : Program} {o : Oper} {ev : Operand → Value} {k : Post} {H : Heap}

theorem VR.of_slice' {φ : Phi} {a : Option Addr} {n e : Nat} {v : Value} (h : VR φ H (.slice a n e) v) : ∃ a' c, v = .slice a' n c ∧ CR e c := by
  cases a with
  | none =>
    rcases h.of_snil with ⟨h1, h2, h3⟩ | ⟨⟨a, c, h1⟩, h2, h3⟩
    · exact ⟨none, 0, by rw [h1, h2], by subst h3; simp [CR]⟩
    · exact ⟨some a, c, by rw [h1, h2], by subst h3; simp [CR]⟩
  | some a => obtain ⟨a', c', h1, _, h2⟩ := h.of_slice; exact ⟨_, _, h1, h2⟩

theorem W.len_sound {t e : TypeId} {x : Operand} (ho : o.op = .call { callee := .builtin .len, args := #[x], argTypes := #[t] })
    (hu : P.underlying t = some (.slice e)) (h : W.len (ev x) H k) : ∃ v H', k v H' ∧ OpStep P o ev H v H' := by
  unfold W.len at h
  split at h
  · rename_i a n c e
    refine ⟨_, _, h, .pure fun φ w cev s hx => ?_⟩
    have hx' := hx x (by rw [ho]; simp [Op.operands, Call.operands])
    rw [e] at hx'
    obtain ⟨a', c', hx', _⟩ := hx'.of_slice'
    exact ⟨.int .i64 n, by simp [execOp, ho, resolve, invoke, builtin, hx', Builtin.len_, run_underlying hu, goInt], .int ..⟩
  · exact h.elim

theorem W.lenStr_sound {t : TypeId} {x : Operand} (ho : o.op = .call { callee := .builtin .len, args := #[x], argTypes := #[t] })
    (hu : P.underlying t = some .string) (h : W.lenStr (ev x) H k) : ∃ v H', k v H' ∧ OpStep P o ev H v H' := by
  unfold W.lenStr at h
  split at h
  · rename_i s e
    refine ⟨_, _, h, .pure fun φ w cev s hx => ?_⟩
    have hx' := hx x (by rw [ho]; simp [Op.operands, Call.operands])
    rw [e] at hx'
    exact ⟨_, by simp [execOp, ho, resolve, invoke, builtin, hx'.of_string, Builtin.len_, run_underlying hu, goInt], .int ..⟩
  · exact h.elim

theorem W.cap_sound {t e : TypeId} {x : Operand} (ho : o.op = .call { callee := .builtin .cap, args := #[x], argTypes := #[t] })
    (hu : P.underlying t = some (.slice e)) (h : W.cap (ev x) H k) : ∃ v H', k v H' ∧ OpStep P o ev H v H' := by
  unfold W.cap at h
  split at h
  · rename_i a n c e
    obtain ⟨h0, h⟩ := h
    refine ⟨_, _, h, .pure fun φ w cev s hx => ?_⟩
    have hx' := hx x (by rw [ho]; simp [Op.operands, Call.operands])
    rw [e] at hx'
    obtain ⟨a', c', hx', hc⟩ := hx'.of_slice'
    simp only [CR, h0, if_true] at hc
    subst hc
    exact ⟨_, by simp [execOp, ho, resolve, invoke, builtin, hx', Builtin.cap_, run_underlying hu, goInt], .int ..⟩
  · exact h.elim

/-! ### append -/

/-- The cells that an append takes: how many elements, and what they hold. -/
def srcCells (sz : Nat) (H : Heap) (y : Value) : Option (Nat × List Value) :=
  match y with
  | .slice none _ _ => some (0, [])
  | .slice (some b) m _ => if m = 0 then some (0, []) else (H.getN b (m * sz)).map fun cs => (m, cs)
  | _ => none

/-- What is appended to: its cells. -/
def oldCells (sz : Nat) (H : Heap) (base : Option Addr) (n : Nat) : Option (List Value) :=
  match base with
  | none => some []
  | some a => H.getN a (n * sz)

def appendTo (sz : Nat) (ty : TypeId) (x : Value) (m : Nat) (new : List Value) (k : Post) (H : Heap) : Prop :=
  match x with
  | .slice base n e =>
    if n + m ≤ e / 2 then
      if m = 0 then k (.slice base n e) H else
      match base with
      | none => False
      | some a => match H.setN (a.add (n * sz)) new with | some H' => k (.slice (some a) (n + m) e) H' | none => False
    else
      n + m ≤ 17179869184 ∧
      match oldCells sz H base n with
      | none => False
      | some old =>
        if e % 2 = 0 then k (.slice (some ⟨H.next, 0, none⟩) (n + m) (2 * (n + m) + 1)) (H.alloc (old ++ new) ty sz)
        else match base with
          | none => False
          | some a => a.off = 0 ∧ new.all isCell = true ∧ (match H.blk a.block with | some kb => kb.ro = false ∧ kb.ty = ty ∧ kb.esz = sz | none => False) ∧
            k (.slice (some ⟨H.next, 0, none⟩) (n + m) (2 * (n + m) + 1)) ((H.setBlk a.block none).alloc (old ++ new) ty sz)
  | _ => False

def W.append (sz : Nat) (ty : TypeId) (x y : Value) (H : Heap) (k : Post) : Prop :=
  match srcCells sz H y with
  | some (m, new) => appendTo sz ty x m new k H
  | none => False

theorem growBy_le (newLen : Nat) : ∀ (r c : Nat), c < newLen → Builtin.growBy newLen r c ≤ 2 * newLen + 1024
  | 0, c, h => by simp [Builtin.growBy]; omega
  | r + 1, c, h => by
    unfold Builtin.growBy
    split
    · omega
    · by_cases h2 : c + (c + 768) / 4 < newLen
      · exact growBy_le newLen r _ h2
      · cases r with
        | zero => simp [Builtin.growBy]; omega
        | succ r => unfold Builtin.growBy; rw [if_pos (by omega)]; omega

theorem nextslicecap_le {newLen oldCap : Nat} (h : oldCap < newLen) : Builtin.nextslicecap newLen oldCap ≤ 2 * newLen + 1024 := by
  unfold Builtin.nextslicecap
  split
  · omega
  · split
    · omega
    · exact growBy_le newLen 4 oldCap h

theorem append_in {t t2 ty e0 e2 : TypeId} {i : TypeInfo} {w : World} {base : Option Addr} {n c m : Nat} {yv : Value} {new : List Value}
    (hu : P.underlying t = some (.slice e0)) (hi : P.info? e0 = some i) (hu2 : P.underlying t2 = some (.slice e2))
    (hlen : (Builtin.lenOf yv).run P w = .ok m w) (hnew : (Builtin.firstCells i.size m yv).run P w = .ok new.toArray w) (hle : n + m ≤ c) :
    (Builtin.append_ #[t, t2] ty #[.slice base n c, yv]).run P w =
      match base with
      | some a => ((storeCells (a.add (n * i.size)) new).run P w).andThen fun _ w' => .ok (.slice base (n + m) c) w'
      | none => .ok (.slice base (n + m) c) w := by
  cases base <;> simp [Builtin.append_, run_underlying hu, run_underlying hu2, sizeOf_run hi, hlen, hnew, hle]

theorem append_new {t t2 ty e0 e2 : TypeId} {i : TypeInfo} {z : Value} {w : World} {base : Option Addr} {n c m : Nat} {yv : Value} {old new : List Value}
    (hu : P.underlying t = some (.slice e0)) (hi : P.info? e0 = some i) (hz : i.zero = some z) (hzs : z.cells.size = i.size) (hb : i.bytes ≤ 1024) (hu2 : P.underlying t2 = some (.slice e2))
    (hlen : (Builtin.lenOf yv).run P w = .ok m w) (hnew : (Builtin.firstCells i.size m yv).run P w.drew = .ok new.toArray w.drew)
    (hold : (Builtin.firstCells i.size n (.slice base n c)).run P w.drew = .ok old.toArray w.drew)
    (hle : ¬ n + m ≤ c) (hs : n + m ≤ 17179869184) :
    ∃ (c' : Nat) (rest : Array Value), n + m ≤ c' ∧ rest.size = (c' - (n + m)) * i.size ∧
      (Builtin.append_ #[t, t2] ty #[.slice base n c, yv]).run P w =
        .ok (.slice (some ⟨w.heap.size, 0, none⟩) (n + m) c') (w.drew.alloc (.cells (old.toArray ++ (new.toArray ++ rest)) e0)) := by
  have hcap : ¬ Builtin.nextslicecap (n + m) c * i.bytes > 2 ^ 48 := by
    have h1 := nextslicecap_le (newLen := n + m) (oldCap := c) (by omega)
    have h2 : Builtin.nextslicecap (n + m) c * i.bytes ≤ (2 * 17179869184 + 1024) * 1024 := Nat.mul_le_mul (by omega) hb
    omega
  refine ⟨(Question.appendCap (n + m) c e0).cut (w.tape w.drawn (.appendCap (n + m) c e0)), Builtin.zeroCells z.cells ((Question.appendCap (n + m) c e0).cut (w.tape w.drawn (.appendCap (n + m) c e0)) - (n + m)), ?_, ?_, ?_⟩
  · simp [Question.cut]
  · simp [Builtin.zeroCells, hzs]
  · have hbig : ¬ ((n : Int) + m > IntKind.i64.max ∧ i.bytes = 0) := by simp; omega
    simp [Builtin.append_, run_underlying hu, run_underlying hu2, sizeOf_run hi, hlen, hle, typeInfo, hi, choose, Sem.run, Question.forced, askRoom]
    rw [if_neg (by simp at hbig ⊢; omega), if_neg (by omega)]
    simp [hold, hnew, zeroValue, typeInfo, hi, hz, run_newRow]

theorem Sim.drew {φ : Phi} {w : World} (s : Sim φ H w) : Sim φ H w.drew := s.drawn _

theorem src_run {φ : Phi} {w : World} {sz m : Nat} {y yv : Value} {new : List Value} (h : srcCells sz H y = some (m, new)) (s : Sim φ H w) (r : VR φ H y yv) :
    ∃ new' : List Value, new.length = new'.length ∧ new.length = m * sz ∧ (∀ (i : Nat) (v v' : Value), new[i]? = some v → new'[i]? = some v' → VR φ H v v') ∧
      (∀ w', (Builtin.lenOf yv).run P w' = .ok m w') ∧ (Builtin.firstCells sz m yv).run P w = .ok new'.toArray w := by
  unfold srcCells at h
  split at h
  · cases h
    rcases r.of_snil with ⟨rfl, -, -⟩ | ⟨⟨a, c, rfl⟩, -, -⟩
    · exact ⟨[], rfl, by simp, fun i v v' h => by simp at h, fun _ => rfl, rfl⟩
    · refine ⟨[], rfl, by simp, fun i v v' h => by simp at h, fun _ => rfl, ?_⟩
      simp [Builtin.firstCells, loadCells, loadCellsFrom]
  · rename_i b n c
    split at h
    · rename_i h0
      cases h
      subst h0
      obtain ⟨b', c', rfl, _, _⟩ := r.of_slice
      exact ⟨[], rfl, by simp, fun i v v' h => by simp at h, fun _ => rfl, by simp [Builtin.firstCells, loadCells, loadCellsFrom]⟩
    simp only [Option.map_eq_some_iff, Prod.mk.injEq] at h
    obtain ⟨cs, hcs, rfl, rfl⟩ := h
    obtain ⟨b', c', rfl, har, _⟩ := r.of_slice
    obtain ⟨vs', h1, h2, h3, h4⟩ := s.getN har hcs
    have hl := run_loadCells_list (P := P) w b' vs' h3
    rw [h1] at hl
    exact ⟨vs', by omega, h2, h4, fun _ => rfl, by simpa [Builtin.firstCells] using hl⟩
  · cases h

theorem old_run {φ : Phi} {w : World} {sz n e : Nat} {base : Option Addr} {xv : Value} {old : List Value} (h : oldCells sz H base n = some old) (s : Sim φ H w) (r : VR φ H (.slice base n e) xv) :
    ∃ (base' : Option Addr) (c : Nat) (old' : List Value), xv = .slice base' n c ∧ CR e c ∧ old.length = old'.length ∧ old.length = n * sz ∧
      (∀ (i : Nat) (v v' : Value), old[i]? = some v → old'[i]? = some v' → VR φ H v v') ∧
      (Builtin.firstCells sz n (.slice base' n c)).run P w = .ok old'.toArray w := by
  unfold oldCells at h
  split at h
  · cases h
    rcases r.of_snil with ⟨rfl, rfl, rfl⟩ | ⟨⟨a, c, rfl⟩, rfl, rfl⟩
    · exact ⟨none, 0, [], rfl, by simp [CR], rfl, by simp, fun i v v' h => by simp at h, rfl⟩
    · refine ⟨some a, c, [], rfl, by simp [CR], rfl, by simp, fun i v v' h => by simp at h, ?_⟩
      simp [Builtin.firstCells, loadCells, loadCellsFrom]
  · rename_i a
    obtain ⟨a', c', rfl, har, hc⟩ := r.of_slice
    obtain ⟨vs', h1, h2, h3, h4⟩ := s.getN har h
    have hl := run_loadCells_list (P := P) w a' vs' h3
    rw [h1] at hl
    exact ⟨some a', c', vs', rfl, hc, by omega, h2, h4, by simpa [Builtin.firstCells] using hl⟩

theorem getElem?_append_VR {φ : Phi} {xs ys xs' ys' : List Value} (hl : xs.length = xs'.length) (h1 : ∀ (i : Nat) (v v' : Value), xs[i]? = some v → xs'[i]? = some v' → VR φ H v v')
    (hl2 : ys.length = ys'.length) (h2 : ∀ (i : Nat) (v v' : Value), ys[i]? = some v → ys'[i]? = some v' → VR φ H v v') (rest : List Value) :
    ∀ (i : Nat) (v : Value), (xs ++ ys)[i]? = some v → ∃ v', (xs' ++ (ys' ++ rest))[i]? = some v' ∧ VR φ H v v' := by
  intro i v hv
  by_cases hi : i < xs.length
  · rw [List.getElem?_append_left hi] at hv
    refine ⟨xs'[i]'(by omega), ?_, h1 i v _ hv (by simp)⟩
    rw [List.getElem?_append_left (by omega)]
    simp
  · rw [List.getElem?_append_right (by omega)] at hv
    have hi2 : i - xs.length < ys.length := (List.getElem?_eq_some_iff.1 hv).1
    refine ⟨ys'[i - xs.length]'(by omega), ?_, h2 _ v _ hv (by simp)⟩
    rw [List.getElem?_append_right (by omega), ← hl, List.getElem?_append_left (by omega)]
    simp

/-- What the world's append does where there is room. -/
def SrcIn (P : Program) (o : Oper) (ev : Operand → Value) (H : Heap) (t t2 : TypeId) (x y : Operand) (i : TypeInfo) (m : Nat) (new : List Value) : Prop :=
  ∀ (φ : Phi) (w : World) (cev : Operand → Value), Sim φ H w → (∀ x, x ∈ o.op.operands.toList → VR φ H (ev x) (cev x)) → ∃ new' : List Value, new.length = new'.length ∧
    (∀ (i : Nat) (v v' : Value), new[i]? = some v → new'[i]? = some v' → VR φ H v v') ∧ ∀ base n c, cev x = .slice base n c → n + m ≤ c →
      (Builtin.append_ #[t, t2] o.type #[cev x, cev y]).run P w = match base with
        | some a => ((storeCells (a.add (n * i.size)) new').run P w).andThen fun _ w' => .ok (.slice base (n + m) c) w'
        | none => .ok (.slice base (n + m) c) w

/-- What it does where there is none. -/
def SrcNew (P : Program) (o : Oper) (ev : Operand → Value) (H : Heap) (t t2 e0 : TypeId) (x y : Operand) (i : TypeInfo) (m : Nat) (new : List Value) : Prop :=
  ∀ (φ : Phi) (w : World) (cev : Operand → Value), Sim φ H w → (∀ x, x ∈ o.op.operands.toList → VR φ H (ev x) (cev x)) → ∃ new' : List Value, new.length = new'.length ∧
    (∀ (i : Nat) (v v' : Value), new[i]? = some v → new'[i]? = some v' → VR φ H v v') ∧ ∀ base n c (old : List Value), cev x = .slice base n c → ¬ n + m ≤ c → n + m ≤ 17179869184 →
      (Builtin.firstCells i.size n (.slice base n c)).run P w.drew = .ok old.toArray w.drew →
      ∃ (c' : Nat) (rest : Array Value), n + m ≤ c' ∧ rest.size = (c' - (n + m)) * i.size ∧
        (Builtin.append_ #[t, t2] o.type #[cev x, cev y]).run P w = .ok (.slice (some ⟨w.heap.size, 0, none⟩) (n + m) c') (w.drew.alloc (.cells (old.toArray ++ (new'.toArray ++ rest)) e0))

theorem appendTo_sound {t t2 e0 : TypeId} {x y : Operand} {i : TypeInfo} {m : Nat} {new : List Value} (ho : o.op = .call { callee := .builtin .append, args := #[x, y], argTypes := #[t, t2] })
    (hlenN : new.length = m * i.size) (hS1 : SrcIn P o ev H t t2 x y i m new) (hS2 : SrcNew P o ev H t t2 e0 x y i m new) (h : appendTo i.size e0 (ev x) m new k H) : ∃ v H', k v H' ∧ OpStep P o ev H v H' := by
  have hex : ∀ (cev : Operand → Value) (w w' : World) (v : Value), (Builtin.append_ #[t, t2] o.type #[cev x, cev y]).run P w = .ok v w' → (execOp cev o).run P w = .ok (.value v) w' := by
    intro cev w w' v hr
    simp [execOp, ho, resolve, invoke, builtin, hr]
  have hX : ∀ {φ : Phi} {cev : Operand → Value}, (∀ x, x ∈ o.op.operands.toList → VR φ H (ev x) (cev x)) → VR φ H (ev x) (cev x) ∧ VR φ H (ev y) (cev y) := fun hx =>
    ⟨hx x (by rw [ho]; simp [Op.operands, Call.operands]), hx y (by rw [ho]; simp [Op.operands, Call.operands])⟩
  unfold appendTo at h
  split at h
  · rename_i base n e ex
    split at h
    · rename_i hle
      split at h
      · rename_i hm
        subst hm
        refine ⟨_, _, h, .value fun φ w cev s hx => ?_⟩
        obtain ⟨rx, ry⟩ := hX hx
        rw [ex] at rx
        obtain ⟨new', l1, r1, hin⟩ := hS1 φ w cev s hx
        have hn0 : new' = [] := List.eq_nil_of_length_eq_zero (by omega)
        subst hn0
        obtain ⟨base', c, exv, hc⟩ := rx.of_slice'
        have hcc : n + 0 ≤ c := by unfold CR at hc; split at hc <;> omega
        refine ⟨cev x, w, φ, hex cev w w _ ?_, .refl s, rx⟩
        rw [hin _ _ _ exv hcc, exv]
        cases base' <;> simp [storeCells]
      · split at h
        · exact h.elim
        · rename_i a
          split at h
          · rename_i H' hset
            refine ⟨_, _, h, .value fun φ w cev s hx => ?_⟩
            obtain ⟨rx, ry⟩ := hX hx
            rw [ex] at rx
            obtain ⟨new', l1, r1, hin⟩ := hS1 φ w cev s hx
            obtain ⟨a', c, exv, har, hc⟩ := rx.of_slice
            have hcc : n + m ≤ c := by unfold CR at hc; split at hc <;> omega
            obtain ⟨w', hst, hext⟩ := s.setN (har.add (n * i.size)) hset l1 r1 P
            refine ⟨.slice (some a') (n + m) c, w', φ, hex cev w w' _ ?_, hext, ?_⟩
            · rw [hin _ _ _ exv hcc]
              simp [hst]
            · rw [exv] at rx
              have rx' := rx.ext hext
              cases rx' with
              | slice h1 h2 h3 => exact .slice h1 h2 h3
          · exact h.elim
    · rename_i hle
      obtain ⟨hs, h⟩ := h
      split at h
      · exact h.elim
      · rename_i old hold
        -- a new block, whatever the world's capacity
        have fresh : ∀ (φ : Phi) (w : World) (cev : Operand → Value), Sim φ H w → (∀ x, x ∈ o.op.operands.toList → VR φ H (ev x) (cev x)) →
            (∀ base' c, cev x = .slice base' n c → ¬ n + m ≤ c) → ∀ (φk : Phi) (Hk : Heap), Ext φ H w φk Hk w →
            ∃ cv w' φ', (execOp cev o).run P w = .ok (.value cv) w' ∧ Ext φ H w φ' (Hk.alloc (old ++ new) e0 i.size) w' ∧
              VR φ' (Hk.alloc (old ++ new) e0 i.size) (.slice (some ⟨Hk.next, 0, none⟩) (n + m) (2 * (n + m) + 1)) cv := by
          intro φ w cev s hx hnot φk Hk xk
          obtain ⟨rx, ry⟩ := hX hx
          rw [ex] at rx
          obtain ⟨new', l1, r1, hnw⟩ := hS2 φ w cev s hx
          obtain ⟨base', c, old', exv, hc, l3, l4, r2, hold'⟩ := old_run (P := P) hold s.drew rx
          obtain ⟨c', rest, hc', hrest, hrun⟩ := hnw base' n c old' exv (hnot base' c exv) hs hold'
          obtain ⟨φ', h1, h2⟩ := xk.sim.drew.alloc (old ++ new) (old'.toArray ++ (new'.toArray ++ rest)) e0 i.size (by simp; omega) (fun j v hj => by
            obtain ⟨v', g1, g2⟩ := getElem?_append_VR l3 (fun i v v' a b => (r2 i v v' a b).ext xk) l1 (fun i v v' a b => (r1 i v v' a b).ext xk) rest.toList j v hj
            exact ⟨v', by rw [← Array.getElem?_toList]; simpa using g1, g2⟩)
          refine ⟨_, _, φ', hex cev w _ _ hrun, ?_, ?_⟩
          · exact (xk.drawn _).trans h2
          · refine .slice (new_ptr h1) ?_ ?_
            · unfold CR; rw [if_neg (by omega)]; omega
            · intro kb hkb _
              simp only [Heap.alloc, if_true] at hkb
              cases hkb
              refine ⟨_, h1, ?_⟩
              have hsz : c' * i.size = (n + m) * i.size + (c' - (n + m)) * i.size := by
                rw [← Nat.add_mul]
                congr 1
                omega
              simp only [Array.size_append, List.size_toArray, hrest, Nat.zero_add, Nat.add_mul] at hsz ⊢
              omega
        split at h
        · rename_i he
          refine ⟨_, _, h, .value fun φ w cev s hx => fresh φ w cev s hx ?_ φ H (.refl s)⟩
          intro base' c exv
          obtain ⟨rx, -⟩ := hX hx
          rw [ex, exv] at rx
          obtain ⟨_, c2, e2', hc⟩ := rx.of_slice'
          cases e2'
          simp only [CR, he, if_true] at hc
          omega
        · rename_i he
          split at h
          · exact h.elim
          · rename_i a
            obtain ⟨ha0, hcell, hkb, h⟩ := h
            split at hkb
            · rename_i kb hk
              obtain ⟨hro, hty, hesz⟩ := hkb
              refine ⟨_, _, h, .value fun φ w cev s hx => ?_⟩
              obtain ⟨rx, ry⟩ := hX hx
              rw [ex] at rx
              have rx0 := rx
              obtain ⟨a', c, exv, har, hc⟩ := rx0.of_slice
              by_cases hfit : n + m ≤ c
              · -- in place
                obtain ⟨new', l1, r1, hin⟩ := hS1 φ w cev s hx
                obtain ⟨base', c1, old', exv', _, l3, l4, r2, _⟩ := old_run (P := P) hold s rx
                rw [exv] at rx0
                cases rx0 with
                | slice har' hc' hroom =>
                  obtain ⟨r, hr, hrle⟩ := hroom kb hk (by omega)
                  obtain ⟨arr, fz, g1, g2, g3, g4, g5⟩ := s.cells _ kb _ r hk hr
                  rw [g2 hro] at g1
                  have hofs : n * i.size + m * i.size ≤ r := by
                    rw [← Nat.add_mul]
                    have := Nat.mul_le_mul_right i.size hfit
                    rw [hesz, ha0] at hrle
                    omega
                  have ha' : a' = ⟨a'.block, 0, none⟩ := by
                    cases a' with | mk b of sp => have := har.off; have := har.spot'; simp_all
                  have hcell' : ∀ v ∈ new', v.oneCell' = true := by
                    intro v' hv'
                    obtain ⟨j, hj, rfl⟩ := List.mem_iff_getElem.1 hv'
                    have hj2 : j < new.length := by omega
                    have := r1 j new[j] new'[j] (by simp) (by simp)
                    exact (this.cell (List.all_eq_true.1 hcell _ (List.getElem_mem hj2))).2.1
                  have hadd : a'.add (n * i.size) = ⟨a'.block, n * i.size, none⟩ := by
                    have hoff : a'.off = 0 := by have := har.off; omega
                    unfold Addr.add
                    split
                    · rename_i h0; rw [h0]; exact ha'
                    · simp [hoff]
                  have hst := run_storeCells_at P a'.block (n * i.size) kb.ty new' 0 arr w g1 (by simp; omega) hcell'
                  rw [← hadd, Nat.add_zero] at hst
                  have hgetold : old = kb.cells.take (n * i.size) ∧ n * i.size ≤ kb.cells.length := by
                    have := hold
                    simp only [oldCells, Heap.getN, hk, Option.bind_some, ha0, Nat.zero_add, List.drop_zero] at this
                    split at this
                    · cases this; exact ⟨rfl, by assumption⟩
                    · cases this
                  obtain ⟨φ', h1, h2⟩ := s.move hk hr hro (old ++ new) (List.take (n * i.size) arr.toList ++ new' ++ List.drop (n * i.size + new'.length) arr.toList).toArray
                    (by simp; omega) (by simp; omega) (fun j v hj => by
                      have hold2 : ∀ (q : Nat) (v v' : Value), old[q]? = some v → (List.take (n * i.size) arr.toList)[q]? = some v' → VR φ H v v' := by
                        intro q v v' hq hq'
                        rw [hgetold.1, List.getElem?_take] at hq
                        rw [List.getElem?_take] at hq'
                        split at hq
                        · rename_i hlt
                          rw [if_pos hlt] at hq'
                          obtain ⟨u, u1, u2⟩ := g5 q v hq
                          have : some u = some v' := by rw [← u1, ← hq']; simp
                          cases this
                          exact u2
                        · cases hq
                      obtain ⟨v', q1, q2⟩ := getElem?_append_VR (xs := old) (xs' := List.take (n * i.size) arr.toList) (by simp; omega) hold2 l1 r1 (List.drop (n * i.size + new'.length) arr.toList) j v hj
                      exact ⟨v', by simpa using q1, q2⟩)
                  rw [hty, hesz] at h2
                  refine ⟨.slice (some a') (n + m) c, _, φ', hex cev w _ _ ?_, h2, ?_⟩
                  · rw [hin _ _ _ exv hfit]
                    simp [hst]
                  · refine .slice ⟨rfl, har.spot', by rw [ha'], by simp [Heap.alloc, Heap.setBlk], fun _ _ => ⟨r, h1⟩⟩ ?_ ?_
                    · unfold CR; rw [if_neg (by omega)]; omega
                    · intro kb' hkb' _
                      simp only [Heap.alloc, Heap.setBlk, if_true] at hkb'
                      cases hkb'
                      refine ⟨r, h1, ?_⟩
                      rw [hesz, ha0] at hrle
                      simpa using hrle
              · -- a new block; the old one's name is given up
                exact fresh φ w cev s hx (fun base' c1 e1 => by rw [exv] at e1; cases e1; exact hfit) _ _ (s.kill hk)
            · exact hkb.elim
  · exact h.elim

theorem W.append_sound {t t2 e0 e2 : TypeId} {x y : Operand} {i : TypeInfo} {z : Value} (ho : o.op = .call { callee := .builtin .append, args := #[x, y], argTypes := #[t, t2] })
    (hu : P.underlying t = some (.slice e0)) (hi : P.info? e0 = some i) (hz : i.zero = some z) (hzs : z.cells.size = i.size) (hb : i.bytes ≤ 1024)
    (hu2 : P.underlying t2 = some (.slice e2)) (h : W.append i.size e0 (ev x) (ev y) H k) : ∃ v H', k v H' ∧ OpStep P o ev H v H' := by
  unfold W.append at h
  split at h
  · rename_i m new hsrc
    have hY : ∀ {φ : Phi} {cev : Operand → Value}, (∀ x, x ∈ o.op.operands.toList → VR φ H (ev x) (cev x)) → VR φ H (ev y) (cev y) := fun hx => hx y (by rw [ho]; simp [Op.operands, Call.operands])
    by_cases hl : new.length = m * i.size
    · refine appendTo_sound ho hl (fun φ w cev s hx => ?_) (fun φ w cev s hx => ?_) h
      · obtain ⟨new', l1, l2, r1, hlen, hnew⟩ := src_run (P := P) hsrc s (hY hx)
        exact ⟨new', l1, r1, fun base n c e hle => by rw [e]; exact append_in hu hi hu2 (hlen w) hnew hle⟩
      · obtain ⟨new', l1, l2, r1, hlen, hnew⟩ := src_run (P := P) hsrc s.drew (hY hx)
        exact ⟨new', l1, r1, fun base n c old e hle hs hold => by rw [e]; exact append_new hu hi hz hzs hb hu2 (hlen w) hnew hold hle hs⟩
    · -- the source's length is as told
      exfalso
      apply hl
      revert hsrc
      unfold srcCells
      split
      · intro h; cases h; simp
      · split
        · intro h; cases h; simp
        · intro h
          simp only [Option.map_eq_some_iff, Prod.mk.injEq] at h
          obtain ⟨cs, hcs, rfl, rfl⟩ := h
          simp only [Heap.getN, Option.bind_eq_some_iff] at hcs
          obtain ⟨kb, _, hcs⟩ := hcs
          split at hcs
          · cases hcs; simp; omega
          · cases hcs
      · intro h; cases h
  · exact h.elim

end
end Go.Ab

/-! Words that make: make, slicing, composites, function values; numbers' max and min; copy. -/
namespace Go.Ab

def reps (c : Nat) (zc : List Value) : List Value := (List.replicate c zc).flatten

theorem reps_length (c : Nat) (zc : List Value) : (reps c zc).length = c * zc.length := by
  simp [reps, List.length_flatten]

theorem range_reps (zero : Array Value) (c : Nat) : (Array.range (c * zero.size)).map (fun i => zero[i % zero.size]!) = (reps c zero.toList).toArray := by
  induction c with
  | zero => simp [reps]
  | succ c ih =>
    apply Array.ext'
    have h1 : Array.range ((c + 1) * zero.size) = Array.range (c * zero.size) ++ (Array.range zero.size).map (c * zero.size + ·) := by
      rw [Nat.succ_mul, Array.range_add]
    have h2 : reps (c + 1) zero.toList = reps c zero.toList ++ zero.toList := by
      simp [reps, List.replicate_succ', List.flatten_append]
    rw [h1, Array.map_append, ih, h2]
    simp only [Array.toList_append, List.append_cancel_left_eq]
    apply List.ext_getElem?
    intro j
    simp only [Array.map_map, Array.toList_map, List.getElem?_map, Array.toList_range]
    by_cases hj : j < zero.size
    · have : (c * zero.size + j) % zero.size = j := by rw [Nat.mul_comm, Nat.mul_add_mod, Nat.mod_eq_of_lt hj]
      simp [hj, this]
    · simp [hj]

/-- make of a slice. -/
def W.make (zc : List Value) (ty : TypeId) (l c : Value) (H : Heap) (k : Post) : Prop :=
  match l, c with
  | .int _ n, .int _ m => 0 ≤ n ∧ n ≤ m ∧ m ≤ 17179869184 ∧ k (.slice (some ⟨H.next, 0, none⟩) n.toNat (2 * m.toNat)) (H.alloc (reps m.toNat zc) ty zc.length)
  | _, _ => False

/-- A slice of a slice. -/
def W.slice (sz : Nat) (x : Value) (lo hi : Option Value) (H : Heap) (k : Post) : Prop :=
  match x with
  | .slice base n e =>
    match (match lo with | none => some (0 : Int) | some (.int _ l) => some l | _ => none), (match hi with | none => some (n : Int) | some (.int _ h) => some h | _ => none) with
    | some l, some h =>
      0 ≤ l ∧ l ≤ h ∧ h ≤ (e / 2 : Nat) ∧
      (match base with
      | none => k (.slice none 0 e) H
      | some a =>
        if l.toNat = e / 2 then (if e % 2 = 0 then k (.slice (some a) 0 0) H else k (.slice none 0 1) H)
        else if l.toNat = 0 then k (.slice (some a) h.toNat e) H
        else (match H.blk a.block with | some kb => kb.esz = sz | none => False) ∧ k (.slice (some (a.add (l.toNat * sz))) (h.toNat - l.toNat) (e - 2 * l.toNat)) H)
    | _, _ => False
  | _ => False

/-- A slice of a slice whose capacity is told, too. -/
def W.slice3 (sz : Nat) (x lo hi mx : Value) (H : Heap) (k : Post) : Prop :=
  match x, lo, hi, mx with
  | .slice base _ e, .int _ l, .int _ h, .int _ m =>
      0 ≤ l ∧ l ≤ h ∧ h ≤ m ∧ m ≤ (e / 2 : Nat) ∧
      (match base with
      | none => e = 0 ∧ k (.slice none 0 0) H
      | some a => if l = m then k (.slice (some a) 0 0) H else k (.slice (some (a.add (l.toNat * sz))) (h.toNat - l.toNat) (2 * (m.toNat - l.toNat))) H)
  | _, _, _, _ => False

def W.sliceStr (x : Value) (lo hi : Option Value) (H : Heap) (k : Post) : Prop :=
  match x with
  | .string s =>
    match (match lo with | none => some (0 : Int) | some (.int _ l) => some l | _ => none), (match hi with | none => some (s.size : Int) | some (.int _ h) => some h | _ => none) with
    | some l, some h => 0 ≤ l ∧ l ≤ h ∧ h ≤ s.size ∧ k (.string (s.extract l.toNat h.toNat)) H
    | _, _ => False
  | _ => False

def W.max2 (x y : Value) (H : Heap) (k : Post) : Prop :=
  match x, y with | .int κ a, .int _ b => k (.int κ (if b > a then b else a)) H | _, _ => False

def W.min2 (x y : Value) (H : Heap) (k : Post) : Prop :=
  match x, y with | .int κ a, .int _ b => k (.int κ (if b < a then b else a)) H | _, _ => False

/-! ### Composites -/

def cellsA (v : Value) : Option (List Value) :=
  match v with
  | .agg vs => some vs.toList
  | v => if isCell v then some [v] else none

/-- Parts put in place: each with where it lies and how many cells it takes. -/
def fillA (cells : List Value) : List (Nat × Nat × Value) → Option (List Value)
  | [] => some cells
  | (off, sz, v) :: rest =>
    match cellsA v with
    | some vc => if vc.length = sz ∧ off + sz ≤ cells.length then fillA (cells.take off ++ vc ++ cells.drop (off + sz)) rest else none
    | none => none

def W.build (zero : List Value) (parts : List (Nat × Nat × Value)) (H : Heap) (k : Post) : Prop :=
  match fillA zero parts with | some cells => k (.agg cells.toArray) H | none => False

def W.lit (n : Nat) (zc : List Value) (ty : TypeId) (parts : List (Nat × Nat × Value)) (H : Heap) (k : Post) : Prop :=
  match fillA (reps n zc) parts with
  | some cells => k (.slice (some ⟨H.next, 0, none⟩) n (2 * n)) (H.alloc cells ty zc.length)
  | none => False

theorem foldl_set (l : List Value) (off : Nat) : ∀ (n : Nat) (arr : Array Value), off + n + l.length ≤ arr.size →
    ((l.zipIdx n).foldl (fun cs (p : Value × Nat) => cs.setIfInBounds (off + p.2) p.1) arr).toList = arr.toList.take (off + n) ++ l ++ arr.toList.drop (off + n + l.length) := by
  induction l with
  | nil => intro n arr _; simp
  | cons v l ih =>
    intro n arr h
    simp only [List.length_cons] at h
    simp only [List.zipIdx_cons, List.foldl_cons]
    rw [ih (n + 1) _ (by simp; omega)]
    have e := list_seg_step arr.toList (off + n) v l (by simp; omega)
    simp only [Array.toList_setIfInBounds, List.length_cons]
    rw [show off + (n + 1) = off + n + 1 by omega]
    exact e

section
variable {P : Program} {o : Oper} {ev : Operand → Value} {k : Post} {H : Heap} {φ : Phi}

/-- Lists whose values stand for each other. -/
def LR (φ : Phi) (H : Heap) (xs ys : List Value) : Prop := xs.length = ys.length ∧ ∀ (i : Nat) (v v' : Value), xs[i]? = some v → ys[i]? = some v' → VR φ H v v'

theorem LR.nil : LR φ H [] [] := ⟨rfl, fun i v v' h => by simp at h⟩

theorem LR.append {xs xs' ys ys' : List Value} (h1 : LR φ H xs xs') (h2 : LR φ H ys ys') : LR φ H (xs ++ ys) (xs' ++ ys') := by
  refine ⟨by simp [h1.1, h2.1], fun i v v' hv hv' => ?_⟩
  by_cases hi : i < xs.length
  · rw [List.getElem?_append_left hi] at hv
    rw [List.getElem?_append_left (by have := h1.1; omega)] at hv'
    exact h1.2 i v v' hv hv'
  · rw [List.getElem?_append_right (by omega)] at hv
    rw [List.getElem?_append_right (by have := h1.1; omega), ← h1.1] at hv'
    exact h2.2 _ v v' hv hv'

theorem LR.take {xs xs' : List Value} (h : LR φ H xs xs') (n : Nat) : LR φ H (xs.take n) (xs'.take n) := by
  refine ⟨by simp [h.1], fun i v v' hv hv' => ?_⟩
  rw [List.getElem?_take] at hv hv'
  split at hv
  · rename_i hi; rw [if_pos hi] at hv'; exact h.2 i v v' hv hv'
  · cases hv

theorem LR.drop {xs xs' : List Value} (h : LR φ H xs xs') (n : Nat) : LR φ H (xs.drop n) (xs'.drop n) := by
  refine ⟨by simp [h.1], fun i v v' hv hv' => ?_⟩
  rw [List.getElem?_drop] at hv hv'
  exact h.2 _ v v' hv hv'

theorem LR.plain {xs : List Value} (h : xs.all plainV = true) : LR φ H xs xs :=
  ⟨rfl, fun i v v' hv hv' => by rw [hv] at hv'; cases hv'; exact plainV_VR (List.all_eq_true.1 h _ (List.mem_of_getElem? hv))⟩

theorem LR.one {v v' : Value} (h : VR φ H v v') : LR φ H [v] [v'] :=
  ⟨rfl, fun i u u' hu hu' => by cases i with | zero => simp at hu hu'; subst hu; subst hu'; exact h | succ i => simp at hu⟩

theorem LR.arr {xs ys : Array Value} (hl : xs.size = ys.size) (h : ∀ i (h : i < xs.size) (h' : i < ys.size), VR φ H xs[i] ys[i]) : LR φ H xs.toList ys.toList :=
  ⟨by simpa using hl, fun i v v' hv hv' => by
    simp only [Array.getElem?_toList] at hv hv'
    obtain ⟨g1, rfl⟩ := Array.getElem?_eq_some_iff.1 hv
    obtain ⟨g2, rfl⟩ := Array.getElem?_eq_some_iff.1 hv'
    exact h i g1 g2⟩

theorem LR.agg {xs ys : List Value} (h : LR φ H xs ys) : VR φ H (.agg xs.toArray) (.agg ys.toArray) :=
  .agg _ _ (by simpa using h.1) fun i h1 h2 => h.2 i _ _ (by simp) (by simp)

theorem LR.cell {xs ys : List Value} (h : LR φ H xs ys) : ∀ (i : Nat) (v : Value), xs[i]? = some v → ∃ v', ys.toArray[i]? = some v' ∧ VR φ H v v' := by
  intro i v hv
  have hi : i < xs.length := (List.getElem?_eq_some_iff.1 hv).1
  have hi2 : i < ys.length := by have := h.1; omega
  exact ⟨ys[i], by simp [hi2], h.2 i v _ hv (by simp)⟩

theorem cellsA_VR {v v' : Value} {vc : List Value} (h : cellsA v = some vc) (r : VR φ H v v') : LR φ H vc v'.cells.toList := by
  unfold cellsA at h
  split at h
  · cases h
    obtain ⟨ys, rfl, hl, hr⟩ := r.of_agg
    exact LR.arr hl hr
  · split at h
    · rename_i hc
      cases h
      rw [(r.cell hc).1]
      exact .one r
    · cases h

theorem fill_run {place : Nat → Option (Nat × Nat)} : ∀ (ps : List (Nat × Value)) (pa : List (Nat × Nat × Value)) (cells : List Value) (cells' : Array Value) (out : List Value),
    fillA cells pa = some out → LR φ H cells cells'.toList → ps.length = pa.length →
    (∀ (j : Nat) (off sz : Nat) (v : Value), pa[j]? = some (off, sz, v) → ∃ i v', ps[j]? = some (i, v') ∧ place i = some (off, sz) ∧ VR φ H v v') →
    ∃ out', Instr.fill place cells' ps = some out' ∧ LR φ H out out'.toList
  | [], pa, cells, cells', out, h, r, hl, _ => by
    cases pa with
    | nil => simp only [fillA] at h; cases h; exact ⟨cells', rfl, r⟩
    | cons => simp at hl
  | (i, v') :: ps, pa, cells, cells', out, h, r, hl, hp => by
    cases pa with
    | nil => simp at hl
    | cons q pa =>
      obtain ⟨off, sz, v⟩ := q
      obtain ⟨i2, v2, e1, e2, e3⟩ := hp 0 off sz v rfl
      simp only [List.getElem?_cons_zero, Option.some.injEq, Prod.mk.injEq] at e1
      obtain ⟨rfl, rfl⟩ := e1
      simp only [fillA] at h
      split at h
      · rename_i vc hvc
        split at h
        · rename_i hc
          obtain ⟨hc1, hc2⟩ := hc
          have rv := cellsA_VR hvc e3
          have hvl : v'.cells.size = sz := by have := rv.1; simp at this; omega
          have hcl : cells'.size = cells.length := by have := r.1; simp at this; omega
          have hstep : (v'.cells.zipIdx.foldl (fun cs (p : Value × Nat) => cs.setIfInBounds (off + p.2) p.1) cells').toList = cells'.toList.take off ++ v'.cells.toList ++ cells'.toList.drop (off + sz) := by
            rw [← Array.foldl_toList, Array.toList_zipIdx]
            have := foldl_set v'.cells.toList off 0 cells' (by simp; omega)
            simpa [hvl] using this
          obtain ⟨out', g1, g2⟩ := fill_run ps pa _ (v'.cells.zipIdx.foldl (fun cs (p : Value × Nat) => cs.setIfInBounds (off + p.2) p.1) cells') out h
            (by rw [hstep]; exact ((r.take off).append rv).append (r.drop (off + sz))) (by simpa using hl)
            (fun j off sz v hj => by
              obtain ⟨i3, v3, f1, f2, f3⟩ := hp (j + 1) off sz v (by simpa using hj)
              exact ⟨i3, v3, by simpa using f1, f2, f3⟩)
          refine ⟨out', ?_, g2⟩
          simp only [Instr.fill, e2]
          rw [if_neg (by simp [hvl]; omega)]
          exact g1
        · cases h
      · cases h

/-! ### Each does what its operation does -/

theorem i64_wrap_small {n : Int} (h0 : 0 ≤ n) (h : n ≤ 17179869184) : IntKind.i64.wrap n = n := by
  simp [IntKind.wrap, IntKind.bits, IntKind.signed]
  omega

theorem W.make_sound {t e : TypeId} {l c : Operand} {i : TypeInfo} {z : Value} (ho : o.op = .makeSlice t l c) (hu : P.underlying t = some (.slice e)) (hi : P.info? e = some i) (hz : i.zero = some z)
    (hzs : z.cells.size = i.size) (hp : z.cells.toList.all plainV = true) (hb : i.bytes ≤ 1024) (h : W.make z.cells.toList e (ev l) (ev c) H k) : ∃ v H', k v H' ∧ OpStep P o ev H v H' := by
  unfold W.make at h
  split at h
  · rename_i κ n κ' m e1 e2
    obtain ⟨h1, h2, h3, h⟩ := h
    refine ⟨_, _, h, .value fun φ w cev s hx => ?_⟩
    have hl := hx l (by rw [ho]; simp [Op.operands])
    have hc := hx c (by rw [ho]; simp [Op.operands])
    rw [e1] at hl; rw [e2] at hc
    have r0 : LR φ H (reps m.toNat z.cells.toList) (reps m.toNat z.cells.toList) := .plain (by
      rw [List.all_eq_true]
      intro v hv
      simp only [reps, List.mem_flatten, List.mem_replicate] at hv
      obtain ⟨l, ⟨_, rfl⟩, hv⟩ := hv
      exact List.all_eq_true.1 hp v hv)
    obtain ⟨φ', g1, g2⟩ := s.alloc (reps m.toNat z.cells.toList) (reps m.toNat z.cells.toList).toArray e z.cells.toList.length (by simp) r0.cell
    refine ⟨.slice (some ⟨w.heap.size, 0, none⟩) n.toNat m.toNat, _, φ', ?_, g2, .slice (new_ptr g1) (by unfold CR; rw [if_pos (by omega)]; omega) (fun _ _ h => by omega)⟩
    have b1 : (i.bytes : Int) * n ≤ 1024 * 17179869184 := Int.mul_le_mul (by omega) (by omega) (by omega) (by omega)
    have b2 : (i.bytes : Int) * m ≤ 1024 * 17179869184 := Int.mul_le_mul (by omega) (by omega) (by omega) (by omega)
    simp only [execOp, ho, hl.of_int, hc.of_int, Instr.makeSlice, Sem.run_bind, run_underlying hu, Result.andThen_ok, asInt, asIntOf, Sem.run_pure, typeInfo, sizeOf,
      i64_wrap_small h1 (by omega : n ≤ 17179869184), i64_wrap_small (by omega : 0 ≤ m) h3]
    have t1 : (decide (m < 0) || decide ((i.bytes : Int) * m > 2 ^ 48) || decide (n < 0) || decide (n > m)) = false := by
      simp; omega
    simp only [run_program, Result.andThen_ok, hi, Sem.run_pure]
    rw [if_neg (by simp; omega)]
    simp only [Sem.run_bind, Sem.run_pure, askRoom]
    have hroom : ∀ W : World, (if m.toNat * i.bytes > roomBytes then mark Mark.noRoom else pure () : Sem Unit).run P W = .ok () W := by
      intro W; split <;> rfl
    simp only [hroom, run_program, Result.andThen_ok, hi, Sem.run_pure]
    by_cases hm : m.toNat * i.size = 0
    · rw [if_pos hm]
      simp only [Sem.run_pure, Result.andThen_ok, run_newRow, Sem.run_bind]
      have : reps m.toNat z.cells.toList = [] := by
        apply List.eq_nil_of_length_eq_zero
        rw [reps_length]
        simpa [hzs] using hm
      rw [this, hm]
      simp [Array.range_zero']
    · rw [if_neg hm]
      simp only [zeroValue, typeInfo, Sem.run_bind, run_program, Result.andThen_ok, hi, Sem.run_pure, hz, run_newRow]
      have hrr := range_reps z.cells m.toNat
      rw [hzs] at hrr
      rw [hzs, hrr]
  · exact h.elim

def lowOf (lo : Option Value) : Option Int := match lo with | none => some 0 | some (.int _ l) => some l | _ => none
def highOf (n : Nat) (hi : Option Value) : Option Int := match hi with | none => some n | some (.int _ h) => some h | _ => none

theorem sliceBound_run {w : World} {κ : IntKind} {n : Int} {y : Nat} {code : BoundsCode} (h0 : 0 ≤ n) (h1 : n ≤ y) : (Instr.sliceBound (.int κ n) y code).run P w = .ok n.toNat w := by
  simp [Instr.sliceBound, asIntOf, h0, h1]

/-- The bounds of a slicing with two numbers. -/
theorem sliceBounds_run {w : World} {b : Bool} {len cap : Nat} {lo hi : Option Value} {l h : Int} (hl : lowOf lo = some l) (hh : highOf len hi = some h) (h0 : 0 ≤ l) (h1 : l ≤ h) (h2 : h ≤ cap) :
    (Instr.sliceBounds b len cap lo hi none).run P w = .ok (l.toNat, h.toNat, cap) w := by
  have hlo : lo = none ∧ l = 0 ∨ ∃ κ, lo = some (.int κ l) := by
    unfold lowOf at hl
    split at hl
    · cases hl; exact .inl ⟨rfl, rfl⟩
    · cases hl; exact .inr ⟨_, rfl⟩
    · cases hl
  have hhi : hi = none ∧ h = len ∨ ∃ κ, hi = some (.int κ h) := by
    unfold highOf at hh
    split at hh
    · cases hh; exact .inl ⟨rfl, rfl⟩
    · cases hh; exact .inr ⟨_, rfl⟩
    · cases hh
  have hlh : l ≤ (h.toNat : Nat) := by omega
  rcases hlo with ⟨rfl, rfl⟩ | ⟨κ, rfl⟩ <;> rcases hhi with ⟨rfl, rfl⟩ | ⟨κ', rfl⟩ <;>
    simp [Instr.sliceBounds, sliceBound_run (P := P) (w := w) (by omega : 0 ≤ h) h2, sliceBound_run (P := P) (w := w) h0 hlh, -Int.ofNat_toNat] <;>
    (try (rw [sliceBound_run h0 (by omega)]; rfl))

theorem W.slice_sound {t e0 : TypeId} {x : Operand} {lo hi : Option Operand} {i : TypeInfo} (ho : o.op = .slice t x lo hi none) (hu : P.underlying t = some (.slice e0)) (hi0 : P.info? e0 = some i)
    (h : W.slice i.size (ev x) (lo.map ev) (hi.map ev) H k) : ∃ v H', k v H' ∧ OpStep P o ev H v H' := by
  unfold W.slice at h
  split at h
  · rename_i base n e ex
    split at h
    · rename_i l h' el eh
      obtain ⟨c0, c1, c2, h⟩ := h
      -- what stands in the world
      have conc : ∀ (φ : Phi) (w : World) (cev : Operand → Value), (∀ x, x ∈ o.op.operands.toList → VR φ H (ev x) (cev x)) →
          ∃ (base' : Option Addr) (c : Nat), cev x = .slice base' n c ∧ CR e c ∧ VR φ H (.slice base n e) (.slice base' n c) ∧
            (execOp cev o).run P w = .ok (.value (.slice (if c = l.toNat then base' else base'.map (·.add (l.toNat * i.size))) (h'.toNat - l.toNat) (c - l.toNat))) w := by
        intro φ w cev hx
        have hx' := hx x (by rw [ho]; simp [Op.operands])
        rw [ex] at hx'
        obtain ⟨base', c, ecx, hc⟩ := hx'.of_slice'
        have hcc : (h' : Int) ≤ c := by unfold CR at hc; split at hc <;> omega
        have hlo : lowOf (lo.map cev) = some l := by
          cases lo with
          | none => exact el
          | some y =>
            have hy := hx y (by rw [ho]; simp [Op.operands])
            simp only [Option.map_some] at el ⊢
            split at el
            · rename_i e1; cases e1
            · rename_i e1; cases el; simp only [Option.some.injEq] at e1; rw [e1] at hy; rw [hy.of_int]; rfl
            · cases el
        have hhi : highOf n (hi.map cev) = some h' := by
          cases hi with
          | none => exact eh
          | some y =>
            have hy := hx y (by rw [ho]; simp [Op.operands])
            simp only [Option.map_some] at eh ⊢
            split at eh
            · rename_i e1; cases e1
            · rename_i e1; cases eh; simp only [Option.some.injEq] at e1; rw [e1] at hy; rw [hy.of_int]; rfl
            · cases eh
        refine ⟨base', c, ecx, hc, by rw [← ecx]; exact hx', ?_⟩
        have hb := sliceBounds_run (P := P) (w := w) (b := true) (len := n) (cap := c) hlo hhi c0 c1 hcc
        simp only [execOp, ho, ecx, Instr.sliceAt, Sem.run_bind, run_underlying hu, Result.andThen_ok, Instr.slice, Option.map_none, hb, sizeOf_run hi0, Sem.run_pure]
      split at h
      · refine ⟨_, _, h, .pure fun φ w cev s hx => ?_⟩
        obtain ⟨base', c, ecx, hc, hr, hrun⟩ := conc φ w cev hx
        refine ⟨_, hrun, ?_⟩
        rcases hr.of_snil with ⟨h1, h2, h3⟩ | ⟨⟨a, c', h1⟩, h2, h3⟩
        · cases h1
          subst h3
          have : l.toNat = 0 := by omega
          have : h'.toNat = 0 := by omega
          simp [*]
        · cases h1
          subst h3
          have : l.toNat = 0 := by omega
          have : h'.toNat = 0 := by omega
          simp only [*, Nat.sub_zero]
          split <;> exact .emp _ _
      · rename_i a
        split at h
        · rename_i hle
          split at h
          · rename_i he
            refine ⟨_, _, h, .pure fun φ w cev s hx => ?_⟩
            obtain ⟨base', c, ecx, hc, hr, hrun⟩ := conc φ w cev hx
            refine ⟨_, hrun, ?_⟩
            simp only [CR, he, if_true] at hc
            rw [if_pos (by omega), show h'.toNat - l.toNat = 0 by omega, show c - l.toNat = 0 by omega]
            cases hr with
            | slice g1 g2 g3 => exact .slice g1 (by simp [CR]) (fun _ _ h => by omega)
          · refine ⟨_, _, h, .pure fun φ w cev s hx => ?_⟩
            obtain ⟨base', c, ecx, hc, hr, hrun⟩ := conc φ w cev hx
            refine ⟨_, hrun, ?_⟩
            rw [show h'.toNat - l.toNat = 0 by omega]
            cases hr with
            | slice g1 g2 g3 => split <;> exact .emp _ _
        · rename_i hle
          split at h
          · rename_i hl0
            refine ⟨_, _, h, .pure fun φ w cev s hx => ?_⟩
            obtain ⟨base', c, ecx, hc, hr, hrun⟩ := conc φ w cev hx
            refine ⟨_, hrun, ?_⟩
            rw [hl0]
            cases hr with
            | slice g1 g2 g3 =>
              simp only [Nat.zero_mul, Nat.sub_zero, Option.map_some, Addr.add, if_true, ite_self]
              exact .slice g1 g2 g3
          · rename_i hl0
            obtain ⟨hk, h⟩ := h
            refine ⟨_, _, h, .pure fun φ w cev s hx => ?_⟩
            obtain ⟨base', c, ecx, hc, hr, hrun⟩ := conc φ w cev hx
            refine ⟨_, hrun, ?_⟩
            have hcl : ¬ c = l.toNat := by unfold CR at hc; split at hc <;> omega
            rw [if_neg hcl]
            cases hr with
            | slice g1 g2 g3 =>
              refine .slice (g1.add _) ?_ ?_
              · unfold CR at hc ⊢
                split at hc
                · rw [if_pos (by omega)]; omega
                · rw [if_neg (by omega)]; omega
              · intro kb hkb he
                rw [add_block] at hkb
                rw [hkb] at hk
                obtain ⟨r, r1, r2⟩ := g3 kb hkb (by omega)
                refine ⟨r, by rw [add_block, add_block]; exact r1, ?_⟩
                rw [add_off]
                simp only at hk
                rw [hk] at r2 ⊢
                have hlc : l.toNat ≤ c := by unfold CR at hc; split at hc <;> omega
                have : l.toNat * i.size + (c - l.toNat) * i.size = c * i.size := by
                  rw [← Nat.add_mul]; congr 1; omega
                omega
    · exact h.elim
  · exact h.elim

theorem W.slice3_sound {t e0 : TypeId} {x lo hi mx : Operand} {i : TypeInfo} (ho : o.op = .slice t x (some lo) (some hi) (some mx)) (hu : P.underlying t = some (.slice e0)) (hi0 : P.info? e0 = some i)
    (h : W.slice3 i.size (ev x) (ev lo) (ev hi) (ev mx) H k) : ∃ v H', k v H' ∧ OpStep P o ev H v H' := by
  unfold W.slice3 at h
  split at h
  · rename_i base n e κ l κ' h' κ'' m ex el eh em
    obtain ⟨c0, c1, c2, c3, h⟩ := h
    have conc : ∀ (φ : Phi) (w : World) (cev : Operand → Value), (∀ x, x ∈ o.op.operands.toList → VR φ H (ev x) (cev x)) →
        ∃ (base' : Option Addr) (c : Nat), cev x = .slice base' n c ∧ CR e c ∧ VR φ H (.slice base n e) (.slice base' n c) ∧
          (execOp cev o).run P w = .ok (.value (.slice (if m.toNat = l.toNat then base' else base'.map (·.add (l.toNat * i.size))) (h'.toNat - l.toNat) (m.toNat - l.toNat))) w := by
      intro φ w cev hx
      have hx' := hx x (by rw [ho]; simp [Op.operands])
      rw [ex] at hx'
      obtain ⟨base', c, ecx, hc⟩ := hx'.of_slice'
      have hcc : (m : Int) ≤ c := by unfold CR at hc; split at hc <;> omega
      have hl := hx lo (by rw [ho]; simp [Op.operands])
      have hh := hx hi (by rw [ho]; simp [Op.operands])
      have hm := hx mx (by rw [ho]; simp [Op.operands])
      rw [el] at hl; rw [eh] at hh; rw [em] at hm
      refine ⟨base', c, ecx, hc, by rw [← ecx]; exact hx', ?_⟩
      simp only [execOp, ho, ecx, Instr.sliceAt, Sem.run_bind, run_underlying hu, Result.andThen_ok, Instr.slice, Option.map_some, Sem.run_pure, hl.of_int, hh.of_int, hm.of_int, Instr.sliceBounds]
      rw [sliceBound_run (by omega) hcc]
      simp only [Result.andThen_ok]
      rw [sliceBound_run (by omega) (by omega)]
      simp only [Result.andThen_ok]
      rw [sliceBound_run (by omega) (by omega)]
      simp only [Result.andThen_ok, sizeOf_run hi0]
    split at h
    · obtain ⟨he, h⟩ := h
      refine ⟨_, _, h, .pure fun φ w cev s hx => ?_⟩
      obtain ⟨base', c, ecx, hc, hr, hrun⟩ := conc φ w cev hx
      refine ⟨_, hrun, ?_⟩
      rcases hr.of_snil with ⟨h1, h2, h3⟩ | ⟨_, _, h3⟩
      · cases h1
        have e1 : l.toNat = 0 := by omega
        have e2 : h'.toNat = 0 := by omega
        have e3 : m.toNat = 0 := by omega
        rw [e1, e2, e3]
        exact .snil
      · omega
    · rename_i a
      split at h
      · rename_i hlm
        refine ⟨_, _, h, .pure fun φ w cev s hx => ?_⟩
        obtain ⟨base', c, ecx, hc, hr, hrun⟩ := conc φ w cev hx
        refine ⟨_, hrun, ?_⟩
        rw [if_pos (by omega), show h'.toNat - l.toNat = 0 by omega, show m.toNat - l.toNat = 0 by omega]
        cases hr with
        | slice g1 g2 g3 => exact .slice g1 (by simp [CR]) (fun _ _ h => by omega)
      · rename_i hlm
        refine ⟨_, _, h, .pure fun φ w cev s hx => ?_⟩
        obtain ⟨base', c, ecx, hc, hr, hrun⟩ := conc φ w cev hx
        refine ⟨_, hrun, ?_⟩
        rw [if_neg (by omega)]
        cases hr with
        | slice g1 g2 g3 =>
          refine .slice (g1.add _) ?_ (fun _ _ h => by omega)
          unfold CR
          rw [if_pos (by omega)]
          omega
  · exact h.elim

theorem W.sliceStr_sound {t : TypeId} {x : Operand} {lo hi : Option Operand} (ho : o.op = .slice t x lo hi none) (hu : P.underlying t = some .string)
    (h : W.sliceStr (ev x) (lo.map ev) (hi.map ev) H k) : ∃ v H', k v H' ∧ OpStep P o ev H v H' := by
  unfold W.sliceStr at h
  split at h
  · rename_i str ex
    split at h
    · rename_i l h' el eh
      obtain ⟨c0, c1, c2, h⟩ := h
      refine ⟨_, _, h, .pure fun φ w cev s hx => ?_⟩
      have hx' := hx x (by rw [ho]; simp [Op.operands])
      rw [ex] at hx'
      have hlo : lowOf (lo.map cev) = some l := by
        cases lo with
        | none => exact el
        | some y =>
          have hy := hx y (by rw [ho]; simp [Op.operands])
          simp only [Option.map_some] at el ⊢
          split at el
          · rename_i e1; cases e1
          · rename_i e1; cases el; simp only [Option.some.injEq] at e1; rw [e1] at hy; rw [hy.of_int]; rfl
          · cases el
      have hhi : highOf str.size (hi.map cev) = some h' := by
        cases hi with
        | none => exact eh
        | some y =>
          have hy := hx y (by rw [ho]; simp [Op.operands])
          simp only [Option.map_some] at eh ⊢
          split at eh
          · rename_i e1; cases e1
          · rename_i e1; cases eh; simp only [Option.some.injEq] at e1; rw [e1] at hy; rw [hy.of_int]; rfl
          · cases eh
      have hb := sliceBounds_run (P := P) (w := w) (b := false) (len := str.size) (cap := str.size) hlo hhi c0 c1 c2
      refine ⟨.string (str.extract l.toNat h'.toNat), ?_, .string _⟩
      simp [execOp, ho, hx'.of_string, Instr.sliceAt, run_underlying hu, Instr.slice, hb]
    · exact h.elim
  · exact h.elim

theorem W.max2_sound {ts : Array TypeId} {x y : Operand} (ho : o.op = .call { callee := .builtin .max, args := #[x, y], argTypes := ts })
    (h : W.max2 (ev x) (ev y) H k) : ∃ v H', k v H' ∧ OpStep P o ev H v H' := by
  unfold W.max2 at h
  split at h
  · rename_i κ a κ' b e1 e2
    refine ⟨_, _, h, .pure fun φ w cev s hx => ?_⟩
    have hx' := hx x (by rw [ho]; simp [Op.operands, Call.operands])
    have hy' := hx y (by rw [ho]; simp [Op.operands, Call.operands])
    rw [e1] at hx'; rw [e2] at hy'
    exact ⟨_, by simp [execOp, ho, resolve, invoke, builtin, hx'.of_int, hy'.of_int, Builtin.max_, Builtin.max2], .int ..⟩
  · exact h.elim

theorem W.min2_sound {ts : Array TypeId} {x y : Operand} (ho : o.op = .call { callee := .builtin .min, args := #[x, y], argTypes := ts })
    (h : W.min2 (ev x) (ev y) H k) : ∃ v H', k v H' ∧ OpStep P o ev H v H' := by
  unfold W.min2 at h
  split at h
  · rename_i κ a κ' b e1 e2
    refine ⟨_, _, h, .pure fun φ w cev s hx => ?_⟩
    have hx' := hx x (by rw [ho]; simp [Op.operands, Call.operands])
    have hy' := hx y (by rw [ho]; simp [Op.operands, Call.operands])
    rw [e1] at hx'; rw [e2] at hy'
    exact ⟨_, by simp [execOp, ho, resolve, invoke, builtin, hx'.of_int, hy'.of_int, Builtin.min_, Builtin.min2], .int ..⟩
  · exact h.elim

theorem W.build_sound {t : TypeId} {parts : Array (Nat × Operand)} {i : TypeInfo} {z : Value} {fs : Array Field} (ho : o.op = .build t parts) (hu : P.underlying t = some (.struct fs))
    (hi : P.info? t = some i) (hz : i.zero = some z) (hp : z.cells.toList.all plainV = true) (hf : fs.toList.all (fun f => (P.info? f.type).isSome) = true)
    (hin : parts.toList.all (fun p => (fs[p.1]?).isSome) = true)
    (h : W.build z.cells.toList (parts.toList.map fun p => (((fs[p.1]?).map (·.offset)).getD 0, ((fs[p.1]?).map fun f => P.cellsOf f.type).getD 0, ev p.2)) H k) : ∃ v H', k v H' ∧ OpStep P o ev H v H' := by
  unfold W.build at h
  split at h
  · rename_i cells hc
    refine ⟨_, _, h, .pure fun φ w cev s hx => ?_⟩
    have hplaces : (fs.mapM fun f => (do pure (f.offset, ← sizeOf f.type) : Sem (Nat × Nat))).run P w = .ok (fs.map fun f => (f.offset, P.cellsOf f.type)) w := by
      rw [Array.mapM_eq_mapM_toList]
      have key : ∀ l : List Field, l.all (fun f => (P.info? f.type).isSome) = true →
          (l.mapM fun f => (do pure (f.offset, ← sizeOf f.type) : Sem (Nat × Nat))).run P w = .ok (l.map fun f => (f.offset, P.cellsOf f.type)) w := by
        intro l
        induction l with
        | nil => intro _; simp
        | cons f l ih =>
          intro hl
          simp only [List.all_cons, Bool.and_eq_true] at hl
          obtain ⟨j, hj⟩ := Option.isSome_iff_exists.1 hl.1
          rw [List.mapM_cons]
          simp only [Sem.run_bind, sizeOf_run hj, Result.andThen_ok, Sem.run_pure, ih hl.2, List.map_cons, Program.cellsOf, hj, Option.map_some, Option.getD_some]
      simp only [Sem.run_map, key _ hf, Result.andThen_ok]
      congr 1
      apply Array.ext'
      simp
    obtain ⟨out', g1, g2⟩ := fill_run (φ := φ) (place := fun j => (fs.map fun f => (f.offset, P.cellsOf f.type))[j]?) ((parts.map fun p => (p.1, cev p.2)).toList) _ _ z.cells cells hc (.plain hp) (by simp)
      (fun j off sz v hj => by
        simp only [List.getElem?_map, Option.map_eq_some_iff] at hj
        obtain ⟨p, hp', he⟩ := hj
        have hmem : p ∈ parts.toList := List.mem_of_getElem? hp'
        obtain ⟨f, hf'⟩ := Option.isSome_iff_exists.1 (List.all_eq_true.1 hin p hmem)
        simp only [hf', Option.map_some, Option.getD_some, Prod.mk.injEq] at he
        obtain ⟨rfl, rfl, rfl⟩ := he
        refine ⟨p.1, cev p.2, ?_, by simp [hf'], hx p.2 ?_⟩
        · simp only [Array.toList_map, List.getElem?_map, hp', Option.map_some]
        · rw [ho]; simp only [Op.operands, List.mem_map]
          exact ⟨p, hmem, rfl⟩)
    refine ⟨.agg out', ?_, ?_⟩
    · simp only [execOp, ho, Instr.build, Sem.run_bind, zeroValue, typeInfo, run_program, Result.andThen_ok, hi, Sem.run_pure, hz, run_underlying hu, hplaces]
      have e : (Array.map (fun (x : Nat × Operand) => match x with | (i, x) => (i, cev x)) parts).toList = (parts.map fun p => (p.1, cev p.2)).toList := rfl
      rw [e, g1]
      rfl
    · have := g2.agg
      simpa using this
  · exact h.elim

theorem W.lit_sound {t e : TypeId} {n : Nat} {parts : Array (Nat × Operand)} {i : TypeInfo} {z : Value} (ho : o.op = .buildSlice t n parts) (hu : P.underlying t = some (.slice e))
    (hi : P.info? e = some i) (hz : i.zero = some z) (hzs : z.cells.size = i.size) (hp : z.cells.toList.all plainV = true) (hn : n * i.size ≤ 16777216)
    (h : W.lit n z.cells.toList e (parts.toList.map fun p => (p.1 * i.size, i.size, ev p.2)) H k) : ∃ v H', k v H' ∧ OpStep P o ev H v H' := by
  unfold W.lit at h
  split at h
  · rename_i cells hc
    refine ⟨_, _, h, .value fun φ w cev s hx => ?_⟩
    have hr : (Array.range (n * i.size)).map (fun j => z.cells[j % z.cells.size]!) = (reps n z.cells.toList).toArray := by rw [← hzs]; exact range_reps z.cells n
    obtain ⟨out', g1, g2⟩ := fill_run (H := H) (φ := φ) (place := fun j => some (j * i.size, i.size)) ((parts.map fun p => (p.1, cev p.2)).toList) _ _ ((reps n z.cells.toList).toArray) cells hc
      (by
        refine LR.plain ?_
        rw [List.all_eq_true]
        intro v hv
        simp only [reps, List.mem_flatten, List.mem_replicate] at hv
        obtain ⟨l, ⟨_, rfl⟩, hv⟩ := hv
        exact List.all_eq_true.1 hp v hv) (by simp)
      (fun j off sz v hj => by
        simp only [List.getElem?_map, Option.map_eq_some_iff] at hj
        obtain ⟨p, hp', he⟩ := hj
        have hmem : p ∈ parts.toList := List.mem_of_getElem? hp'
        simp only [Prod.mk.injEq] at he
        obtain ⟨rfl, rfl, rfl⟩ := he
        refine ⟨p.1, cev p.2, ?_, rfl, hx p.2 ?_⟩
        · simp only [Array.toList_map, List.getElem?_map, hp', Option.map_some]
        · rw [ho]; simp only [Op.operands, List.mem_map]
          exact ⟨p, hmem, rfl⟩)
    have hcl : cells.length ≤ out'.size := by have := g2.1; simp at this; omega
    obtain ⟨φ', h1, h2⟩ := s.alloc cells out' e z.cells.toList.length hcl (fun j v hj => by
      obtain ⟨v', q1, q2⟩ := g2.cell j v hj
      exact ⟨v', by simpa using q1, q2⟩)
    refine ⟨.slice (some ⟨w.heap.size, 0, none⟩) n n, _, φ', ?_, h2, .slice (new_ptr h1) (by unfold CR; rw [if_pos (by omega)]; omega) (fun _ _ h => by omega)⟩
    simp only [execOp, ho, Instr.buildSlice, Sem.run_bind, run_underlying hu, Result.andThen_ok, sizeOf_run hi]
    rw [if_neg (by omega)]
    have e : (Array.map (fun (x : Nat × Operand) => match x with | (i, x) => (i, cev x)) parts).toList = (parts.map fun p => (p.1, cev p.2)).toList := rfl
    by_cases h0 : n * i.size = 0
    · have hnil : reps n z.cells.toList = [] := List.eq_nil_of_length_eq_zero (by rw [reps_length]; simpa [hzs] using h0)
      rw [hnil] at g1
      have hr0 : (Array.range 0).map (fun j => (#[] : Array Value)[j % (#[] : Array Value).size]!) = ([] : List Value).toArray := by simp [Array.range_zero']
      rw [if_pos h0, h0]
      simp only [Sem.run_bind, Sem.run_pure, Result.andThen_ok, hr0]
      rw [e, g1]
      rfl
    · simp only [if_neg h0, Sem.run_bind, zeroValue, typeInfo, run_program, Result.andThen_ok, hi, Sem.run_pure, hz, hr]
      rw [e, g1]
      rfl
  · exact h.elim

theorem W.makeFunc_sound {f : FuncId} {first captured : Array Operand} (ho : o.op = .makeFunc (.func f) first captured) :
    OpStep P o ev H (.func (.func f) (first.map ev) (captured.map ev)) H :=
  .pure fun φ w cev s hx => by
    refine ⟨.func (.func f) (first.map cev) (captured.map cev), by simp [execOp, ho, Instr.makeFunc], .func _ _ _ _ _ (by simp) (by simp) ?_ ?_⟩
    · intro i h1 h2
      simp only [Array.getElem_map]
      exact hx _ (by rw [ho]; simp [Op.operands])
    · intro i h1 h2
      simp only [Array.getElem_map]
      exact hx _ (by rw [ho]; simp [Op.operands])

/-- append of so many zeros. -/
def W.appendZ (zc : List Value) (ty : TypeId) (x l : Value) (H : Heap) (k : Post) : Prop :=
  match l with
  | .int _ n => 0 ≤ n ∧ n ≤ 17179869184 ∧ appendTo zc.length ty x n.toNat (reps n.toNat zc) k H
  | _ => False

theorem W.appendZ_sound {t t2 e0 : TypeId} {κ : IntKind} {x y : Operand} {i : TypeInfo} {z : Value} (ho : o.op = .call { callee := .builtin .append, args := #[x, y], argTypes := #[t, t2] })
    (hu : P.underlying t = some (.slice e0)) (hi : P.info? e0 = some i) (hz : i.zero = some z) (hzs : z.cells.size = i.size) (hp : z.cells.toList.all plainV = true) (hb : i.bytes ≤ 1024)
    (hu2 : P.underlying t2 = some (.int κ)) (h : W.appendZ z.cells.toList e0 (ev x) (ev y) H k) : ∃ v H', k v H' ∧ OpStep P o ev H v H' := by
  unfold W.appendZ at h
  split at h
  · rename_i κ' n e1
    obtain ⟨h1, h2, h⟩ := h
    have hzl : z.cells.toList.length = i.size := by simpa using hzs
    rw [hzl] at h
    have hY : ∀ {φ : Phi} {cev : Operand → Value}, (∀ x, x ∈ o.op.operands.toList → VR φ H (ev x) (cev x)) → cev y = .int κ' n := fun hx => by
      have := hx y (by rw [ho]; simp [Op.operands, Call.operands])
      rw [e1] at this
      exact this.of_int
    have hr : ∀ φ, LR φ H (reps n.toNat z.cells.toList) (reps n.toNat z.cells.toList) := fun φ => .plain (by
      rw [List.all_eq_true]
      intro v hv
      simp only [reps, List.mem_flatten, List.mem_replicate] at hv
      obtain ⟨l, ⟨_, rfl⟩, hv⟩ := hv
      exact List.all_eq_true.1 hp v hv)
    have hlen : (reps n.toNat z.cells.toList).length = n.toNat * i.size := by rw [reps_length, hzl]
    have hb1 : ¬ (n * (i.bytes : Int) > 2 ^ 48) := by
      have : n * (i.bytes : Int) ≤ 17179869184 * 1024 := Int.mul_le_mul (by omega) (by omega) (by omega) (by omega)
      omega
    have hnew : ∀ W : World, (if n.toNat * i.size = 0 then pure #[] else do pure (Builtin.zeroCells (← zeroValue e0).cells n.toNat) : Sem (Array Value)).run P W = .ok (reps n.toNat z.cells.toList).toArray W := by
      intro W
      by_cases hm : n.toNat * i.size = 0
      · rw [if_pos hm]
        have : reps n.toNat z.cells.toList = [] := List.eq_nil_of_length_eq_zero (by omega)
        rw [this]
        rfl
      · rw [if_neg hm]
        simp [zeroValue, typeInfo, hi, hz, Builtin.zeroCells, range_reps]
    have hn0 : ¬ n < 0 := by omega
    have hb2 : ¬ 281474976710656 < n * (i.bytes : Int) := by omega
    have hw : IntKind.i64.wrap n = n := i64_wrap_small h1 (by omega : n ≤ 17179869184)
    refine appendTo_sound ho hlen (fun φ w cev s hx => ?_) (fun φ w cev s hx => ?_) h
    · refine ⟨reps n.toNat z.cells.toList, rfl, (hr φ).2, fun base m c e hle => ?_⟩
      rw [e, hY hx]
      by_cases hm : n.toNat * i.size = 0
      · have hnil : reps n.toNat z.cells.toList = [] := List.eq_nil_of_length_eq_zero (by omega)
        cases base <;> simp [Builtin.append_, run_underlying hu, run_underlying hu2, sizeOf_run hi, asInt, asIntOf, typeInfo, hi, hw, hn0, hb2, hle, hm, hnil]
      · cases base <;> simp [Builtin.append_, run_underlying hu, run_underlying hu2, sizeOf_run hi, asInt, asIntOf, typeInfo, hi, hw, hn0, hb2, hle, hm, zeroValue, hz, Builtin.zeroCells, range_reps]
    · refine ⟨reps n.toNat z.cells.toList, rfl, (hr φ).2, fun base m c old e hle hs hold => ?_⟩
      have hcap : ¬ Builtin.nextslicecap (m + n.toNat) c * i.bytes > 2 ^ 48 := by
        have h1 := nextslicecap_le (newLen := m + n.toNat) (oldCap := c) (by omega)
        have h2 : Builtin.nextslicecap (m + n.toNat) c * i.bytes ≤ (2 * 17179869184 + 1024) * 1024 := Nat.mul_le_mul (by omega) hb
        omega
      have hmax : ¬ ((m + n.toNat : Nat) : Int) > IntKind.i64.max := by simp [IntKind.max, IntKind.signed, IntKind.bits]; omega
      rw [e, hY hx]
      refine ⟨(Question.appendCap (m + n.toNat) c e0).cut (w.tape w.drawn (.appendCap (m + n.toNat) c e0)), Builtin.zeroCells z.cells ((Question.appendCap (m + n.toNat) c e0).cut (w.tape w.drawn (.appendCap (m + n.toNat) c e0)) - (m + n.toNat)), ?_, ?_, ?_⟩
      · simp [Question.cut]
      · simp [Builtin.zeroCells, hzs]
      · have hcap2 : ¬ 281474976710656 < Builtin.nextslicecap (m + n.toNat) c * i.bytes := hcap
        have hm2 : ¬ IntKind.i64.max < (m : Int) + n := by simp [IntKind.max, IntKind.signed, IntKind.bits]; omega
        have hm3 : ¬ IntKind.i64.max < (m : Int) + (n.toNat : Int) := by simp [IntKind.max, IntKind.signed, IntKind.bits]; omega
        by_cases hm : n.toNat * i.size = 0
        · have hnil : reps n.toNat z.cells.toList = [] := List.eq_nil_of_length_eq_zero (by omega)
          simp [Builtin.append_, run_underlying hu, run_underlying hu2, sizeOf_run hi, asInt, asIntOf, typeInfo, hi, hw, hn0, hb2, hle, choose, Sem.run, Question.forced, askRoom, hm, hnil]
          rw [if_neg (by simp at hm2 ⊢; omega), if_neg (by omega)]
          simp [hold, zeroValue, typeInfo, hi, hz, run_newRow]
        · simp [Builtin.append_, run_underlying hu, run_underlying hu2, sizeOf_run hi, asInt, asIntOf, typeInfo, hi, hw, hn0, hb2, hle, choose, Sem.run, Question.forced, askRoom, hm]
          rw [if_neg (by simp at hm2 ⊢; omega), if_neg (by omega)]
          simp [hold, zeroValue, typeInfo, hi, hz, run_newRow, Builtin.zeroCells, range_reps]
  · exact h.elim

end
end Go.Ab

/-! Two structs of two int64 compared. No program here. -/
namespace Go.Ab

/-- A type of two fields, each an int64. -/
def pairT (P : Program) (t : TypeId) : Bool :=
  match P.underlying t with
  | some (.struct fs) =>
    match fs.toList with
    | [f, g] =>
      (match P.underlying f.type with | some (.int .i64) => true | _ => false) && (match P.underlying g.type with | some (.int .i64) => true | _ => false) && Nat.beq f.offset 0 && Nat.beq g.offset 1 &&
      Nat.beq (P.cellsOf t) 2 && Nat.beq (P.cellsOf f.type) 1 && Nat.beq (P.cellsOf g.type) 1 && P.keyTypeAt 2 t && !(P.eqGuardType P.depth t)
    | _ => false
  | _ => false

def W.eqPair (op : BinOp) (x y : Value) (H : Heap) (k : Post) : Prop :=
  match x, y with
  | .agg xs, .agg ys =>
    match xs.toList, ys.toList with
    | [.int .i64 a, .int .i64 b], [.int .i64 c, .int .i64 d] =>
      ((Lit.int .i64 a).wf && (Lit.int .i64 b).wf && (Lit.int .i64 c).wf && (Lit.int .i64 d).wf) = true ∧ (match neg? op (decide (a = c) && decide (b = d)) with | some v => k v H | none => False)
    | _, _ => False
  | _, _ => False

theorem agg_ints {φ : Phi} {H : Heap} {xs : Array Value} {a b : Int} {v : Value} (hx : xs.toList = [.int .i64 a, .int .i64 b]) (h : VR φ H (.agg xs) v) : v = .agg #[.int .i64 a, .int .i64 b] := by
  obtain ⟨ys, rfl, hs, hr⟩ := h.of_agg
  have hxs : xs = #[.int .i64 a, .int .i64 b] := by
    apply Array.ext'
    rw [hx]
  subst hxs
  have h2 : ys.size = 2 := hs.symm
  have h0 := (hr 0 (by simp) (by omega)).of_int
  have h1 := (hr 1 (by simp) (by omega)).of_int
  congr 1
  apply Array.ext
  · exact h2
  · intro i hi hi2
    have : i = 0 ∨ i = 1 := by simp at hi2; omega
    rcases this with rfl | rfl
    · exact h0
    · exact h1

theorem equal_pair {P : Program} {w : World} {t : TypeId} (hp : pairT P t = true) {a b c d : Int} (ha : (Lit.int .i64 a).wf = true) (hb : (Lit.int .i64 b).wf = true) (hc : (Lit.int .i64 c).wf = true) (hd : (Lit.int .i64 d).wf = true) :
    (Op.equal t (.agg #[.int .i64 a, .int .i64 b]) (.agg #[.int .i64 c, .int .i64 d])).run P w = .ok (decide (a = c) && decide (b = d)) w := by
  unfold pairT at hp
  split at hp
  · rename_i fs hu
    split at hp
    · rename_i f g hfs
      simp only [Bool.and_eq_true] at hp
      obtain ⟨⟨⟨⟨⟨⟨⟨⟨h1, h2⟩, h3⟩, h4⟩, h5⟩, h6⟩, h7⟩, h8⟩, _⟩ := hp
      have h1 : P.underlying f.type = some (.int .i64) := by
        split at h1
        · assumption
        · cases h1
      have h2 : P.underlying g.type = some (.int .i64) := by
        split at h2
        · assumption
        · cases h2
      have h3 := Nat.eq_of_beq_eq_true h3
      have h4 := Nat.eq_of_beq_eq_true h4
      have h5 := Nat.eq_of_beq_eq_true h5
      have h6 := Nat.eq_of_beq_eq_true h6
      have h7 := Nat.eq_of_beq_eq_true h7
      have hnames : fs.all (·.name != "_") = true := by
        have hk := h8
        unfold Program.keyTypeAt at hk
        simp only [hu, Bool.and_eq_true] at hk
        rw [Array.all_eq_true] at hk ⊢
        intro i hi
        have := hk.1.1 i hi
        rw [Bool.and_eq_true] at this
        exact this.1
      have formed : ∀ x y : Value, (Value.agg #[x, y]).formed P t = true := fun x y => by simp [Value.formed, hu, h5]
      have lits : ∀ x y : Int, (Lit.int .i64 x).wf = true → (Lit.int .i64 y).wf = true → P.keyLits 2 t (Value.agg #[.int .i64 x, .int .i64 y]).cells.toList = some [.int .i64 x, .int .i64 y] := fun x y hx hy => by
        simp only [Value.cells]
        unfold Program.keyLits
        simp only [hu, h5, hnames]
        rw [hfs]
        simp [Program.keyLits, h1, h2, h3, h4, h6, h7, hx, hy]
      obtain ⟨r, e1, e2⟩ := run_equalIn_deep (P := P) 9998 2 t h8 w 2 2 _ _ _ _ (formed _ _) (formed _ _) (lits a b ha hb) (lits c d hc hd)
      have : Op.equal t (.agg #[.int .i64 a, .int .i64 b]) (.agg #[.int .i64 c, .int .i64 d]) = Op.equalIn (9998 + 2) t (.agg #[.int .i64 a, .int .i64 b]) (.agg #[.int .i64 c, .int .i64 d]) := rfl
      rw [this, e1]
      congr 1
      rw [Bool.eq_iff_iff, e2]
      simp
    · cases hp
  · cases hp

theorem pair_guard {P : Program} {t : TypeId} (hp : pairT P t = true) : P.eqGuardType P.depth t = false := by
  unfold pairT at hp
  split at hp
  · split at hp
    · simp only [Bool.and_eq_true] at hp
      simpa using hp.2
    · cases hp
  · cases hp

theorem W.eqPair_sound {P : Program} {o : Oper} {ev : Operand → Value} {k : Post} {H : Heap} {op : BinOp} {t : TypeId} {x y : Operand} {t' : TypeId} (ho : o.op = .binOp op t x y t') (hp : pairT P t = true)
    (h : W.eqPair op (ev x) (ev y) H k) : ∃ v H', k v H' ∧ OpStep P o ev H v H' := by
  unfold W.eqPair at h
  split at h
  · rename_i xs ys e1 e2
    split at h
    · rename_i a b c d hxs hys
      obtain ⟨hw, h⟩ := h
      simp only [Bool.and_eq_true] at hw
      obtain ⟨⟨⟨w1, w2⟩, w3⟩, w4⟩ := hw
      split at h
      · rename_i v hv
        refine ⟨_, _, h, .pure fun φ w cev s hx => ?_⟩
        have hx' := hx x (by rw [ho]; simp [Op.operands])
        have hy' := hx y (by rw [ho]; simp [Op.operands])
        rw [e1] at hx'; rw [e2] at hy'
        have hx' := agg_ints hxs hx'
        have hy' := agg_ints hys hy'
        have hg := pair_guard hp
        refine ⟨v, ?_, ?_⟩
        · rcases neg?_run hv with ⟨rfl, rfl⟩ | ⟨rfl, rfl⟩ <;>
            simp [execOp, ho, hx', hy', eqGuard, binOp, equal_pair hp w1 w2 w3 w4, hg, run_program, Result.andThen]
        · rcases neg?_run hv with ⟨-, rfl⟩ | ⟨-, rfl⟩ <;> exact .bool _
      · exact h.elim
    · exact h.elim
  · exact h.elim

end Go.Ab

/-! The word copy. No program here. -/
namespace Go.Ab

section
variable {P : Program} {o : Oper} {ev : Operand → Value} {H : Heap} {k : Post}

def W.copy (sz : Nat) (x y : Value) (H : Heap) (k : Post) : Prop :=
  match x, y with
  | .slice base dl _, .slice sb sl _ =>
    if min sl dl = 0 then k (.int .i64 0) H else
    match base, sb with
    | some a, some b =>
      match H.getN b (min sl dl * sz) with
      | some cs => (match H.setN a cs with | some H' => k (.int .i64 ((min sl dl : Nat) : Int)) H' | none => False)
      | none => False
    | _, _ => False
  | _, _ => False

theorem W.copy_sound {t t2 e0 : TypeId} {x y : Operand} {i : TypeInfo} (ho : o.op = .call { callee := .builtin .copy, args := #[x, y], argTypes := #[t, t2] })
    (hu : P.underlying t = some (.slice e0)) (hi : P.info? e0 = some i) (h : W.copy i.size (ev x) (ev y) H k) : ∃ v H', k v H' ∧ OpStep P o ev H v H' := by
  have hex : ∀ (cev : Operand → Value) (w w' : World) (v : Value), (Builtin.copy_ #[t, t2] o.type #[cev x, cev y]).run P w = .ok v w' → (execOp cev o).run P w = .ok (.value v) w' := by
    intro cev w w' v hr
    simp [execOp, ho, resolve, invoke, builtin, hr]
  have hX : ∀ {φ : Phi} {cev : Operand → Value}, (∀ x, x ∈ o.op.operands.toList → VR φ H (ev x) (cev x)) → VR φ H (ev x) (cev x) ∧ VR φ H (ev y) (cev y) := fun hx =>
    ⟨hx x (by rw [ho]; simp [Op.operands, Call.operands]), hx y (by rw [ho]; simp [Op.operands, Call.operands])⟩
  unfold W.copy at h
  split at h
  · rename_i base dl e sb sl e2 ex ey
    split at h
    · rename_i hm
      refine ⟨_, _, h, .value fun φ w cev s hx => ?_⟩
      obtain ⟨rx, ry⟩ := hX hx
      rw [ex] at rx
      rw [ey] at ry
      obtain ⟨base', c, exv, hc⟩ := rx.of_slice'
      obtain ⟨sb', c2, eyv, hc2⟩ := ry.of_slice'
      refine ⟨.int .i64 0, w, φ, hex cev w w _ ?_, .refl s, .int _ _⟩
      rw [exv, eyv]
      have hm' : Nat.min sl dl = 0 := hm
      cases base' <;> cases sb' <;> simp [Builtin.copy_, run_underlying hu, sizeOf_run hi, Builtin.lenOf, hm', Builtin.firstCells, loadCells, loadCellsFrom, storeCells, goInt]
    · rename_i hm
      split at h
      · rename_i a b
        split at h
        · rename_i cs hcs
          split at h
          · rename_i H' hset
            refine ⟨_, _, h, .value fun φ w cev s hx => ?_⟩
            obtain ⟨rx, ry⟩ := hX hx
            rw [ex] at rx
            rw [ey] at ry
            obtain ⟨a', c, exv, har, hc⟩ := rx.of_slice
            obtain ⟨b', c2, eyv, hbr, hc2⟩ := ry.of_slice
            obtain ⟨vs', h1, h2, h3, h4⟩ := s.getN hbr hcs
            have hl := run_loadCells_list (P := P) w b' vs' h3
            rw [h1] at hl
            obtain ⟨w', hst, hext⟩ := s.setN har hset (by omega) h4 P
            refine ⟨.int .i64 ((min sl dl : Nat) : Int), w', φ, hex cev w w' _ ?_, hext, .int _ _⟩
            rw [exv, eyv]
            have hmm : Nat.min sl dl = min sl dl := rfl
            simp [Builtin.copy_, run_underlying hu, sizeOf_run hi, Builtin.lenOf, Builtin.firstCells, hmm, hl, hst, goInt]
          · exact h.elim
        · exact h.elim
      · exact h.elim
  · exact h.elim

/-- clear of a slice whose elements have plain zero cells. -/
def W.clear (zc : List Value) (x : Value) (H : Heap) (k : Post) : Prop :=
  match x with
  | .slice base n _ =>
    if n = 0 then k (.tuple #[]) H else
    match base with
    | some a => (match H.setN a (reps n zc) with | some H' => k (.tuple #[]) H' | none => False)
    | none => False
  | _ => False

theorem W.clear_sound {t e0 : TypeId} {x : Operand} {i : TypeInfo} {z : Value} (ho : o.op = .call { callee := .builtin .clear, args := #[x], argTypes := #[t] })
    (hu : P.underlying t = some (.slice e0)) (hi : P.info? e0 = some i) (hz : i.zero = some z) (hp : z.cells.toList.all plainV = true) (h : W.clear z.cells.toList (ev x) H k) : ∃ v H', k v H' ∧ OpStep P o ev H v H' := by
  have hex : ∀ (cev : Operand → Value) (w w' : World) (v : Value), (Builtin.clear_ #[t] o.type #[cev x]).run P w = .ok v w' → (execOp cev o).run P w = .ok (.value v) w' := by
    intro cev w w' v hr
    simp [execOp, ho, resolve, invoke, builtin, hr]
  have hX : ∀ {φ : Phi} {cev : Operand → Value}, (∀ x, x ∈ o.op.operands.toList → VR φ H (ev x) (cev x)) → VR φ H (ev x) (cev x) := fun hx =>
    hx x (by rw [ho]; simp [Op.operands, Call.operands])
  have hT : ∀ {φ : Phi} {H : Heap}, VR φ H (.tuple #[]) (.tuple #[]) := .tuple #[] #[] rfl fun i h => by simp at h
  unfold W.clear at h
  split at h
  · rename_i base n e ex
    split at h
    · rename_i hn
      subst hn
      refine ⟨_, _, h, .value fun φ w cev s hx => ?_⟩
      have rx := hX hx
      rw [ex] at rx
      obtain ⟨base', c, exv, hc⟩ := rx.of_slice'
      refine ⟨.tuple #[], w, φ, hex cev w w _ ?_, .refl s, hT⟩
      rw [exv]
      cases base' <;> simp [Builtin.clear_, run_underlying hu]
    · rename_i hn
      split at h
      · rename_i a
        split at h
        · rename_i H' hset
          refine ⟨_, _, h, .value fun φ w cev s hx => ?_⟩
          have rx := hX hx
          rw [ex] at rx
          obtain ⟨a', c, exv, har, hc⟩ := rx.of_slice
          have r0 : LR φ H (reps n z.cells.toList) (reps n z.cells.toList) := .plain (by
            rw [List.all_eq_true]
            intro v hv
            simp only [reps, List.mem_flatten, List.mem_replicate] at hv
            obtain ⟨l, ⟨_, rfl⟩, hv⟩ := hv
            exact List.all_eq_true.1 hp v hv)
          obtain ⟨w', hst, hext⟩ := s.setN har hset r0.1 r0.2 P
          refine ⟨.tuple #[], w', φ, hex cev w w' _ ?_, hext, hT⟩
          rw [exv]
          have hrr := range_reps z.cells n
          obtain ⟨m, rfl⟩ : ∃ m, n = m + 1 := ⟨n - 1, by omega⟩
          have hrl : List.map (fun i => z.cells[i % z.cells.size]!) (List.range ((m + 1) * z.cells.size)) = reps (m + 1) z.cells.toList := by
            have := congrArg Array.toList hrr
            simpa using this
          simp [Builtin.clear_, run_underlying hu, zeroValue, typeInfo, run_program, hi, hz, Builtin.zeroCells]
          rw [hrl, hst]
          rfl
        · exact h.elim
      · exact h.elim
  · exact h.elim

end
end Go.Ab

/-! Bytes that become a string, and an interface value held against nil: words and soundness. -/
namespace Go.Ab

section
variable {P : Program} {o : Oper} {ev : Operand → Value} {k : Post} {H : Heap}

/-- The numbers of cells that hold bytes. -/
def bytesOf : List Value → Option (List Int)
  | [] => some []
  | .int .u8 n :: r => (bytesOf r).map (n :: ·)
  | _ => none

theorem bytesOf_eq : ∀ {vs : List Value} {ns : List Int}, bytesOf vs = some ns → vs = ns.map (Value.int .u8)
  | [], ns, h => by simp only [bytesOf, Option.some.injEq] at h; subst h; rfl
  | v :: r, ns, h => by
    unfold bytesOf at h
    split at h
    · rename_i e; cases e
    · rename_i n r' e
      cases e
      obtain ⟨ms, h1, rfl⟩ := Option.map_eq_some_iff.1 h
      rw [bytesOf_eq h1]; rfl
    · cases h

/-- The string of some bytes. -/
def strOf (ns : List Int) : ByteArray := ns.foldl (fun r n => r.push (UInt8.ofNat n.toNat)) ByteArray.empty

def W.toStr (x : Value) (H : Heap) (k : Post) : Prop :=
  match x with
  | .slice none _ _ => k (.string .empty) H
  | .slice (some a) n _ => (match (H.getN a n).bind bytesOf with | some ns => k (.string (strOf ns)) H | none => False)
  | _ => False

theorem W.toStr_sound {src dst e : TypeId} {x : Operand} (ho : o.op = .convert src dst x) (hs : P.underlying src = some (.slice e)) (he : P.underlying e = some (.int .u8))
    (hd : P.underlying dst = some .string) (h : W.toStr (ev x) H k) : ∃ v H', k v H' ∧ OpStep P o ev H v H' := by
  unfold W.toStr at h
  split at h
  · rename_i n c e1
    refine ⟨_, _, h, .pure fun φ w cev s hx => ?_⟩
    have hx' := hx x (by rw [ho]; simp [Op.operands])
    rw [e1] at hx'
    refine ⟨.string .empty, ?_, .string _⟩
    rcases hx'.of_snil with ⟨h1, -, -⟩ | ⟨⟨a', c', h1⟩, -, -⟩
    · have := run_convert_bytes_string (P := P) w src dst e none 0 0 hs he hd
      simp [execOp, ho, h1, this, Conv.bytesToString]
    · have := run_convert_bytes_string (P := P) w src dst e (some a') 0 c' hs he hd
      have h0 := run_bytesToString (P := P) w a' 0 c' [] (by simp [loadCells, loadCellsFrom])
      simp [execOp, ho, h1, this, h0]
  · rename_i a n c e1
    split at h
    · rename_i ns hns
      refine ⟨_, _, h, .pure fun φ w cev s hx => ?_⟩
      have hx' := hx x (by rw [ho]; simp [Op.operands])
      rw [e1] at hx'
      refine ⟨.string (strOf ns), ?_, .string _⟩
      obtain ⟨a', c', h1, har, -⟩ := hx'.of_slice
      obtain ⟨vs, g1, g2⟩ := Option.bind_eq_some_iff.1 hns
      obtain ⟨vs', q1, q2, q3, q4⟩ := s.getN har g1
      have g3 := bytesOf_eq g2
      have e2 : vs' = vs := by
        apply List.ext_getElem?
        intro i
        by_cases hi : i < n
        · rw [List.getElem?_eq_getElem (by omega), List.getElem?_eq_getElem (by omega)]
          have := q4 i _ _ (List.getElem?_eq_getElem (show i < vs.length by omega)) (List.getElem?_eq_getElem (show i < vs'.length by omega))
          subst g3
          simp only [List.getElem_map] at this ⊢
          rw [this.of_int]
        · rw [List.getElem?_eq_none (by omega), List.getElem?_eq_none (by omega)]
      have hl := run_loadCells_list (P := P) w a' vs' q3
      rw [q1, e2, g3] at hl
      have := run_convert_bytes_string (P := P) w src dst e (some a') n c' hs he hd
      have h0 := run_bytesToString (P := P) w a' n c' ns hl
      simp [execOp, ho, h1, this, h0, strOf]
    · exact h.elim
  · exact h.elim

/-- An interface value held against the literal nil. -/
def W.eqNilI (c : Bool) (op : BinOp) (x y : Value) (H : Heap) (k : Post) : Prop :=
  match c, x, y with
  | true, .nilIface, .nilIface => (match neg? op true with | some v => k v H | none => False)
  | true, Value.iface _ _, .nilIface => (match neg? op false with | some v => k v H | none => False)
  | _, _, _ => False

def isC : Operand → Bool
  | .const _ => true
  | _ => false

theorem VR.of_nilIface {φ : Phi} {H : Heap} {v : Value} (h : VR φ H .nilIface v) : v = .nilIface := by cases h; rfl
theorem VR.of_iface {φ : Phi} {H : Heap} {t : TypeId} {u v : Value} (h : VR φ H (.iface t u) v) : ∃ u', v = .iface t u' := by cases h; exact ⟨_, rfl⟩

theorem equal_iface {w : World} {t : TypeId} {ms : Array (String × TypeId)} (hu : P.underlying t = some (.interface ms)) (t' : TypeId) (u : Value) :
    (Op.equal t (Value.iface t' u) Value.nilIface).run P w = .ok false w ∧ (Op.equal t .nilIface .nilIface).run P w = .ok true w := by
  constructor
  · show (Op.equalIn (9999 + 1) t _ _).run P w = _
    generalize 9999 = d
    simp only [Op.equalIn, Sem.run_bind, run_underlying hu, Result.andThen_ok]; rfl
  · show (Op.equalIn (9999 + 1) t _ _).run P w = _
    generalize 9999 = d
    simp only [Op.equalIn, Sem.run_bind, run_underlying hu, Result.andThen_ok]; rfl

theorem W.eqNilI_sound {op : BinOp} {t : TypeId} {ms : Array (String × TypeId)} {x y : Operand} {t' : TypeId} (ho : o.op = .binOp op t x y t') (hu : P.underlying t = some (.interface ms))
    (h : W.eqNilI (isC y) op (ev x) (ev y) H k) : ∃ v H', k v H' ∧ OpStep P o ev H v H' := by
  unfold W.eqNilI at h
  split at h
  · rename_i hc e1 e2
    split at h
    · rename_i v hv
      refine ⟨_, _, h, .pure fun φ w cev s hx => ?_⟩
      have hx' := hx x (by rw [ho]; simp [Op.operands])
      have hy' := hx y (by rw [ho]; simp [Op.operands])
      rw [e1] at hx'; rw [e2] at hy'
      have hq := (equal_iface (P := P) (w := w) hu t Value.nilIface).2
      refine ⟨v, ?_, ?_⟩
      · cases y with
        | const z =>
          rcases neg?_run hv with ⟨rfl, rfl⟩ | ⟨rfl, rfl⟩ <;>
            simp [execOp, ho, hx'.of_nilIface, hy'.of_nilIface, eqGuard, binOp, hq]
        | _ => cases hc
      · rcases neg?_run hv with ⟨-, rfl⟩ | ⟨-, rfl⟩ <;> exact .bool _
    · exact h.elim
  · rename_i t1 u hc e1 e2
    split at h
    · rename_i v hv
      refine ⟨_, _, h, .pure fun φ w cev s hx => ?_⟩
      have hx' := hx x (by rw [ho]; simp [Op.operands])
      have hy' := hx y (by rw [ho]; simp [Op.operands])
      rw [e1] at hx'; rw [e2] at hy'
      obtain ⟨u', hx'⟩ := hx'.of_iface
      have hq := (equal_iface (P := P) (w := w) hu t1 u').1
      refine ⟨v, ?_, ?_⟩
      · rcases neg?_run hv with ⟨rfl, rfl⟩ | ⟨rfl, rfl⟩ <;>
          simp [execOp, ho, hx', hy'.of_nilIface, eqGuard, binOp, hq]
      · rcases neg?_run hv with ⟨-, rfl⟩ | ⟨-, rfl⟩ <;> exact .bool _
    · exact h.elim
  · exact h.elim

end
end Go.Ab
