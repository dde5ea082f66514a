/- From a world of the model to the abstract heap, and back behind the call. -/
import Derived.Test.YtgdiebnokgnniaaGreatDoorZabG2
import Derived.Test.YtgdiebnokgnniaaGreatDoorZabG3
import Derived.ChangeArms
import Derived.DataReads
namespace Go.Ab
open Go.RowKit

/-- A value of the world, as the abstract heap may know it. -/
def sanAddr (w : World) (a : Addr) : Bool := a.spot.isNone && decide (a.block < w.heap.size)

def san (w : World) : Value → Value
  | .bool b => .bool b
  | .int k n => .int k n
  | .string s => .string s
  | .pointer none => .pointer none
  | .pointer (some a) => if sanAddr w a = true then .pointer (some a) else junk
  | .slice none n c => if n = 0 ∧ c = 0 then .slice none 0 0 else junk
  | .slice (some a) n c => if n = 0 then .slice none 0 1 else if sanAddr w a = true then .slice (some a) n (2 * c) else junk
  | .nilIface => .nilIface
  | .iface t _ => .iface t junk
  | _ => junk

def heapOf (w : World) : Heap where
  blk := fun b => match w.heap[b]? with | some (.cells arr ty _) => some { cells := arr.toList.map (san w), ty, esz := 1, ro := true } | _ => none
  next := max w.heap.size 4096

def phiOf (w : World) : Phi := fun b => match w.heap[b]? with | some (.cells arr _ _) => some (b, arr.size) | _ => none

theorem heapOf_some {w : World} {b : Nat} {k : Blk} (h : (heapOf w).blk b = some k) :
    ∃ arr ty fz, w.heap[b]? = some (.cells arr ty fz) ∧ k = { cells := arr.toList.map (san w), ty, esz := 1, ro := true } ∧ phiOf w b = some (b, arr.size) := by
  simp only [heapOf] at h
  split at h
  · rename_i arr ty fz e
    cases h
    exact ⟨arr, ty, fz, e, rfl, by simp only [phiOf, e]⟩
  · cases h

theorem heapOf_AR {w : World} {a : Addr} (h : sanAddr w a = true) : AR (phiOf w) (heapOf w) a a := by
  simp only [sanAddr, Bool.and_eq_true, Option.isNone_iff_eq_none, decide_eq_true_eq] at h
  exact ⟨h.1, h.1, rfl, Nat.lt_of_lt_of_le h.2 (Nat.le_max_left _ _), fun k hk => let ⟨arr, _, _, _, _, h⟩ := heapOf_some hk; ⟨arr.size, h⟩⟩

theorem san_VR (w : World) (v : Value) : VR (phiOf w) (heapOf w) (san w v) v := by
  unfold san
  split
  · exact .bool _
  · exact .int _ _
  · exact .string _
  · exact .pnil
  · split
    · exact .ptr (heapOf_AR (by assumption))
    · exact .junk _
  · split
    · rename_i h; obtain ⟨rfl, rfl⟩ := h; exact .snil
    · exact .junk _
  · split
    · rename_i h; subst h; exact .emp _ _
    split
    · refine .slice (heapOf_AR (by assumption)) ?_ fun k _ he => by omega
      unfold CR
      rw [if_pos (by omega)]
      omega
    · exact .junk _
  · exact .nilIface
  · exact .iface _ _ _ (.junk _)
  · exact .junk _

theorem heapOf_Sim (w : World) : Sim (phiOf w) (heapOf w) w where
  wf := fun b hb => by
    obtain ⟨k, hk⟩ := Option.ne_none_iff_exists'.1 hb
    obtain ⟨arr, ty, fz, h, _⟩ := heapOf_some hk
    have := (Array.getElem?_eq_some_iff.1 h).1
    simp only [heapOf]
    omega
  big := by simp only [heapOf]; omega
  glob := fun b k _ hk => by
    obtain ⟨arr, ty, fz, h, rfl, hp⟩ := heapOf_some hk
    exact ⟨rfl, by rw [hp]; simp⟩
  live := fun b x h => by
    simp only [phiOf] at h
    split at h
    · rename_i e; simp only [heapOf, e]; simp
    · cases h
  inj := fun b c cb r r' h1 h2 => by
    simp only [phiOf] at h1 h2
    split at h1
    · split at h2
      · cases h1; cases h2; rfl
      · cases h2
    · cases h1
  cells := fun b k cb r hk hb => by
    obtain ⟨arr, ty, fz, h, rfl, hp⟩ := heapOf_some hk
    rw [hp] at hb
    cases hb
    refine ⟨arr, fz, h, fun h => Bool.noConfusion h, by simp, rfl, fun i v hv => ?_⟩
    simp only [List.getElem?_map, Array.getElem?_toList] at hv
    cases ha : arr[i]? with
    | none => rw [ha] at hv; cases hv
    | some u =>
      rw [ha] at hv
      cases hv
      exact ⟨u, rfl, san_VR w u⟩

/-- What a contract says of the model's own call, where all that was may not be written. -/
theorem Runs.calls {P : Program} {f : FuncId} {args : Array Value} {Q : Post} {w : World} (h : Runs P f args (heapOf w) Q) {cargs : Array Value} (ra : VRs (phiOf w) (heapOf w) args cargs) :
    Calls P f cargs w fun e w' => ∃ v H' φ' cv, Q v H' ∧ e = .returned cv ∧ VR φ' H' v cv ∧ Below w.heap.size w w' := by
  obtain ⟨_, v, H', hr, hq⟩ := h
  refine (hr (phiOf w) w cargs (heapOf_Sim w) ra).mono fun e w' he => ?_
  obtain ⟨φ', cv, rfl, x, r⟩ := he
  refine ⟨v, H', φ', cv, hq, rfl, r, x.os, x.tape, x.output, x.size, fun k hk => x.frame k hk fun b kb r _ hb => ?_⟩
  obtain ⟨_, _, _, _, rfl, _⟩ := heapOf_some hb
  rfl

/-- A law that answers true. -/
theorem Runs.law {P : Program} {f : FuncId} {args : Array Value} {w : World} (h : Runs P f args (heapOf w) (fun v _ => v = .bool true)) {cargs : Array Value}
    (ra : VRs (phiOf w) (heapOf w) args cargs) : Calls P f cargs w fun e w' => e = .returned (.bool true) ∧ Below w.heap.size w w' :=
  (h.calls ra).mono fun e w' he => by
    obtain ⟨v, H', φ', cv, rfl, rfl, r, hb⟩ := he
    rw [r.of_bool]
    exact ⟨rfl, hb⟩

end Go.Ab
/-! How the law's arguments read on the abstract heap. -/
namespace Go.Ab
open Go.RowKit

/-- What the row reads at this type reads so on the abstract heap. -/
def ReadsT {α : Type} (P : Program) (t : TypeId) (r : Rd α) : Prop :=
  ∀ (X : Type) (enc : TypeId × Value → X) (w : World) (spare : Nat → Bool) (held : Bool) (fuel : Nat) (cs : List Value) (x : DataW X × List MemPlace), DataW.trod enc P w 0 spare held fuel t cs = some x →
    ∃ bs a, r.rel (heapOf w) bs (cs.map (san w)) a

theorem choose_list {α : Type} {R : Nat → α → Prop} : ∀ (n : Nat), (∀ i, i < n → ∃ a, R i a) → ∃ xs : List α, xs.length = n ∧ ∀ i (h : i < xs.length), R i xs[i]
  | 0, _ => ⟨[], rfl, fun i h => by simp at h⟩
  | n + 1, h => by
    obtain ⟨xs, hl, hx⟩ := choose_list n fun i hi => h i (by omega)
    obtain ⟨a, ha⟩ := h n (by omega)
    refine ⟨xs ++ [a], by simp [hl], fun i hi => ?_⟩
    by_cases h' : i < xs.length
    · rw [List.getElem_append_left h']; exact hx i h'
    · have e : i = xs.length := by simp at hi; omega
      subst e
      simp
      rw [hl]
      exact ha

theorem ReadsT.slice {α : Type} {P : Program} {t e : TypeId} {r : Rd α} (ht : P.underlying t = some (.slice e)) (hc : P.cellsOf e = r.n) (hpos : 0 < r.n) (h : ReadsT P e r) : ReadsT P t (Rd.slice r) := by
  intro X enc w spare held fuel cs x hx
  rcases DataW.trod_slice ht hx with ⟨rfl, _⟩ | ⟨a, len, cap, elems, rest, n, _, rfl, _, _, hlc, hcap, hel, heach, _, _⟩
  · exact ⟨[], [], .inl ⟨rfl, rfl, .inl rfl⟩⟩
  by_cases h0 : len = 0
  · subst h0
    exact ⟨[], [], .inl ⟨rfl, rfl, .inr (.inl (by simp [san]))⟩⟩
  -- the block
  have cells : ∀ i, i < len → ∃ ci, w.cells? 0 (a.add (i * P.cellsOf e)) (P.cellsOf e) = some ci ∧ ∃ y, DataW.trod enc P w 0 spare held n e ci = some y := fun i hi => by
    have h1 := heach i hi
    have h2 : ∃ y, elems[i]? = some y := ⟨_, List.getElem?_eq_getElem (by omega)⟩
    obtain ⟨y, hy⟩ := h2
    rw [hy, Option.bind_eq_some_iff] at h1
    obtain ⟨ci, h3, h4⟩ := h1
    exact ⟨ci, h3, y, h4⟩
  have blk : ∃ arr ty fz, w.heap[a.block]? = some (.cells arr ty fz) ∧ a.spot = none := by
    obtain ⟨c0, h1, _⟩ := cells 0 (by omega)
    obtain ⟨_, hl, hcell⟩ := World.cells?_some h1
    have := hcell 0 (by omega)
    rw [List.getElem?_eq_getElem (by omega)] at this
    unfold World.cell? at this
    split at this
    · rename_i arr ty fz hb
      split at this
      · cases this
      · rename_i hs
        refine ⟨arr, ty, fz, ?_, ?_⟩
        · rw [add_block, add_block] at hb; exact hb
        · unfold Addr.add at hs
          split at hs <;> (try split at hs) <;> simp_all
    · cases this
  obtain ⟨arr, ty, fz, hb, hsp⟩ := blk
  have cellAt : ∀ j, w.cell? (a.add j) = arr[a.off + j]? := fun j => by
    unfold World.cell?
    rw [add_block, hb]
    have : (a.add j).spot = none := by unfold Addr.add; split <;> simp [hsp]
    simp only [this, add_off]
    rfl
  have hblk : (heapOf w).blk a.block = some { cells := arr.toList.map (san w), ty, esz := 1, ro := true } := by simp only [heapOf, hb]
  have hlt : a.block < w.heap.size := (Array.getElem?_eq_some_iff.1 hb).1
  have hsan : sanAddr w a = true := by simp [sanAddr, hsp, hlt]
  have each : ∀ i, i < len → a.off + i * r.n + r.n ≤ arr.size ∧ ∃ p : List Nat × α, r.rel (heapOf w) p.1 (cellsAt r.n (arr.toList.map (san w)) a.off i) p.2 := fun i hi => by
    obtain ⟨ci, h1, y, h2⟩ := cells i hi
    obtain ⟨_, hl, hcell⟩ := World.cells?_some h1
    rw [hc] at hl hcell
    have hget : ∀ j, j < r.n → arr[a.off + i * r.n + j]? = ci[j]? := fun j hj => by
      have := hcell j hj
      have e2 : (a.add (i * r.n)).add j = a.add (i * r.n + j) := by
        cases a; simp only [Addr.add]
        split <;> split <;> split <;> simp_all <;> omega
      rw [e2, cellAt] at this
      rw [← this, Nat.add_assoc]
    have hroom : a.off + i * r.n + r.n ≤ arr.size := by
      have := hget (r.n - 1) (by omega)
      rw [List.getElem?_eq_getElem (by omega)] at this
      have := (Array.getElem?_eq_some_iff.1 this).1
      omega
    obtain ⟨bs, v, hr⟩ := h X enc w spare held n ci y h2
    refine ⟨hroom, (bs, v), ?_⟩
    have e3 : cellsAt r.n (arr.toList.map (san w)) a.off i = ci.map (san w) := by
      unfold cellsAt
      apply List.ext_getElem?
      intro j
      rw [List.getElem?_take]
      by_cases hj : j < r.n
      · rw [if_pos hj, List.getElem?_drop, List.getElem?_map, List.getElem?_map, Array.getElem?_toList, hget j hj]
      · rw [if_neg hj, List.getElem?_eq_none (by simp; omega)]
    rw [e3]
    exact hr
  obtain ⟨ps, hps, hrel⟩ := choose_list (R := fun i (p : List Nat × α) => r.rel (heapOf w) p.1 (cellsAt r.n (arr.toList.map (san w)) a.off i) p.2) len fun i hi => (each i hi).2
  refine ⟨a.block :: (List.range (ps.map (·.2)).length).flatMap (fun i => ((ps[i]?).map (·.1)).getD []), ps.map (·.2), .inr ⟨a.block, a.off, 2 * cap, _, fun i => ((ps[i]?).map (·.1)).getD [], rfl, ?_, ⟨Nat.lt_of_lt_of_le hlt (Nat.le_max_left _ _), hblk, ?_, ?_, ?_, fun i hi => ?_⟩⟩⟩
  · have : adr a.block a.off = a := by cases a; simp only at hsp; subst hsp; rfl
    simp [san, h0, hsan, this, hps]
  · simp [hps]; omega
  · have : maxLen < 9223372036854775808 := by decide
    simp [hps]; omega
  · have := (each (len - 1) (by omega)).1
    have e4 : (len - 1) * r.n + r.n = len * r.n := by
      rw [← Nat.succ_mul]; congr 1; omega
    simp [hps]
    omega
  · have hi' : i < ps.length := by simpa using hi
    have := hrel i hi'
    simp only [List.getElem?_eq_getElem hi', Option.map_some, Option.getD_some, List.getElem_map]
    exact this

/-- A struct's fields, one behind the other. -/
inductive FieldsR (P : Program) : Nat → {α : Type} → Rd α → List Field → Prop
  | one {α : Type} {o : Nat} {r : Rd α} {f : Field} (h : ReadsT P f.type r) (ho : f.offset = o) (hc : P.cellsOf f.type = r.n) : FieldsR P o r [f]
  | cons {α β : Type} {o o' : Nat} {r : Rd α} {s : Rd β} {f : Field} {gs : List Field} (h : ReadsT P f.type r) (hf : f.offset = o) (hc : P.cellsOf f.type = r.n) (ho : o + r.n = o') (h2 : FieldsR P o' s gs) : FieldsR P o (r.pair s) (f :: gs)

/-- An argument of one cell. -/
theorem arg_one {α : Type} {P : Program} {t : TypeId} {r : Rd α} {w : World} {v : Value} (hv : ∃ a len cap, v = .slice a len cap) (h : ReadsT P t r) {X : Type} {enc : TypeId × Value → X} {spare : Nat → Bool} {held : Bool} {d : DataW X} {ps : List MemPlace}
    (hx : DataW.Trod enc P w 0 spare held t v d ps) : ∃ bs a, r.rel (heapOf w) bs [san w v] a ∧ VR (phiOf w) (heapOf w) (san w v) v := by
  obtain ⟨a, len, cap, rfl⟩ := hv
  obtain ⟨fuel, hf⟩ := hx
  obtain ⟨bs, a, hr⟩ := h X enc w spare held fuel _ _ hf
  exact ⟨bs, a, hr, san_VR w _⟩

theorem VRs.one {φ : Phi} {H : Heap} {a b : Value} (h : VR φ H a b) : VRs φ H #[a] #[b] := ⟨rfl, fun i h1 h2 => by
  have : i = 0 := by simp at h1; omega
  subst this; exact h⟩

end Go.Ab
