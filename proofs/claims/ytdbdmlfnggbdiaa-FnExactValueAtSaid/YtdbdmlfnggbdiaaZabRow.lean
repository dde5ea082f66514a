/- From a world of the model to the abstract heap, and back behind the call. -/
import Derived.Test.YtdbdmlfnggbdiaaZabCode
namespace Go.Ab
open Go.RowKit

/-- A value of the world, as the abstract heap may know it. -/
def sanAddr (w : World) (a : Addr) : Bool := a.spot.isNone && decide (a.block < w.heap.size)

def san (w : World) : Value → Value
  | .bool b => .bool b
  | .int k n => .int k n
  | .string s => .string s
  | .pointer none => .pointer none
  | .pointer (some a) => if sanAddr w a = true then .pointer (some a) else junk
  | .slice none n c => if n = 0 ∧ c = 0 then .slice none 0 0 else junk
  | .slice (some a) n c => if n = 0 then .slice none 0 1 else if sanAddr w a = true then .slice (some a) n (2 * c) else junk
  | _ => junk

def heapOf (w : World) : Heap where
  blk := fun b => match w.heap[b]? with | some (.cells arr ty _) => some { cells := arr.toList.map (san w), ty, esz := 1, ro := true } | _ => none
  next := w.heap.size

def phiOf (w : World) : Phi := fun b => match w.heap[b]? with | some (.cells arr _ _) => some (b, arr.size) | _ => none

theorem heapOf_some {w : World} {b : Nat} {k : Blk} (h : (heapOf w).blk b = some k) :
    ∃ arr ty fz, w.heap[b]? = some (.cells arr ty fz) ∧ k = { cells := arr.toList.map (san w), ty, esz := 1, ro := true } ∧ phiOf w b = some (b, arr.size) := by
  simp only [heapOf] at h
  split at h
  · rename_i arr ty fz e
    cases h
    exact ⟨arr, ty, fz, e, rfl, by simp only [phiOf, e]⟩
  · cases h

theorem heapOf_AR {w : World} {a : Addr} (h : sanAddr w a = true) : AR (phiOf w) (heapOf w) a a := by
  simp only [sanAddr, Bool.and_eq_true, Option.isNone_iff_eq_none, decide_eq_true_eq] at h
  exact ⟨h.1, h.1, rfl, h.2, fun k hk => let ⟨arr, _, _, _, _, h⟩ := heapOf_some hk; ⟨arr.size, h⟩⟩

theorem san_VR (w : World) (v : Value) : VR (phiOf w) (heapOf w) (san w v) v := by
  unfold san
  split
  · exact .bool _
  · exact .int _ _
  · exact .string _
  · exact .pnil
  · split
    · exact .ptr (heapOf_AR (by assumption))
    · exact .junk _
  · split
    · rename_i h; obtain ⟨rfl, rfl⟩ := h; exact .snil
    · exact .junk _
  · split
    · rename_i h; subst h; exact .emp _ _
    split
    · refine .slice (heapOf_AR (by assumption)) ?_ fun k _ he => by omega
      unfold CR
      rw [if_pos (by omega)]
      omega
    · exact .junk _
  · exact .junk _

theorem heapOf_Sim (w : World) : Sim (phiOf w) (heapOf w) w where
  wf := fun b hb => by
    obtain ⟨k, hk⟩ := Option.ne_none_iff_exists'.1 hb
    obtain ⟨arr, ty, fz, h, _⟩ := heapOf_some hk
    exact (Array.getElem?_eq_some_iff.1 h).1
  live := fun b x h => by
    simp only [phiOf] at h
    split at h
    · rename_i e; simp only [heapOf, e]; simp
    · cases h
  inj := fun b c cb r r' h1 h2 => by
    simp only [phiOf] at h1 h2
    split at h1
    · split at h2
      · cases h1; cases h2; rfl
      · cases h2
    · cases h1
  cells := fun b k cb r hk hb => by
    obtain ⟨arr, ty, fz, h, rfl, hp⟩ := heapOf_some hk
    rw [hp] at hb
    cases hb
    refine ⟨arr, fz, h, fun h => Bool.noConfusion h, by simp, rfl, fun i v hv => ?_⟩
    simp only [List.getElem?_map, Array.getElem?_toList] at hv
    cases ha : arr[i]? with
    | none => rw [ha] at hv; cases hv
    | some u =>
      rw [ha] at hv
      cases hv
      exact ⟨u, rfl, san_VR w u⟩

/-- What a contract says of the model's own call, where all that was may not be written. -/
theorem Runs.calls {P : Program} {f : FuncId} {args : Array Value} {Q : Post} {w : World} (h : Runs P f args (heapOf w) Q) {cargs : Array Value} (ra : VRs (phiOf w) (heapOf w) args cargs) :
    Calls P f cargs w fun e w' => ∃ v H' φ' cv, Q v H' ∧ e = .returned cv ∧ VR φ' H' v cv ∧ Below w.heap.size w w' := by
  obtain ⟨_, v, H', hr, hq⟩ := h
  refine (hr (phiOf w) w cargs (heapOf_Sim w) ra).mono fun e w' he => ?_
  obtain ⟨φ', cv, rfl, x, r⟩ := he
  refine ⟨v, H', φ', cv, hq, rfl, r, x.os, x.tape, x.output, x.size, fun k hk => x.frame k hk fun b kb r _ hb => ?_⟩
  obtain ⟨_, _, _, _, rfl, _⟩ := heapOf_some hb
  rfl

/-- A law that answers true. -/
theorem Runs.law {P : Program} {f : FuncId} {args : Array Value} {w : World} (h : Runs P f args (heapOf w) (fun v _ => v = .bool true)) {cargs : Array Value}
    (ra : VRs (phiOf w) (heapOf w) args cargs) : Calls P f cargs w fun e w' => e = .returned (.bool true) ∧ Below w.heap.size w w' :=
  (h.calls ra).mono fun e w' he => by
    obtain ⟨v, H', φ', cv, rfl, rfl, r, hb⟩ := he
    rw [r.of_bool]
    exact ⟨rfl, hb⟩

theorem VRs.nil {φ : Phi} {H : Heap} : VRs φ H #[] #[] := ⟨rfl, fun i h => by simp at h⟩

end Go.Ab
