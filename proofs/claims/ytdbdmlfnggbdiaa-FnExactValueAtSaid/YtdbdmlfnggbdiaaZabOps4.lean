/- Words that make: make, slicing, composites, function values; numbers' max and min; copy. -/
import Derived.Test.YtdbdmlfnggbdiaaZabOps3
namespace Go.Ab

def reps (c : Nat) (zc : List Value) : List Value := (List.replicate c zc).flatten

theorem reps_length (c : Nat) (zc : List Value) : (reps c zc).length = c * zc.length := by
  simp [reps, List.length_flatten]

theorem range_reps (zero : Array Value) (c : Nat) : (Array.range (c * zero.size)).map (fun i => zero[i % zero.size]!) = (reps c zero.toList).toArray := by
  induction c with
  | zero => simp [reps]
  | succ c ih =>
    apply Array.ext'
    have h1 : Array.range ((c + 1) * zero.size) = Array.range (c * zero.size) ++ (Array.range zero.size).map (c * zero.size + ·) := by
      rw [Nat.succ_mul, Array.range_add]
    have h2 : reps (c + 1) zero.toList = reps c zero.toList ++ zero.toList := by
      simp [reps, List.replicate_succ', List.flatten_append]
    rw [h1, Array.map_append, ih, h2]
    simp only [Array.toList_append, List.append_cancel_left_eq]
    apply List.ext_getElem?
    intro j
    simp only [Array.map_map, Array.toList_map, List.getElem?_map, Array.toList_range]
    by_cases hj : j < zero.size
    · have : (c * zero.size + j) % zero.size = j := by rw [Nat.mul_comm, Nat.mul_add_mod, Nat.mod_eq_of_lt hj]
      simp [hj, this]
    · simp [hj]

/-- make of a slice. -/
def W.make (zc : List Value) (ty : TypeId) (l c : Value) (H : Heap) (k : Post) : Prop :=
  match l, c with
  | .int _ n, .int _ m => 0 ≤ n ∧ n ≤ m ∧ m ≤ 1073741824 ∧ k (.slice (some ⟨H.next, 0, none⟩) n.toNat (2 * m.toNat)) (H.alloc (reps m.toNat zc) ty zc.length)
  | _, _ => False

/-- A slice of a slice. -/
def W.slice (sz : Nat) (x : Value) (lo hi : Option Value) (H : Heap) (k : Post) : Prop :=
  match x with
  | .slice base n e =>
    match (match lo with | none => some (0 : Int) | some (.int _ l) => some l | _ => none), (match hi with | none => some (n : Int) | some (.int _ h) => some h | _ => none) with
    | some l, some h =>
      0 ≤ l ∧ l ≤ h ∧ h ≤ (e / 2 : Nat) ∧
      (match base with
      | none => k (.slice none 0 e) H
      | some a =>
        if l.toNat = e / 2 then (if e % 2 = 0 then k (.slice (some a) 0 0) H else k (.slice none 0 1) H)
        else if l.toNat = 0 then k (.slice (some a) h.toNat e) H
        else (match H.blk a.block with | some kb => kb.esz = sz | none => False) ∧ k (.slice (some (a.add (l.toNat * sz))) (h.toNat - l.toNat) (e - 2 * l.toNat)) H)
    | _, _ => False
  | _ => False

/-- A slice of a slice whose capacity is told, too. -/
def W.slice3 (sz : Nat) (x lo hi mx : Value) (H : Heap) (k : Post) : Prop :=
  match x, lo, hi, mx with
  | .slice base _ e, .int _ l, .int _ h, .int _ m =>
      0 ≤ l ∧ l ≤ h ∧ h ≤ m ∧ m ≤ (e / 2 : Nat) ∧
      (match base with
      | none => e = 0 ∧ k (.slice none 0 0) H
      | some a => if l = m then k (.slice (some a) 0 0) H else k (.slice (some (a.add (l.toNat * sz))) (h.toNat - l.toNat) (2 * (m.toNat - l.toNat))) H)
  | _, _, _, _ => False

def W.sliceStr (x : Value) (lo hi : Option Value) (H : Heap) (k : Post) : Prop :=
  match x with
  | .string s =>
    match (match lo with | none => some (0 : Int) | some (.int _ l) => some l | _ => none), (match hi with | none => some (s.size : Int) | some (.int _ h) => some h | _ => none) with
    | some l, some h => 0 ≤ l ∧ l ≤ h ∧ h ≤ s.size ∧ k (.string (s.extract l.toNat h.toNat)) H
    | _, _ => False
  | _ => False

def W.max2 (x y : Value) (H : Heap) (k : Post) : Prop :=
  match x, y with | .int κ a, .int _ b => k (.int κ (if b > a then b else a)) H | _, _ => False

def W.min2 (x y : Value) (H : Heap) (k : Post) : Prop :=
  match x, y with | .int κ a, .int _ b => k (.int κ (if b < a then b else a)) H | _, _ => False

/-! ### Composites -/

def cellsA (v : Value) : Option (List Value) :=
  match v with
  | .agg vs => some vs.toList
  | v => if isCell v then some [v] else none

/-- Parts put in place: each with where it lies and how many cells it takes. -/
def fillA (cells : List Value) : List (Nat × Nat × Value) → Option (List Value)
  | [] => some cells
  | (off, sz, v) :: rest =>
    match cellsA v with
    | some vc => if vc.length = sz ∧ off + sz ≤ cells.length then fillA (cells.take off ++ vc ++ cells.drop (off + sz)) rest else none
    | none => none

def W.build (zero : List Value) (parts : List (Nat × Nat × Value)) (H : Heap) (k : Post) : Prop :=
  match fillA zero parts with | some cells => k (.agg cells.toArray) H | none => False

def W.lit (n : Nat) (zc : List Value) (ty : TypeId) (parts : List (Nat × Nat × Value)) (H : Heap) (k : Post) : Prop :=
  match fillA (reps n zc) parts with
  | some cells => k (.slice (some ⟨H.next, 0, none⟩) n (2 * n)) (H.alloc cells ty zc.length)
  | none => False

theorem foldl_set (l : List Value) (off : Nat) : ∀ (n : Nat) (arr : Array Value), off + n + l.length ≤ arr.size →
    ((l.zipIdx n).foldl (fun cs (p : Value × Nat) => cs.setIfInBounds (off + p.2) p.1) arr).toList = arr.toList.take (off + n) ++ l ++ arr.toList.drop (off + n + l.length) := by
  induction l with
  | nil => intro n arr _; simp
  | cons v l ih =>
    intro n arr h
    simp only [List.length_cons] at h
    simp only [List.zipIdx_cons, List.foldl_cons]
    rw [ih (n + 1) _ (by simp; omega)]
    have e := list_seg_step arr.toList (off + n) v l (by simp; omega)
    simp only [Array.toList_setIfInBounds, List.length_cons]
    rw [show off + (n + 1) = off + n + 1 by omega]
    exact e

section
variable {P : Program} {o : Oper} {ev : Operand → Value} {k : Post} {H : Heap} {φ : Phi}

/-- Lists whose values stand for each other. -/
def LR (φ : Phi) (H : Heap) (xs ys : List Value) : Prop := xs.length = ys.length ∧ ∀ (i : Nat) (v v' : Value), xs[i]? = some v → ys[i]? = some v' → VR φ H v v'

theorem LR.nil : LR φ H [] [] := ⟨rfl, fun i v v' h => by simp at h⟩

theorem LR.append {xs xs' ys ys' : List Value} (h1 : LR φ H xs xs') (h2 : LR φ H ys ys') : LR φ H (xs ++ ys) (xs' ++ ys') := by
  refine ⟨by simp [h1.1, h2.1], fun i v v' hv hv' => ?_⟩
  by_cases hi : i < xs.length
  · rw [List.getElem?_append_left hi] at hv
    rw [List.getElem?_append_left (by have := h1.1; omega)] at hv'
    exact h1.2 i v v' hv hv'
  · rw [List.getElem?_append_right (by omega)] at hv
    rw [List.getElem?_append_right (by have := h1.1; omega), ← h1.1] at hv'
    exact h2.2 _ v v' hv hv'

theorem LR.take {xs xs' : List Value} (h : LR φ H xs xs') (n : Nat) : LR φ H (xs.take n) (xs'.take n) := by
  refine ⟨by simp [h.1], fun i v v' hv hv' => ?_⟩
  rw [List.getElem?_take] at hv hv'
  split at hv
  · rename_i hi; rw [if_pos hi] at hv'; exact h.2 i v v' hv hv'
  · cases hv

theorem LR.drop {xs xs' : List Value} (h : LR φ H xs xs') (n : Nat) : LR φ H (xs.drop n) (xs'.drop n) := by
  refine ⟨by simp [h.1], fun i v v' hv hv' => ?_⟩
  rw [List.getElem?_drop] at hv hv'
  exact h.2 _ v v' hv hv'

theorem LR.plain {xs : List Value} (h : xs.all plainV = true) : LR φ H xs xs :=
  ⟨rfl, fun i v v' hv hv' => by rw [hv] at hv'; cases hv'; exact plainV_VR (List.all_eq_true.1 h _ (List.mem_of_getElem? hv))⟩

theorem LR.one {v v' : Value} (h : VR φ H v v') : LR φ H [v] [v'] :=
  ⟨rfl, fun i u u' hu hu' => by cases i with | zero => simp at hu hu'; subst hu; subst hu'; exact h | succ i => simp at hu⟩

theorem LR.arr {xs ys : Array Value} (hl : xs.size = ys.size) (h : ∀ i (h : i < xs.size) (h' : i < ys.size), VR φ H xs[i] ys[i]) : LR φ H xs.toList ys.toList :=
  ⟨by simpa using hl, fun i v v' hv hv' => by
    simp only [Array.getElem?_toList] at hv hv'
    obtain ⟨g1, rfl⟩ := Array.getElem?_eq_some_iff.1 hv
    obtain ⟨g2, rfl⟩ := Array.getElem?_eq_some_iff.1 hv'
    exact h i g1 g2⟩

theorem LR.agg {xs ys : List Value} (h : LR φ H xs ys) : VR φ H (.agg xs.toArray) (.agg ys.toArray) :=
  .agg _ _ (by simpa using h.1) fun i h1 h2 => h.2 i _ _ (by simp) (by simp)

theorem LR.cell {xs ys : List Value} (h : LR φ H xs ys) : ∀ (i : Nat) (v : Value), xs[i]? = some v → ∃ v', ys.toArray[i]? = some v' ∧ VR φ H v v' := by
  intro i v hv
  have hi : i < xs.length := (List.getElem?_eq_some_iff.1 hv).1
  have hi2 : i < ys.length := by have := h.1; omega
  exact ⟨ys[i], by simp [hi2], h.2 i v _ hv (by simp)⟩

theorem cellsA_VR {v v' : Value} {vc : List Value} (h : cellsA v = some vc) (r : VR φ H v v') : LR φ H vc v'.cells.toList := by
  unfold cellsA at h
  split at h
  · cases h
    obtain ⟨ys, rfl, hl, hr⟩ := r.of_agg
    exact LR.arr hl hr
  · split at h
    · rename_i hc
      cases h
      rw [(r.cell hc).1]
      exact .one r
    · cases h

theorem fill_run {place : Nat → Option (Nat × Nat)} : ∀ (ps : List (Nat × Value)) (pa : List (Nat × Nat × Value)) (cells : List Value) (cells' : Array Value) (out : List Value),
    fillA cells pa = some out → LR φ H cells cells'.toList → ps.length = pa.length →
    (∀ (j : Nat) (off sz : Nat) (v : Value), pa[j]? = some (off, sz, v) → ∃ i v', ps[j]? = some (i, v') ∧ place i = some (off, sz) ∧ VR φ H v v') →
    ∃ out', Instr.fill place cells' ps = some out' ∧ LR φ H out out'.toList
  | [], pa, cells, cells', out, h, r, hl, _ => by
    cases pa with
    | nil => simp only [fillA] at h; cases h; exact ⟨cells', rfl, r⟩
    | cons => simp at hl
  | (i, v') :: ps, pa, cells, cells', out, h, r, hl, hp => by
    cases pa with
    | nil => simp at hl
    | cons q pa =>
      obtain ⟨off, sz, v⟩ := q
      obtain ⟨i2, v2, e1, e2, e3⟩ := hp 0 off sz v rfl
      simp only [List.getElem?_cons_zero, Option.some.injEq, Prod.mk.injEq] at e1
      obtain ⟨rfl, rfl⟩ := e1
      simp only [fillA] at h
      split at h
      · rename_i vc hvc
        split at h
        · rename_i hc
          obtain ⟨hc1, hc2⟩ := hc
          have rv := cellsA_VR hvc e3
          have hvl : v'.cells.size = sz := by have := rv.1; simp at this; omega
          have hcl : cells'.size = cells.length := by have := r.1; simp at this; omega
          have hstep : (v'.cells.zipIdx.foldl (fun cs (p : Value × Nat) => cs.setIfInBounds (off + p.2) p.1) cells').toList = cells'.toList.take off ++ v'.cells.toList ++ cells'.toList.drop (off + sz) := by
            rw [← Array.foldl_toList, Array.toList_zipIdx]
            have := foldl_set v'.cells.toList off 0 cells' (by simp; omega)
            simpa [hvl] using this
          obtain ⟨out', g1, g2⟩ := fill_run ps pa _ (v'.cells.zipIdx.foldl (fun cs (p : Value × Nat) => cs.setIfInBounds (off + p.2) p.1) cells') out h
            (by rw [hstep]; exact ((r.take off).append rv).append (r.drop (off + sz))) (by simpa using hl)
            (fun j off sz v hj => by
              obtain ⟨i3, v3, f1, f2, f3⟩ := hp (j + 1) off sz v (by simpa using hj)
              exact ⟨i3, v3, by simpa using f1, f2, f3⟩)
          refine ⟨out', ?_, g2⟩
          simp only [Instr.fill, e2]
          rw [if_neg (by simp [hvl]; omega)]
          exact g1
        · cases h
      · cases h

/-! ### Each does what its operation does -/

theorem i64_wrap_small {n : Int} (h0 : 0 ≤ n) (h : n ≤ 1073741824) : IntKind.i64.wrap n = n := by
  simp [IntKind.wrap, IntKind.bits, IntKind.signed]
  omega

theorem W.make_sound {t e : TypeId} {l c : Operand} {i : TypeInfo} {z : Value} (ho : o.op = .makeSlice t l c) (hu : P.underlying t = some (.slice e)) (hi : P.info? e = some i) (hz : i.zero = some z)
    (hzs : z.cells.size = i.size) (hp : z.cells.toList.all plainV = true) (hb : i.bytes ≤ 1024) (h : W.make z.cells.toList e (ev l) (ev c) H k) : ∃ v H', k v H' ∧ OpStep P o ev H v H' := by
  unfold W.make at h
  split at h
  · rename_i κ n κ' m e1 e2
    obtain ⟨h1, h2, h3, h⟩ := h
    refine ⟨_, _, h, .value fun φ w cev s hx => ?_⟩
    have hl := hx l (by rw [ho]; simp [Op.operands])
    have hc := hx c (by rw [ho]; simp [Op.operands])
    rw [e1] at hl; rw [e2] at hc
    have r0 : LR φ H (reps m.toNat z.cells.toList) (reps m.toNat z.cells.toList) := .plain (by
      rw [List.all_eq_true]
      intro v hv
      simp only [reps, List.mem_flatten, List.mem_replicate] at hv
      obtain ⟨l, ⟨_, rfl⟩, hv⟩ := hv
      exact List.all_eq_true.1 hp v hv)
    obtain ⟨φ', g1, g2⟩ := s.alloc (reps m.toNat z.cells.toList) (reps m.toNat z.cells.toList).toArray e z.cells.toList.length (by simp) r0.cell
    refine ⟨.slice (some ⟨w.heap.size, 0, none⟩) n.toNat m.toNat, _, φ', ?_, g2, .slice (new_ptr g1) (by unfold CR; rw [if_pos (by omega)]; omega) (fun _ _ h => by omega)⟩
    have b1 : (i.bytes : Int) * n ≤ 1024 * 1073741824 := Int.mul_le_mul (by omega) (by omega) (by omega) (by omega)
    have b2 : (i.bytes : Int) * m ≤ 1024 * 1073741824 := Int.mul_le_mul (by omega) (by omega) (by omega) (by omega)
    simp only [execOp, ho, hl.of_int, hc.of_int, Instr.makeSlice, Sem.run_bind, run_underlying hu, Result.andThen_ok, asInt, asIntOf, Sem.run_pure, typeInfo, sizeOf,
      i64_wrap_small h1 (by omega : n ≤ 1073741824), i64_wrap_small (by omega : 0 ≤ m) h3]
    have t1 : (decide (m < 0) || decide ((i.bytes : Int) * m > 2 ^ 48) || decide (n < 0) || decide (n > m)) = false := by
      simp; omega
    simp only [run_program, Result.andThen_ok, hi, Sem.run_pure]
    rw [if_neg (by simp; omega)]
    simp only [Sem.run_bind, Sem.run_pure, askRoom]
    have hroom : ∀ W : World, (if m.toNat * i.bytes > roomBytes then mark Mark.noRoom else pure () : Sem Unit).run P W = .ok () W := by
      intro W; split <;> rfl
    simp only [hroom, run_program, Result.andThen_ok, hi, Sem.run_pure]
    by_cases hm : m.toNat * i.size = 0
    · rw [if_pos hm]
      simp only [Sem.run_pure, Result.andThen_ok, run_newRow, Sem.run_bind]
      have : reps m.toNat z.cells.toList = [] := by
        apply List.eq_nil_of_length_eq_zero
        rw [reps_length]
        simpa [hzs] using hm
      rw [this, hm]
      simp [Array.range_zero']
    · rw [if_neg hm]
      simp only [zeroValue, typeInfo, Sem.run_bind, run_program, Result.andThen_ok, hi, Sem.run_pure, hz, run_newRow]
      have hrr := range_reps z.cells m.toNat
      rw [hzs] at hrr
      rw [hzs, hrr]
  · exact h.elim

def lowOf (lo : Option Value) : Option Int := match lo with | none => some 0 | some (.int _ l) => some l | _ => none
def highOf (n : Nat) (hi : Option Value) : Option Int := match hi with | none => some n | some (.int _ h) => some h | _ => none

theorem sliceBound_run {w : World} {κ : IntKind} {n : Int} {y : Nat} {code : BoundsCode} (h0 : 0 ≤ n) (h1 : n ≤ y) : (Instr.sliceBound (.int κ n) y code).run P w = .ok n.toNat w := by
  simp [Instr.sliceBound, asIntOf, h0, h1]

/-- The bounds of a slicing with two numbers. -/
theorem sliceBounds_run {w : World} {b : Bool} {len cap : Nat} {lo hi : Option Value} {l h : Int} (hl : lowOf lo = some l) (hh : highOf len hi = some h) (h0 : 0 ≤ l) (h1 : l ≤ h) (h2 : h ≤ cap) :
    (Instr.sliceBounds b len cap lo hi none).run P w = .ok (l.toNat, h.toNat, cap) w := by
  have hlo : lo = none ∧ l = 0 ∨ ∃ κ, lo = some (.int κ l) := by
    unfold lowOf at hl
    split at hl
    · cases hl; exact .inl ⟨rfl, rfl⟩
    · cases hl; exact .inr ⟨_, rfl⟩
    · cases hl
  have hhi : hi = none ∧ h = len ∨ ∃ κ, hi = some (.int κ h) := by
    unfold highOf at hh
    split at hh
    · cases hh; exact .inl ⟨rfl, rfl⟩
    · cases hh; exact .inr ⟨_, rfl⟩
    · cases hh
  have hlh : l ≤ (h.toNat : Nat) := by omega
  rcases hlo with ⟨rfl, rfl⟩ | ⟨κ, rfl⟩ <;> rcases hhi with ⟨rfl, rfl⟩ | ⟨κ', rfl⟩ <;>
    simp [Instr.sliceBounds, sliceBound_run (P := P) (w := w) (by omega : 0 ≤ h) h2, sliceBound_run (P := P) (w := w) h0 hlh, -Int.ofNat_toNat] <;>
    (try (rw [sliceBound_run h0 (by omega)]; rfl))

theorem W.slice_sound {t e0 : TypeId} {x : Operand} {lo hi : Option Operand} {i : TypeInfo} (ho : o.op = .slice t x lo hi none) (hu : P.underlying t = some (.slice e0)) (hi0 : P.info? e0 = some i)
    (h : W.slice i.size (ev x) (lo.map ev) (hi.map ev) H k) : ∃ v H', k v H' ∧ OpStep P o ev H v H' := by
  unfold W.slice at h
  split at h
  · rename_i base n e ex
    split at h
    · rename_i l h' el eh
      obtain ⟨c0, c1, c2, h⟩ := h
      -- what stands in the world
      have conc : ∀ (φ : Phi) (w : World) (cev : Operand → Value), (∀ x, x ∈ o.op.operands.toList → VR φ H (ev x) (cev x)) →
          ∃ (base' : Option Addr) (c : Nat), cev x = .slice base' n c ∧ CR e c ∧ VR φ H (.slice base n e) (.slice base' n c) ∧
            (execOp cev o).run P w = .ok (.value (.slice (if c = l.toNat then base' else base'.map (·.add (l.toNat * i.size))) (h'.toNat - l.toNat) (c - l.toNat))) w := by
        intro φ w cev hx
        have hx' := hx x (by rw [ho]; simp [Op.operands])
        rw [ex] at hx'
        obtain ⟨base', c, ecx, hc⟩ := hx'.of_slice'
        have hcc : (h' : Int) ≤ c := by unfold CR at hc; split at hc <;> omega
        have hlo : lowOf (lo.map cev) = some l := by
          cases lo with
          | none => exact el
          | some y =>
            have hy := hx y (by rw [ho]; simp [Op.operands])
            simp only [Option.map_some] at el ⊢
            split at el
            · rename_i e1; cases e1
            · rename_i e1; cases el; simp only [Option.some.injEq] at e1; rw [e1] at hy; rw [hy.of_int]; rfl
            · cases el
        have hhi : highOf n (hi.map cev) = some h' := by
          cases hi with
          | none => exact eh
          | some y =>
            have hy := hx y (by rw [ho]; simp [Op.operands])
            simp only [Option.map_some] at eh ⊢
            split at eh
            · rename_i e1; cases e1
            · rename_i e1; cases eh; simp only [Option.some.injEq] at e1; rw [e1] at hy; rw [hy.of_int]; rfl
            · cases eh
        refine ⟨base', c, ecx, hc, by rw [← ecx]; exact hx', ?_⟩
        have hb := sliceBounds_run (P := P) (w := w) (b := true) (len := n) (cap := c) hlo hhi c0 c1 hcc
        simp only [execOp, ho, ecx, Instr.sliceAt, Sem.run_bind, run_underlying hu, Result.andThen_ok, Instr.slice, Option.map_none, hb, sizeOf_run hi0, Sem.run_pure]
      split at h
      · refine ⟨_, _, h, .pure fun φ w cev s hx => ?_⟩
        obtain ⟨base', c, ecx, hc, hr, hrun⟩ := conc φ w cev hx
        refine ⟨_, hrun, ?_⟩
        rcases hr.of_snil with ⟨h1, h2, h3⟩ | ⟨⟨a, c', h1⟩, h2, h3⟩
        · cases h1
          subst h3
          have : l.toNat = 0 := by omega
          have : h'.toNat = 0 := by omega
          simp [*]
        · cases h1
          subst h3
          have : l.toNat = 0 := by omega
          have : h'.toNat = 0 := by omega
          simp only [*, Nat.sub_zero]
          split <;> exact .emp _ _
      · rename_i a
        split at h
        · rename_i hle
          split at h
          · rename_i he
            refine ⟨_, _, h, .pure fun φ w cev s hx => ?_⟩
            obtain ⟨base', c, ecx, hc, hr, hrun⟩ := conc φ w cev hx
            refine ⟨_, hrun, ?_⟩
            simp only [CR, he, if_true] at hc
            rw [if_pos (by omega), show h'.toNat - l.toNat = 0 by omega, show c - l.toNat = 0 by omega]
            cases hr with
            | slice g1 g2 g3 => exact .slice g1 (by simp [CR]) (fun _ _ h => by omega)
          · refine ⟨_, _, h, .pure fun φ w cev s hx => ?_⟩
            obtain ⟨base', c, ecx, hc, hr, hrun⟩ := conc φ w cev hx
            refine ⟨_, hrun, ?_⟩
            rw [show h'.toNat - l.toNat = 0 by omega]
            cases hr with
            | slice g1 g2 g3 => split <;> exact .emp _ _
        · rename_i hle
          split at h
          · rename_i hl0
            refine ⟨_, _, h, .pure fun φ w cev s hx => ?_⟩
            obtain ⟨base', c, ecx, hc, hr, hrun⟩ := conc φ w cev hx
            refine ⟨_, hrun, ?_⟩
            rw [hl0]
            cases hr with
            | slice g1 g2 g3 =>
              simp only [Nat.zero_mul, Nat.sub_zero, Option.map_some, Addr.add, if_true, ite_self]
              exact .slice g1 g2 g3
          · rename_i hl0
            obtain ⟨hk, h⟩ := h
            refine ⟨_, _, h, .pure fun φ w cev s hx => ?_⟩
            obtain ⟨base', c, ecx, hc, hr, hrun⟩ := conc φ w cev hx
            refine ⟨_, hrun, ?_⟩
            have hcl : ¬ c = l.toNat := by unfold CR at hc; split at hc <;> omega
            rw [if_neg hcl]
            cases hr with
            | slice g1 g2 g3 =>
              refine .slice (g1.add _) ?_ ?_
              · unfold CR at hc ⊢
                split at hc
                · rw [if_pos (by omega)]; omega
                · rw [if_neg (by omega)]; omega
              · intro kb hkb he
                rw [add_block] at hkb
                rw [hkb] at hk
                obtain ⟨r, r1, r2⟩ := g3 kb hkb (by omega)
                refine ⟨r, by rw [add_block, add_block]; exact r1, ?_⟩
                rw [add_off]
                simp only at hk
                rw [hk] at r2 ⊢
                have hlc : l.toNat ≤ c := by unfold CR at hc; split at hc <;> omega
                have : l.toNat * i.size + (c - l.toNat) * i.size = c * i.size := by
                  rw [← Nat.add_mul]; congr 1; omega
                omega
    · exact h.elim
  · exact h.elim

theorem W.slice3_sound {t e0 : TypeId} {x lo hi mx : Operand} {i : TypeInfo} (ho : o.op = .slice t x (some lo) (some hi) (some mx)) (hu : P.underlying t = some (.slice e0)) (hi0 : P.info? e0 = some i)
    (h : W.slice3 i.size (ev x) (ev lo) (ev hi) (ev mx) H k) : ∃ v H', k v H' ∧ OpStep P o ev H v H' := by
  unfold W.slice3 at h
  split at h
  · rename_i base n e κ l κ' h' κ'' m ex el eh em
    obtain ⟨c0, c1, c2, c3, h⟩ := h
    have conc : ∀ (φ : Phi) (w : World) (cev : Operand → Value), (∀ x, x ∈ o.op.operands.toList → VR φ H (ev x) (cev x)) →
        ∃ (base' : Option Addr) (c : Nat), cev x = .slice base' n c ∧ CR e c ∧ VR φ H (.slice base n e) (.slice base' n c) ∧
          (execOp cev o).run P w = .ok (.value (.slice (if m.toNat = l.toNat then base' else base'.map (·.add (l.toNat * i.size))) (h'.toNat - l.toNat) (m.toNat - l.toNat))) w := by
      intro φ w cev hx
      have hx' := hx x (by rw [ho]; simp [Op.operands])
      rw [ex] at hx'
      obtain ⟨base', c, ecx, hc⟩ := hx'.of_slice'
      have hcc : (m : Int) ≤ c := by unfold CR at hc; split at hc <;> omega
      have hl := hx lo (by rw [ho]; simp [Op.operands])
      have hh := hx hi (by rw [ho]; simp [Op.operands])
      have hm := hx mx (by rw [ho]; simp [Op.operands])
      rw [el] at hl; rw [eh] at hh; rw [em] at hm
      refine ⟨base', c, ecx, hc, by rw [← ecx]; exact hx', ?_⟩
      simp only [execOp, ho, ecx, Instr.sliceAt, Sem.run_bind, run_underlying hu, Result.andThen_ok, Instr.slice, Option.map_some, Sem.run_pure, hl.of_int, hh.of_int, hm.of_int, Instr.sliceBounds]
      rw [sliceBound_run (by omega) hcc]
      simp only [Result.andThen_ok]
      rw [sliceBound_run (by omega) (by omega)]
      simp only [Result.andThen_ok]
      rw [sliceBound_run (by omega) (by omega)]
      simp only [Result.andThen_ok, sizeOf_run hi0]
    split at h
    · obtain ⟨he, h⟩ := h
      refine ⟨_, _, h, .pure fun φ w cev s hx => ?_⟩
      obtain ⟨base', c, ecx, hc, hr, hrun⟩ := conc φ w cev hx
      refine ⟨_, hrun, ?_⟩
      rcases hr.of_snil with ⟨h1, h2, h3⟩ | ⟨_, _, h3⟩
      · cases h1
        have e1 : l.toNat = 0 := by omega
        have e2 : h'.toNat = 0 := by omega
        have e3 : m.toNat = 0 := by omega
        rw [e1, e2, e3]
        exact .snil
      · omega
    · rename_i a
      split at h
      · rename_i hlm
        refine ⟨_, _, h, .pure fun φ w cev s hx => ?_⟩
        obtain ⟨base', c, ecx, hc, hr, hrun⟩ := conc φ w cev hx
        refine ⟨_, hrun, ?_⟩
        rw [if_pos (by omega), show h'.toNat - l.toNat = 0 by omega, show m.toNat - l.toNat = 0 by omega]
        cases hr with
        | slice g1 g2 g3 => exact .slice g1 (by simp [CR]) (fun _ _ h => by omega)
      · rename_i hlm
        refine ⟨_, _, h, .pure fun φ w cev s hx => ?_⟩
        obtain ⟨base', c, ecx, hc, hr, hrun⟩ := conc φ w cev hx
        refine ⟨_, hrun, ?_⟩
        rw [if_neg (by omega)]
        cases hr with
        | slice g1 g2 g3 =>
          refine .slice (g1.add _) ?_ (fun _ _ h => by omega)
          unfold CR
          rw [if_pos (by omega)]
          omega
  · exact h.elim

theorem W.sliceStr_sound {t : TypeId} {x : Operand} {lo hi : Option Operand} (ho : o.op = .slice t x lo hi none) (hu : P.underlying t = some .string)
    (h : W.sliceStr (ev x) (lo.map ev) (hi.map ev) H k) : ∃ v H', k v H' ∧ OpStep P o ev H v H' := by
  unfold W.sliceStr at h
  split at h
  · rename_i str ex
    split at h
    · rename_i l h' el eh
      obtain ⟨c0, c1, c2, h⟩ := h
      refine ⟨_, _, h, .pure fun φ w cev s hx => ?_⟩
      have hx' := hx x (by rw [ho]; simp [Op.operands])
      rw [ex] at hx'
      have hlo : lowOf (lo.map cev) = some l := by
        cases lo with
        | none => exact el
        | some y =>
          have hy := hx y (by rw [ho]; simp [Op.operands])
          simp only [Option.map_some] at el ⊢
          split at el
          · rename_i e1; cases e1
          · rename_i e1; cases el; simp only [Option.some.injEq] at e1; rw [e1] at hy; rw [hy.of_int]; rfl
          · cases el
      have hhi : highOf str.size (hi.map cev) = some h' := by
        cases hi with
        | none => exact eh
        | some y =>
          have hy := hx y (by rw [ho]; simp [Op.operands])
          simp only [Option.map_some] at eh ⊢
          split at eh
          · rename_i e1; cases e1
          · rename_i e1; cases eh; simp only [Option.some.injEq] at e1; rw [e1] at hy; rw [hy.of_int]; rfl
          · cases eh
      have hb := sliceBounds_run (P := P) (w := w) (b := false) (len := str.size) (cap := str.size) hlo hhi c0 c1 c2
      refine ⟨.string (str.extract l.toNat h'.toNat), ?_, .string _⟩
      simp [execOp, ho, hx'.of_string, Instr.sliceAt, run_underlying hu, Instr.slice, hb]
    · exact h.elim
  · exact h.elim

theorem W.max2_sound {ts : Array TypeId} {x y : Operand} (ho : o.op = .call { callee := .builtin .max, args := #[x, y], argTypes := ts })
    (h : W.max2 (ev x) (ev y) H k) : ∃ v H', k v H' ∧ OpStep P o ev H v H' := by
  unfold W.max2 at h
  split at h
  · rename_i κ a κ' b e1 e2
    refine ⟨_, _, h, .pure fun φ w cev s hx => ?_⟩
    have hx' := hx x (by rw [ho]; simp [Op.operands, Call.operands])
    have hy' := hx y (by rw [ho]; simp [Op.operands, Call.operands])
    rw [e1] at hx'; rw [e2] at hy'
    exact ⟨_, by simp [execOp, ho, resolve, invoke, builtin, hx'.of_int, hy'.of_int, Builtin.max_, Builtin.max2], .int ..⟩
  · exact h.elim

theorem W.min2_sound {ts : Array TypeId} {x y : Operand} (ho : o.op = .call { callee := .builtin .min, args := #[x, y], argTypes := ts })
    (h : W.min2 (ev x) (ev y) H k) : ∃ v H', k v H' ∧ OpStep P o ev H v H' := by
  unfold W.min2 at h
  split at h
  · rename_i κ a κ' b e1 e2
    refine ⟨_, _, h, .pure fun φ w cev s hx => ?_⟩
    have hx' := hx x (by rw [ho]; simp [Op.operands, Call.operands])
    have hy' := hx y (by rw [ho]; simp [Op.operands, Call.operands])
    rw [e1] at hx'; rw [e2] at hy'
    exact ⟨_, by simp [execOp, ho, resolve, invoke, builtin, hx'.of_int, hy'.of_int, Builtin.min_, Builtin.min2], .int ..⟩
  · exact h.elim

theorem W.build_sound {t : TypeId} {parts : Array (Nat × Operand)} {i : TypeInfo} {z : Value} {fs : Array Field} (ho : o.op = .build t parts) (hu : P.underlying t = some (.struct fs))
    (hi : P.info? t = some i) (hz : i.zero = some z) (hp : z.cells.toList.all plainV = true) (hf : fs.toList.all (fun f => (P.info? f.type).isSome) = true)
    (hin : parts.toList.all (fun p => (fs[p.1]?).isSome) = true)
    (h : W.build z.cells.toList (parts.toList.map fun p => (((fs[p.1]?).map (·.offset)).getD 0, ((fs[p.1]?).map fun f => P.cellsOf f.type).getD 0, ev p.2)) H k) : ∃ v H', k v H' ∧ OpStep P o ev H v H' := by
  unfold W.build at h
  split at h
  · rename_i cells hc
    refine ⟨_, _, h, .pure fun φ w cev s hx => ?_⟩
    have hplaces : (fs.mapM fun f => (do pure (f.offset, ← sizeOf f.type) : Sem (Nat × Nat))).run P w = .ok (fs.map fun f => (f.offset, P.cellsOf f.type)) w := by
      rw [Array.mapM_eq_mapM_toList]
      have key : ∀ l : List Field, l.all (fun f => (P.info? f.type).isSome) = true →
          (l.mapM fun f => (do pure (f.offset, ← sizeOf f.type) : Sem (Nat × Nat))).run P w = .ok (l.map fun f => (f.offset, P.cellsOf f.type)) w := by
        intro l
        induction l with
        | nil => intro _; simp
        | cons f l ih =>
          intro hl
          simp only [List.all_cons, Bool.and_eq_true] at hl
          obtain ⟨j, hj⟩ := Option.isSome_iff_exists.1 hl.1
          rw [List.mapM_cons]
          simp only [Sem.run_bind, sizeOf_run hj, Result.andThen_ok, Sem.run_pure, ih hl.2, List.map_cons, Program.cellsOf, hj, Option.map_some, Option.getD_some]
      simp only [Sem.run_map, key _ hf, Result.andThen_ok]
      congr 1
      apply Array.ext'
      simp
    obtain ⟨out', g1, g2⟩ := fill_run (φ := φ) (place := fun j => (fs.map fun f => (f.offset, P.cellsOf f.type))[j]?) ((parts.map fun p => (p.1, cev p.2)).toList) _ _ z.cells cells hc (.plain hp) (by simp)
      (fun j off sz v hj => by
        simp only [List.getElem?_map, Option.map_eq_some_iff] at hj
        obtain ⟨p, hp', he⟩ := hj
        have hmem : p ∈ parts.toList := List.mem_of_getElem? hp'
        obtain ⟨f, hf'⟩ := Option.isSome_iff_exists.1 (List.all_eq_true.1 hin p hmem)
        simp only [hf', Option.map_some, Option.getD_some, Prod.mk.injEq] at he
        obtain ⟨rfl, rfl, rfl⟩ := he
        refine ⟨p.1, cev p.2, ?_, by simp [hf'], hx p.2 ?_⟩
        · simp only [Array.toList_map, List.getElem?_map, hp', Option.map_some]
        · rw [ho]; simp only [Op.operands, List.mem_map]
          exact ⟨p, hmem, rfl⟩)
    refine ⟨.agg out', ?_, ?_⟩
    · simp only [execOp, ho, Instr.build, Sem.run_bind, zeroValue, typeInfo, run_program, Result.andThen_ok, hi, Sem.run_pure, hz, run_underlying hu, hplaces]
      have e : (Array.map (fun (x : Nat × Operand) => match x with | (i, x) => (i, cev x)) parts).toList = (parts.map fun p => (p.1, cev p.2)).toList := rfl
      rw [e, g1]
      rfl
    · have := g2.agg
      simpa using this
  · exact h.elim

theorem W.lit_sound {t e : TypeId} {n : Nat} {parts : Array (Nat × Operand)} {i : TypeInfo} {z : Value} (ho : o.op = .buildSlice t n parts) (hu : P.underlying t = some (.slice e))
    (hi : P.info? e = some i) (hz : i.zero = some z) (hzs : z.cells.size = i.size) (hp : z.cells.toList.all plainV = true) (hn : n * i.size ≤ 16777216)
    (h : W.lit n z.cells.toList e (parts.toList.map fun p => (p.1 * i.size, i.size, ev p.2)) H k) : ∃ v H', k v H' ∧ OpStep P o ev H v H' := by
  unfold W.lit at h
  split at h
  · rename_i cells hc
    refine ⟨_, _, h, .value fun φ w cev s hx => ?_⟩
    have hr : (Array.range (n * i.size)).map (fun j => z.cells[j % z.cells.size]!) = (reps n z.cells.toList).toArray := by rw [← hzs]; exact range_reps z.cells n
    obtain ⟨out', g1, g2⟩ := fill_run (H := H) (φ := φ) (place := fun j => some (j * i.size, i.size)) ((parts.map fun p => (p.1, cev p.2)).toList) _ _ ((reps n z.cells.toList).toArray) cells hc
      (by
        refine LR.plain ?_
        rw [List.all_eq_true]
        intro v hv
        simp only [reps, List.mem_flatten, List.mem_replicate] at hv
        obtain ⟨l, ⟨_, rfl⟩, hv⟩ := hv
        exact List.all_eq_true.1 hp v hv) (by simp)
      (fun j off sz v hj => by
        simp only [List.getElem?_map, Option.map_eq_some_iff] at hj
        obtain ⟨p, hp', he⟩ := hj
        have hmem : p ∈ parts.toList := List.mem_of_getElem? hp'
        simp only [Prod.mk.injEq] at he
        obtain ⟨rfl, rfl, rfl⟩ := he
        refine ⟨p.1, cev p.2, ?_, rfl, hx p.2 ?_⟩
        · simp only [Array.toList_map, List.getElem?_map, hp', Option.map_some]
        · rw [ho]; simp only [Op.operands, List.mem_map]
          exact ⟨p, hmem, rfl⟩)
    have hcl : cells.length ≤ out'.size := by have := g2.1; simp at this; omega
    obtain ⟨φ', h1, h2⟩ := s.alloc cells out' e z.cells.toList.length hcl (fun j v hj => by
      obtain ⟨v', q1, q2⟩ := g2.cell j v hj
      exact ⟨v', by simpa using q1, q2⟩)
    refine ⟨.slice (some ⟨w.heap.size, 0, none⟩) n n, _, φ', ?_, h2, .slice (new_ptr h1) (by unfold CR; rw [if_pos (by omega)]; omega) (fun _ _ h => by omega)⟩
    simp only [execOp, ho, Instr.buildSlice, Sem.run_bind, run_underlying hu, Result.andThen_ok, sizeOf_run hi]
    rw [if_neg (by omega)]
    have e : (Array.map (fun (x : Nat × Operand) => match x with | (i, x) => (i, cev x)) parts).toList = (parts.map fun p => (p.1, cev p.2)).toList := rfl
    by_cases h0 : n * i.size = 0
    · have hnil : reps n z.cells.toList = [] := List.eq_nil_of_length_eq_zero (by rw [reps_length]; simpa [hzs] using h0)
      rw [hnil] at g1
      have hr0 : (Array.range 0).map (fun j => (#[] : Array Value)[j % (#[] : Array Value).size]!) = ([] : List Value).toArray := by simp [Array.range_zero']
      rw [if_pos h0, h0]
      simp only [Sem.run_bind, Sem.run_pure, Result.andThen_ok, hr0]
      rw [e, g1]
      rfl
    · simp only [if_neg h0, Sem.run_bind, zeroValue, typeInfo, run_program, Result.andThen_ok, hi, Sem.run_pure, hz, hr]
      rw [e, g1]
      rfl
  · exact h.elim

theorem W.makeFunc_sound {f : FuncId} {first captured : Array Operand} (ho : o.op = .makeFunc (.func f) first captured) :
    OpStep P o ev H (.func (.func f) (first.map ev) (captured.map ev)) H :=
  .pure fun φ w cev s hx => by
    refine ⟨.func (.func f) (first.map cev) (captured.map cev), by simp [execOp, ho, Instr.makeFunc], .func _ _ _ _ _ (by simp) (by simp) ?_ ?_⟩
    · intro i h1 h2
      simp only [Array.getElem_map]
      exact hx _ (by rw [ho]; simp [Op.operands])
    · intro i h1 h2
      simp only [Array.getElem_map]
      exact hx _ (by rw [ho]; simp [Op.operands])

/-- append of so many zeros. -/
def W.appendZ (zc : List Value) (ty : TypeId) (x l : Value) (H : Heap) (k : Post) : Prop :=
  match l with
  | .int _ n => 0 ≤ n ∧ n ≤ 16777216 ∧ appendTo zc.length ty x n.toNat (reps n.toNat zc) k H
  | _ => False

theorem W.appendZ_sound {t t2 e0 : TypeId} {κ : IntKind} {x y : Operand} {i : TypeInfo} {z : Value} (ho : o.op = .call { callee := .builtin .append, args := #[x, y], argTypes := #[t, t2] })
    (hu : P.underlying t = some (.slice e0)) (hi : P.info? e0 = some i) (hz : i.zero = some z) (hzs : z.cells.size = i.size) (hp : z.cells.toList.all plainV = true) (hb : i.bytes ≤ 1024)
    (hu2 : P.underlying t2 = some (.int κ)) (h : W.appendZ z.cells.toList e0 (ev x) (ev y) H k) : ∃ v H', k v H' ∧ OpStep P o ev H v H' := by
  unfold W.appendZ at h
  split at h
  · rename_i κ' n e1
    obtain ⟨h1, h2, h⟩ := h
    have hzl : z.cells.toList.length = i.size := by simpa using hzs
    rw [hzl] at h
    have hY : ∀ {φ : Phi} {cev : Operand → Value}, (∀ x, x ∈ o.op.operands.toList → VR φ H (ev x) (cev x)) → cev y = .int κ' n := fun hx => by
      have := hx y (by rw [ho]; simp [Op.operands, Call.operands])
      rw [e1] at this
      exact this.of_int
    have hr : ∀ φ, LR φ H (reps n.toNat z.cells.toList) (reps n.toNat z.cells.toList) := fun φ => .plain (by
      rw [List.all_eq_true]
      intro v hv
      simp only [reps, List.mem_flatten, List.mem_replicate] at hv
      obtain ⟨l, ⟨_, rfl⟩, hv⟩ := hv
      exact List.all_eq_true.1 hp v hv)
    have hlen : (reps n.toNat z.cells.toList).length = n.toNat * i.size := by rw [reps_length, hzl]
    have hb1 : ¬ (n * (i.bytes : Int) > 2 ^ 48) := by
      have : n * (i.bytes : Int) ≤ 16777216 * 1024 := Int.mul_le_mul (by omega) (by omega) (by omega) (by omega)
      omega
    have hnew : ∀ W : World, (if n.toNat * i.size = 0 then pure #[] else do pure (Builtin.zeroCells (← zeroValue e0).cells n.toNat) : Sem (Array Value)).run P W = .ok (reps n.toNat z.cells.toList).toArray W := by
      intro W
      by_cases hm : n.toNat * i.size = 0
      · rw [if_pos hm]
        have : reps n.toNat z.cells.toList = [] := List.eq_nil_of_length_eq_zero (by omega)
        rw [this]
        rfl
      · rw [if_neg hm]
        simp [zeroValue, typeInfo, hi, hz, Builtin.zeroCells, range_reps]
    have hn0 : ¬ n < 0 := by omega
    have hb2 : ¬ 281474976710656 < n * (i.bytes : Int) := by omega
    have hw : IntKind.i64.wrap n = n := i64_wrap_small h1 (by omega : n ≤ 1073741824)
    refine appendTo_sound ho hlen (fun φ w cev s hx => ?_) (fun φ w cev s hx => ?_) h
    · refine ⟨reps n.toNat z.cells.toList, rfl, (hr φ).2, fun base m c e hle => ?_⟩
      rw [e, hY hx]
      by_cases hm : n.toNat * i.size = 0
      · have hnil : reps n.toNat z.cells.toList = [] := List.eq_nil_of_length_eq_zero (by omega)
        cases base <;> simp [Builtin.append_, run_underlying hu, run_underlying hu2, sizeOf_run hi, asInt, asIntOf, typeInfo, hi, hw, hn0, hb2, hle, hm, hnil]
      · cases base <;> simp [Builtin.append_, run_underlying hu, run_underlying hu2, sizeOf_run hi, asInt, asIntOf, typeInfo, hi, hw, hn0, hb2, hle, hm, zeroValue, hz, Builtin.zeroCells, range_reps]
    · refine ⟨reps n.toNat z.cells.toList, rfl, (hr φ).2, fun base m c old e hle hs hold => ?_⟩
      have hcap : ¬ Builtin.nextslicecap (m + n.toNat) c * i.bytes > 2 ^ 48 := by
        have h1 := nextslicecap_le (newLen := m + n.toNat) (oldCap := c) (by omega)
        have h2 : Builtin.nextslicecap (m + n.toNat) c * i.bytes ≤ (2 * 16777216 + 1024) * 1024 := Nat.mul_le_mul (by omega) hb
        omega
      have hmax : ¬ ((m + n.toNat : Nat) : Int) > IntKind.i64.max := by simp [IntKind.max, IntKind.signed, IntKind.bits]; omega
      rw [e, hY hx]
      refine ⟨(Question.appendCap (m + n.toNat) c e0).cut (w.tape w.drawn (.appendCap (m + n.toNat) c e0)), Builtin.zeroCells z.cells ((Question.appendCap (m + n.toNat) c e0).cut (w.tape w.drawn (.appendCap (m + n.toNat) c e0)) - (m + n.toNat)), ?_, ?_, ?_⟩
      · simp [Question.cut]
      · simp [Builtin.zeroCells, hzs]
      · have hcap2 : ¬ 281474976710656 < Builtin.nextslicecap (m + n.toNat) c * i.bytes := hcap
        have hm2 : ¬ IntKind.i64.max < (m : Int) + n := by simp [IntKind.max, IntKind.signed, IntKind.bits]; omega
        have hm3 : ¬ IntKind.i64.max < (m : Int) + (n.toNat : Int) := by simp [IntKind.max, IntKind.signed, IntKind.bits]; omega
        by_cases hm : n.toNat * i.size = 0
        · have hnil : reps n.toNat z.cells.toList = [] := List.eq_nil_of_length_eq_zero (by omega)
          simp [Builtin.append_, run_underlying hu, run_underlying hu2, sizeOf_run hi, asInt, asIntOf, typeInfo, hi, hw, hn0, hb2, hle, choose, Sem.run, Question.forced, askRoom, hm, hnil]
          rw [if_neg (by simp at hm2 ⊢; omega), if_neg (by omega)]
          simp [hold, zeroValue, typeInfo, hi, hz, run_newRow]
        · simp [Builtin.append_, run_underlying hu, run_underlying hu2, sizeOf_run hi, asInt, asIntOf, typeInfo, hi, hw, hn0, hb2, hle, choose, Sem.run, Question.forced, askRoom, hm]
          rw [if_neg (by simp at hm2 ⊢; omega), if_neg (by omega)]
          simp [hold, zeroValue, typeInfo, hi, hz, run_newRow, Builtin.zeroCells, range_reps]
  · exact h.elim

end
end Go.Ab
